/-
  Layer 11: contracts of the program's lines of messages.
-/
import Derived.Test.YtidfjfcmkjdpnaaU64
import Derived.Test.YtidfjfcmkjdpnaaDen14
import Derived.Test.YtidfjfcmkjdpnaaRes
set_option linter.unusedSimpArgs false
namespace Go.Proofs
open Go Go.Den

/-- A message: whose it is, its words; and as it lies in its row. -/
abbrev Msg := Int × List Int
abbrev PM := Int × Option Addr × Nat × Nat
def mcell (m : PM) : List Value := [.int .i64 m.1, .slice m.2.1 m.2.2.1 m.2.2.2]
def mrow (ph : List PM) : List Value := (ph.map mcell).flatten
theorem mrow_2 (ph : List PM) : ∀ vs ∈ ph.map mcell, vs.length = 2 := by
  intro vs hv
  simp only [List.mem_map] at hv
  obtain ⟨p, _, rfl⟩ := hv
  rfl
theorem mrow_cell (ph : List PM) : ∀ u ∈ mrow ph, isCell u = true := by
  intro u hu
  simp only [mrow, List.mem_flatten, List.mem_map] at hu
  obtain ⟨vs, ⟨p, _, rfl⟩, hu⟩ := hu
  simp only [mcell, List.mem_cons, List.not_mem_nil, or_false] at hu
  rcases hu with rfl | rfl <;> rfl
theorem mrow_len (ph : List PM) : (mrow ph).length = ph.length * 2 := by
  induction ph with
  | nil => rfl
  | cons p L ih => simp only [mrow, List.map_cons, List.flatten_cons, List.length_append, List.length_cons] at ih ⊢; rw [ih]; simp [mcell]; omega
theorem mrow_app (a b : List PM) : mrow (a ++ b) = mrow a ++ mrow b := by simp [mrow]
theorem mrow_take (ph : List PM) (n : Nat) : (mrow ph).take (n * 2) = mrow (ph.take n) := by
  induction ph generalizing n with
  | nil => simp [mrow]
  | cons p ph ih =>
    cases n with
    | zero => simp [mrow]
    | succ n =>
      have := ih n
      simp only [mrow, List.map_cons, List.flatten_cons, List.take_succ_cons] at this ⊢
      rw [show (n + 1) * 2 = (mcell p).length + n * 2 by simp [mcell]; omega, List.take_length_add_append, this]
theorem mrow_drop (ph : List PM) (n : Nat) : (mrow ph).drop (n * 2) = mrow (ph.drop n) := by
  induction ph generalizing n with
  | nil => simp [mrow]
  | cons p ph ih =>
    cases n with
    | zero => simp [mrow]
    | succ n =>
      have := ih n
      simp only [mrow, List.map_cons, List.flatten_cons, List.drop_succ_cons] at this ⊢
      rw [show (n + 1) * 2 = (mcell p).length + n * 2 by simp [mcell]; omega, List.drop_length_add_append, this]

/-- What lies in a row is a message; its words lie in the blocks 'W'. -/
def MsgOk (w : World) (W : List Nat) (m : PM) (x : Msg) : Prop := m.1 = x.1 ∧ ∃ H, Rd w m.2.1 m.2.2.1 1 (u64s x.2) H ∧ (∀ b ∈ H, b ∈ W) ∧ m.2.2.1 ≤ m.2.2.2 ∧ x.2.length ≤ 8
def MsgsOk (w : World) (W : List Nat) (ph : List PM) (ms : List Msg) : Prop := ph.length = ms.length ∧ ∀ (i : Nat) m x, ph[i]? = some m → ms[i]? = some x → MsgOk w W m x

theorem MsgOk.keep {w w' : World} {W : List Nat} {m : PM} {x : Msg} (h : MsgOk w W m x) (hk : ∀ b ∈ W, w'.heap[b]? = w.heap[b]?) : MsgOk w' W m x := by
  obtain ⟨h1, H, h2, h3, h4⟩ := h
  exact ⟨h1, H, h2.keep fun b hb => hk b (h3 b hb), h3, h4⟩
theorem MsgsOk.keep {w w' : World} {W : List Nat} {ph : List PM} {ms : List Msg} (h : MsgsOk w W ph ms) (hk : ∀ b ∈ W, w'.heap[b]? = w.heap[b]?) : MsgsOk w' W ph ms :=
  ⟨h.1, fun i m x hm hx => (h.2 i m x hm hx).keep hk⟩
theorem MsgsOk.mono {w : World} {W W' : List Nat} {ph : List PM} {ms : List Msg} (h : MsgsOk w W ph ms) (hk : ∀ b ∈ W, b ∈ W') : MsgsOk w W' ph ms :=
  ⟨h.1, fun i m x hm hx => by
    obtain ⟨h1, H, h2, h3, h4⟩ := h.2 i m x hm hx
    exact ⟨h1, H, h2, fun b hb => hk b (h3 b hb), h4⟩⟩
theorem MsgsOk.nil (w : World) (W : List Nat) : MsgsOk w W [] [] := ⟨rfl, fun i m x hm => by simp at hm⟩
theorem MsgsOk.append {w : World} {W : List Nat} {ph ph' : List PM} {ms ms' : List Msg} (h : MsgsOk w W ph ms) (h' : MsgsOk w W ph' ms') : MsgsOk w W (ph ++ ph') (ms ++ ms') := by
  refine ⟨by simp [h.1, h'.1], fun i m x hm hx => ?_⟩
  have hl := h.1
  by_cases hi : i < ph.length
  · rw [List.getElem?_append_left hi] at hm
    rw [List.getElem?_append_left (by omega)] at hx
    exact h.2 i m x hm hx
  · rw [List.getElem?_append_right (by omega)] at hm
    rw [List.getElem?_append_right (by omega), ← hl] at hx
    exact h'.2 _ m x hm hx
theorem MsgsOk.single {w : World} {W : List Nat} {m : PM} {x : Msg} (h : MsgOk w W m x) : MsgsOk w W [m] [x] := by
  refine ⟨rfl, fun i m' x' hm hx => ?_⟩
  cases i with
  | zero => cases hm; cases hx; exact h
  | succ i => simp at hm
theorem MsgsOk.cons {w : World} {W : List Nat} {m : PM} {x : Msg} {ph : List PM} {ms : List Msg} (h : MsgsOk w W (m :: ph) (x :: ms)) : MsgOk w W m x ∧ MsgsOk w W ph ms :=
  ⟨h.2 0 m x rfl rfl, by simpa using h.1, fun i m' x' hm hx => h.2 (i + 1) m' x' (by simpa using hm) (by simpa using hx)⟩

/-- A line of messages: its slice, and what it holds. -/
def LineP (w : World) (a : Option Addr) (l c : Nat) (ms : List Msg) (F W : List Nat) : Prop :=
  ∃ (ph : List PM) (G : List Nat), SlB w a l c 2 (mrow ph) G ∧ MsgsOk w W ph ms ∧ (∀ b ∈ W, b < w.heap.size) ∧ (∀ b ∈ G, b ∉ W) ∧ F = G ++ W

theorem LineP.lt {w : World} {a : Option Addr} {l c : Nat} {ms : List Msg} {F W : List Nat} (h : LineP w a l c ms F W) : ∀ b ∈ F, b < w.heap.size := by
  obtain ⟨ph, G, h1, h2, h3, h4, rfl⟩ := h
  intro b hb
  rcases List.mem_append.1 hb with h | h
  · exact h1.lt b h
  · exact h3 b h
theorem lt_keep {w w' : World} {b : Nat} (h : b < w.heap.size) (hk : w'.heap[b]? = w.heap[b]?) : b < w'.heap.size :=
  lt_of_get (hk.trans (Array.getElem?_eq_getElem h))
theorem LineP.keep {w w' : World} {a : Option Addr} {l c : Nat} {ms : List Msg} {F W : List Nat} (h : LineP w a l c ms F W) (hk : ∀ b ∈ F, w'.heap[b]? = w.heap[b]?) : LineP w' a l c ms F W := by
  obtain ⟨ph, G, h1, h2, h3, h4, rfl⟩ := h
  exact ⟨ph, G, h1.keep fun b hb => hk b (by simp [hb]), h2.keep fun b hb => hk b (by simp [hb]), fun b hb => lt_keep (h3 b hb) (hk b (by simp [hb])), h4, rfl⟩
theorem LineP.len {w : World} {a : Option Addr} {l c : Nat} {ms : List Msg} {F W : List Nat} (h : LineP w a l c ms F W) : ms.length = l := by
  obtain ⟨ph, G, h1, h2, h3, h4, rfl⟩ := h
  have := h1.length
  rw [mrow_len] at this
  have := h2.1
  omega
theorem LineP.nil (w : World) : LineP w none 0 0 [] [] [] := ⟨[], [], SlB.nil w 2, MsgsOk.nil w _, by simp, by simp, rfl⟩

/-- A message of a row. -/
theorem row_at {w : World} {a : Option Addr} {l c : Nat} {ph : List PM} {G : List Nat} (h : SlB w a l c 2 (mrow ph) G) {i : Nat} (hi : i < l) :
    ∃ ad m, a = some ad ∧ ph[i]? = some m ∧ w.cell? (Addr.add ad (i * 2)) = some (.int .i64 m.1) ∧ w.cell? (Addr.add (Addr.add ad (i * 2)) 1) = some (.slice m.2.1 m.2.2.1 m.2.2.2) := by
  have hlen := h.length
  rw [mrow_len] at hlen
  obtain ⟨ad, vs, ha, hvs, -, -, -, hc⟩ := h.rd.elem (vss := ph.map mcell) (by simp; omega) (mrow_2 ph) hi
  simp only [List.getElem?_map, Option.map_eq_some_iff] at hvs
  obtain ⟨m, hm, rfl⟩ := hvs
  exact ⟨ad, m, ha, hm, by have := hc 0 (by decide); rw [add_zero] at this; exact this, hc 1 (by decide)⟩

theorem clone_u64 {w : World} {a : Option Addr} {l c : Nat} {xs : List Int} {F : List Nat} (hs : Rd w a l 1 (u64s xs) F) (hb : l ≤ 1000000) {K : Value → World → Prop}
    (h : ∀ A C w' H, SlB w' A l C 1 (u64s xs) H → Beyond w.heap.size H → Mod [] w w' → K (.slice A l C) w') : CallsR Try.prog F_slices_Clone_uint64_uint64 #[.slice a l c] w K := by
  apply R_slices_Clone_uint64_uint64_ok
  refine clone_body slT_u64 (by decide) hs (u64s_cell _) (by omega) (by omega) h (fun ha hl => ?_)
  subst hl
  have := h none 0 w [] (by have := hs.u64; rw [List.eq_nil_of_length_eq_zero this]; exact SlB.nil w 1) (by simp [Beyond]) (Mod.refl _ _)
  exact this

theorem clone_msg {w : World} {a : Option Addr} {l c : Nat} {ph : List PM} {F : List Nat} (hs : Rd w a l 2 (mrow ph) F) (hb : l ≤ 1000000) {K : Value → World → Prop}
    (h : ∀ A C w' H, SlB w' A l C 2 (mrow ph) H → Beyond w.heap.size H → Mod [] w w' → K (.slice A l C) w') : CallsR Try.prog F_slices_Clone_exoipc_message_exoipc_message #[.slice a l c] w K := by
  apply R_slices_Clone_exoipc_message_exoipc_message_ok
  refine clone_body slT_exoipc_message (by decide) hs (mrow_cell _) (by omega) (by omega) h (fun ha hl => ?_)
  subst hl
  have hl0 := hs.length
  rw [mrow_len] at hl0
  have := h none 0 w [] (by have : ph = [] := List.eq_nil_of_length_eq_zero (by omega)
                            subst this; exact SlB.nil w 2) (by simp [Beyond]) (Mod.refl _ _)
  exact this

section
variable {w : World} {p k : Nat} {arr : Array Value} {T : TypeId} {a : Option Addr} {l c : Nat} {ms : List Msg} {F W : List Nat}

theorem line_push (hp : w.heap[p]? = some (.cells arr T (0, 0))) (hk : arr[k]? = some (.slice a l c)) (hL : LineP w a l c ms F W) (hpF : p ∉ F) (hl4 : l ≤ 1000) {from_ : Int} {wa : Option Addr} {wl wc : Nat} {ws : List Int} {H : List Nat}
    (hw : Rd w wa wl 1 (u64s ws) H) (hwc : wl ≤ wc) (hw8 : ws.length ≤ 8) (hHF : ∀ b ∈ H, b ∉ F) (hpH : p ∉ H) {K : Value → World → Prop}
    (hK : ∀ w' a' c' F', w'.heap[p]? = some (.cells (arr.setIfInBounds k (.slice a' (l + 1) c')) T (0, 0)) → LineP w' a' (l + 1) c' (ms ++ [(from_, ws)]) F' (W ++ H) → Mod (p :: F) w w' → (∀ b ∈ F', b ∈ F ∨ b ∈ H ∨ w.heap.size ≤ b) → (∀ b ∈ W, w'.heap[b]? = w.heap[b]?) → K (.tuple #[]) w') :
    CallsR Try.prog F_exoipc_line_exoipc_message_push #[.pointer (some ⟨p, k, none⟩), .agg #[.int .i64 from_, .slice wa wl wc]] w K := by
  apply R_exoipc_line_exoipc_message_push_ok
  simp only [R_exoipc_line_exoipc_message_push, newK_eq, drK_eq, nilK_some]
  obtain ⟨ph, G, hs, hms, hW, hGW, rfl⟩ := hL
  have hplt := lt_of_get hp
  have hklt : k < arr.size := (Array.getElem?_eq_some_iff.1 hk).1
  have hGlt := hs.lt
  have hHlt := hw.lt
  have hm1 : Mod [] w (w.alloc (.cells #[.int .i64 from_, .slice wa wl wc] 62)).drew := ((Mod.refl _ _).alloc _).drew
  have hb1 : (w.alloc (.cells #[.int .i64 from_, .slice wa wl wc] 62)).drew.heap[w.heap.size]? = some (.cells #[.int .i64 from_, .slice wa wl wc] 62) := alloc_new w _
  generalize hbn : w.heap.size = bn at hb1 ⊢
  generalize (w.alloc (.cells #[.int .i64 from_, .slice wa wl wc] 62)).drew = w1 at hm1 hb1 ⊢
  have hp1 := hm1.get hp (by simp)
  have hs1 := hs.keep (hm1.at0 hs.lt)
  have kp : ∀ {u : World}, Mod G w1 u → keepB [p, bn] w1 u := fun hm x hx => by
    simp only [List.mem_cons, List.not_mem_nil, or_false] at hx
    rcases hx with rfl | rfl
    · exact hm.keep _ (lt_of_get hp1) fun h => hpF (by simp [h])
    · exact hm.keep _ (lt_of_get hb1) fun h => by have := hGlt _ h; omega
  refine ⟨[p, bn], by simp, a, l, c, by rw [cell_get hp1]; exact hk, by simp, from_, wa, wl, wc, ⟨by rw [cell_get hb1]; rfl, by rw [cell_get hb1]; rfl⟩, kp ((Mod.refl _ _).alloc _), ?_⟩
  refine grow_K slT_exoipc_message (by decide) hs1 (us := mcell (from_, wa, wl, wc)) rfl (by simp [isCell, mcell]) (by omega) (by omega) fun A C w2 G2 hs2 hm2 ho2 => ⟨_, _, _, rfl, kp hm2, ?_⟩
  have hp2 := hm2.get hp1 (fun h => hpF (by simp [h]))
  have hs1sz := hm1.size
  have hG2 : ∀ b ∈ G2, b ∈ G ∨ w.heap.size ≤ b := fun b hb => (ho2 b hb).imp id fun h => by omega
  have hpG2 : p ∉ G2 := fun h => by
    rcases hG2 p h with h | h
    · exact hpF (by simp [h])
    · omega
  have hm02 : Mod G w w2 := hm1.of0.trans' hm2
  refine stK_of hp2 (by simp; omega) ?_
  simp only [splice_cons, splice_nil]
  have kW : ∀ x, x < w.heap.size → x ∉ G → p ≠ x → (w2.upd p (.cells (arr.setIfInBounds k (.slice A (l + 1) C)) T (0, 0))).heap[x]? = w.heap[x]? := fun x hx hxG hpx => by
    rw [upd_ne _ hpx]
    exact hm02.keep x hx hxG
  refine hK _ A C (G2 ++ (W ++ H)) (upd_same hp2) ⟨ph ++ [(from_, wa, wl, wc)], G2, ?_, ?_, ?_, ?_, rfl⟩ ((hm02.mono (by simp +contextual)).upd (.inl (by simp)) _) ?_ (fun b hb => kW b (hW b hb) (fun h => hGW b h hb) (by rintro rfl; exact hpF (by simp [hb])))
  · rw [mrow_app]
    have : mrow [(from_, wa, wl, wc)] = mcell (from_, wa, wl, wc) := by simp [mrow]
    rw [this]
    exact hs2.keep fun b hb => upd_ne _ (by rintro rfl; exact hpG2 hb)
  · refine MsgsOk.append ((hms.keep fun b hb => kW b (hW b hb) (fun h => hGW b h hb) (by rintro rfl; exact hpF (by simp [hb]))).mono (by simp +contextual)) (MsgsOk.single ⟨rfl, H, ?_, by simp +contextual, hwc, hw8⟩)
    exact hw.keep fun b hb => kW b (hHlt b hb) (fun h => hHF b hb (by simp [h])) (by rintro rfl; exact hpH hb)
  · intro b hb
    rw [upd_size]
    have := hm02.size
    rcases List.mem_append.1 hb with h | h
    · have := hW b h; omega
    · have := hHlt b h; omega
  · intro b hb hbW
    rcases hG2 b hb with h | h
    · rcases List.mem_append.1 hbW with h' | h'
      · exact hGW b h h'
      · exact hHF b h' (by simp [h])
    · rcases List.mem_append.1 hbW with h' | h'
      · have := hW b h'; omega
      · have := hHlt b h'; omega
  · intro b hb
    simp only [List.mem_append] at hb ⊢
    rcases hb with h | h | h
    · exact (hG2 b h).elim (fun h => .inl (.inl h)) fun h => .inr (.inr h)
    · exact .inl (.inr h)
    · exact .inr (.inl h)

theorem line_pop (hp : w.heap[p]? = some (.cells arr T (0, 0))) (hk : arr[k]? = some (.slice a l c)) (hL : LineP w a l c ms F W) (hpF : p ∉ F) (hl4 : l ≤ 1000) {K : Value → World → Prop}
    (h0 : ∀ w', ms = [] → Mod [] w w' → K (.tuple #[.agg #[.int .i64 0, .slice none 0 0], .bool false]) w')
    (hK : ∀ x ms' w' a' c' F' wa wl wc H, ms = x :: ms' → w'.heap[p]? = some (.cells (arr.setIfInBounds k (.slice a' (l - 1) c')) T (0, 0)) → LineP w' a' (l - 1) c' ms' F' W → Mod [p] w w' → (∀ b ∈ F', b ∈ F ∨ w.heap.size ≤ b) → Rd w' wa wl 1 (u64s x.2) H → (∀ b ∈ H, b ∈ W) → wl ≤ wc → x.2.length ≤ 8 → (∀ b ∈ W, w'.heap[b]? = w.heap[b]?) →
      K (.tuple #[.agg #[.int .i64 x.1, .slice wa wl wc], .bool true]) w') :
    CallsR Try.prog F_exoipc_line_exoipc_message_pop #[.pointer (some ⟨p, k, none⟩)] w K := by
  apply R_exoipc_line_exoipc_message_pop_ok
  simp only [R_exoipc_line_exoipc_message_pop, newK_eq, nilK_some, spl_beq]
  have hlen := hL.len
  obtain ⟨ph, G, hs, hms, hW, hGW, rfl⟩ := hL
  have hplt := lt_of_get hp
  have hklt : k < arr.size := (Array.getElem?_eq_some_iff.1 hk).1
  have hGlt := hs.lt
  have s1 := (Sep.nil (Mod.refl [] w)).alloc (.cells #[.int .i64 0, .slice none 0 0] 62)
  generalize w.alloc (.cells #[.int .i64 0, .slice none 0 0] 62) = w1 at s1 ⊢
  generalize w.heap.size = b1 at s1 ⊢
  have s2 := s1.alloc (.cells #[.int .i64 0, .slice none 0 0] 62)
  generalize w1.alloc (.cells #[.int .i64 0, .slice none 0 0] 62) = w2 at s2 ⊢
  generalize w1.heap.size = b2 at s2 ⊢
  have hp2 := s2.mod.get hp (by simp)
  have cp : w2.cell? ⟨p, k, none⟩ = some (.slice a l c) := by rw [cell_get hp2]; exact hk
  refine ⟨a, l, c, cp, fun hz => ?_, fun hnz => ?_⟩
  · have hb2 : w2.heap[b2]? = some _ := s2.nth 0 rfl
    refine ⟨0, none, 0, 0, ⟨by rw [cell_get hb2]; rfl, by rw [cell_get hb2]; rfl⟩, ?_⟩
    have hb1 : w2.heap[b1]? = some _ := s2.nth 1 rfl
    refine stK_of hb1 (by simp) ?_
    have hu := upd_same (x := .cells (splice #[.int .i64 0, .slice none 0 0] 0 [.int .i64 0, .slice none 0 0]) 62 (0, 0)) hb1
    refine ⟨0, none, 0, 0, ⟨by rw [cell_get hu]; rfl, by rw [cell_get hu]; rfl⟩, h0 _ (List.eq_nil_of_length_eq_zero (by omega)) (s2.mod.upd (.inr (s2.bey 1 rfl b1 (by simp [blk]))) _)⟩
  · have hs2 := hs.keep (s2.mod.at0 hs.lt)
    obtain ⟨ad, m, rfl, hm, c0, c1⟩ := row_at hs2 (i := 0) (by omega)
    simp only [Nat.zero_mul, add_zero] at c0 c1
    obtain ⟨x, ms', rfl⟩ : ∃ x ms', ms = x :: ms' := by
      cases ms with
      | nil => simp at hlen; omega
      | cons x ms' => exact ⟨x, ms', rfl⟩
    obtain ⟨ph', rfl⟩ : ∃ ph', ph = m :: ph' := by
      cases ph with
      | nil => simp at hm
      | cons y ph' => exact ⟨ph', by simp at hm; rw [hm]⟩
    obtain ⟨⟨hm1, H, hrd, hHW, hmc, hx8⟩, hms'⟩ := hms.cons
    refine ⟨some ad, l, c, cp, ?_⟩
    rw [nilK_some]
    refine ⟨⟨by omega, by omega⟩, m.1, m.2.1, m.2.2.1, m.2.2.2, ⟨c0, c1⟩, ?_⟩
    refine s2.stK rfl fun w3 s3 m3 => ?_
    generalize w2.heap.size = b3 at s3 ⊢
    have hp3 := s3.mod.get hp (by simp)
    refine ⟨some ad, l, c, by rw [cell_get hp3]; exact hk, ?_⟩
    have hs3 := hs.keep (s3.mod.at0 hs.lt)
    have hl2 := hs3.length
    rw [mrow_len] at hl2
    refine slK_rd hs3.rd hs3.le (L := 1) (H := l) (.inl rfl) (.inr ⟨rfl, rfl⟩) (by omega) (Nat.le_refl _) fun a4 G4 hr4 hG4 => ?_
    have e4 : ((mrow (m :: ph')).drop (1 * 2)).take ((l - 1) * 2) = mrow ph' := by
      rw [mrow_drop, mrow_take, List.drop_one, List.tail_cons, List.take_of_length_le (by simp at hl2; omega)]
    rw [e4] at hr4
    refine clone_msg hr4 (by omega) fun A C w5 G5 hs5 hG5 m5 => ⟨_, _, _, rfl, ?_⟩
    have s5 := s3.mod0 m5
    have hp5 := s5.mod.get hp (by simp)
    have hb5 : w5.heap[b3]? = some _ := s5.nth 0 rfl
    have hb15 : w5.heap[b1]? = some _ := s5.nth 2 rfl
    have hb3w := s3.bey 0 rfl b3 (by simp [blk])
    have hb1w := s3.bey 2 rfl b1 (by simp [blk])
    have hpb3 : p ≠ b3 := by omega
    have hpb1 : p ≠ b1 := by omega
    have hb31 : b3 ≠ b1 := fun e => s3.dj 0 2 (by decide) rfl rfl b3 (by simp [blk]) (by simp [blk, e])
    refine stK_of hp5 (by simp; omega) ?_
    simp only [splice_cons, splice_nil]
    have hp6 := upd_same (x := .cells (arr.setIfInBounds k (.slice A (l - 1) C)) T (0, 0)) hp5
    have m6 : Mod [p] w (w5.upd p (.cells (arr.setIfInBounds k (.slice A (l - 1) C)) T (0, 0))) := s5.mod.of0.upd (.inl (by simp)) _
    have k6 : ∀ x, p ≠ x → (w5.upd p (.cells (arr.setIfInBounds k (.slice A (l - 1) C)) T (0, 0))).heap[x]? = w5.heap[x]? := fun x hx => upd_ne _ hx
    generalize w5.upd p (.cells (arr.setIfInBounds k (.slice A (l - 1) C)) T (0, 0)) = w6 at hp6 m6 k6 ⊢
    have hb6 := (k6 b3 hpb3).trans hb5
    refine ⟨m.1, m.2.1, m.2.2.1, m.2.2.2, ⟨by rw [cell_get hb6]; rfl, by rw [cell_get hb6]; rfl⟩, ?_⟩
    have hb16 := (k6 b1 hpb1).trans hb15
    refine stK_of hb16 (by simp) ?_
    have hu := upd_same (x := .cells (splice #[.int .i64 0, .slice none 0 0] 0 [.int .i64 m.1, .slice m.2.1 m.2.2.1 m.2.2.2]) 62 (0, 0)) hb16
    have m7 : Mod [p] w (w6.upd b1 (.cells (splice #[.int .i64 0, .slice none 0 0] 0 [.int .i64 m.1, .slice m.2.1 m.2.2.1 m.2.2.2]) 62 (0, 0))) := m6.upd (.inr hb1w) _
    have k7 : ∀ x, b1 ≠ x → (w6.upd b1 (.cells (splice #[.int .i64 0, .slice none 0 0] 0 [.int .i64 m.1, .slice m.2.1 m.2.2.1 m.2.2.2]) 62 (0, 0))).heap[x]? = w6.heap[x]? := fun x hx => upd_ne _ hx
    refine ⟨m.1, m.2.1, m.2.2.1, m.2.2.2, ⟨by rw [cell_get hu]; rfl, by rw [cell_get hu]; rfl⟩, ?_⟩
    generalize w6.upd b1 _ = w7 at m7 k7 ⊢
    have hw3 := s3.mod.size
    have hG5' : ∀ b ∈ G5, w.heap.size ≤ b := fun b hb => by have := hG5 b hb; omega
    have hb1G5 : b1 ∉ G5 := fun h => by
      have h1 := hG5 b1 h
      have h2 : b1 < w3.heap.size := lt_of_get (show w3.heap[b1]? = some _ from s3.nth 2 rfl)
      omega
    have hpG5 : p ∉ G5 := fun h => by have := hG5' p h; omega
    have kF : ∀ b ∈ W, w7.heap[b]? = w.heap[b]? := fun b hb => m7.keep b (hW b hb) (by simp; rintro rfl; exact hpF (by simp [hb]))
    rw [hm1]
    refine hK x ms' w7 A C (G5 ++ W) m.2.1 m.2.2.1 m.2.2.2 H rfl ((k7 p (Ne.symm hpb1)).trans hp6) ⟨ph', G5, ?_, hms'.keep kF, fun b hb => lt_keep (hW b hb) (kF b hb), fun b hb hbW => by have := hG5' b hb; have := hW b hbW; omega, rfl⟩ m7 ?_ (hrd.keep fun b hb => kF b (hHW b hb)) hHW hmc hx8 kF
    · exact hs5.keep fun b hb => (k7 b (by rintro rfl; exact hb1G5 hb)).trans (k6 b (by rintro rfl; exact hpG5 hb))
    · intro b hb
      simp only [List.mem_append] at hb ⊢
      rcases hb with h | h
      · exact .inr (hG5' b h)
      · exact .inl (.inr h)
end

end Go.Proofs
