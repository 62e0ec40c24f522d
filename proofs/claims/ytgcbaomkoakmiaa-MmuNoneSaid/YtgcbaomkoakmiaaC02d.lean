/-
  Layer 2: contracts of the reference's TLB.
-/
import Derived.Test.YtgcbaomkoakmiaaC02c
set_option linter.unusedSimpArgs false
namespace Go.Proofs
open Go Go.Den

def tcell (p : Int × (Int × Bool)) : List Value := [.int .i64 p.1, .int .i64 p.2.1, .bool p.2.2]
def tvss (L : Tl) : List (List Value) := L.map tcell
theorem tvss_3 (L : Tl) : ∀ vs ∈ tvss L, vs.length = 3 := by
  intro vs hv
  simp only [tvss, List.mem_map] at hv
  obtain ⟨p, _, rfl⟩ := hv
  rfl
theorem tvss_cell (L : Tl) : ∀ u ∈ (tvss L).flatten, isCell u = true := by
  intro u hu
  simp only [List.mem_flatten, tvss, List.mem_map] at hu
  obtain ⟨vs, ⟨p, _, rfl⟩, hu⟩ := hu
  simp only [tcell, List.mem_cons, List.not_mem_nil, or_false] at hu
  rcases hu with rfl | rfl | rfl <;> rfl
theorem tvss_len (L : Tl) : (tvss L).flatten.length = L.length * 3 := by
  induction L with
  | nil => rfl
  | cons p L ih => simp only [tvss, List.map_cons, List.flatten_cons, List.length_append, List.length_cons] at ih ⊢; rw [ih]; simp [tcell]; omega
theorem tvss_snoc (L : Tl) (p : Int × (Int × Bool)) : (tvss (L ++ [p])).flatten = (tvss L).flatten ++ tcell p := by simp [tvss]

/-- The reference's TLB at block 'b'. -/
def TlbR (w : World) (b : Nat) (L : Tl) (F : List Nat) : Prop :=
  ∃ (a : Option Addr) (l c : Nat) (G : List Nat) (T : TypeId), w.heap[b]? = some (.cells #[.slice a l c] T (0, 0)) ∧ SlB w a l c 3 (tvss L).flatten G ∧ b ∉ G ∧ F = b :: G

theorem TlbR.keep {w w' : World} {b : Nat} {L : Tl} {F : List Nat} (h : TlbR w b L F) (hk : ∀ b ∈ F, w'.heap[b]? = w.heap[b]?) : TlbR w' b L F := by
  obtain ⟨a, l, c, G, T, h1, h2, h3, rfl⟩ := h
  exact ⟨a, l, c, G, T, (hk b (by simp)).trans h1, h2.keep fun x hx => hk x (by simp [hx]), h3, rfl⟩
theorem TlbR.lt {w : World} {b : Nat} {L : Tl} {F : List Nat} (h : TlbR w b L F) : ∀ x ∈ F, x < w.heap.size := by
  obtain ⟨a, l, c, G, T, h1, h2, h3, rfl⟩ := h
  intro x hx
  simp only [List.mem_cons] at hx
  rcases hx with rfl | hx
  · exact lt_of_get h1
  · exact h2.lt x hx

/-- What stands at a place. -/
theorem TlbR.at {w : World} {a : Option Addr} {l c : Nat} {L : Tl} {G : List Nat} (h : SlB w a l c 3 (tvss L).flatten G) {i : Nat} (hi : i < l) :
    ∃ ad p, a = some ad ∧ L[i]? = some p ∧ w.cell? (Addr.add ad (i * 3)) = some (.int .i64 p.1) ∧ w.cell? (Addr.add (Addr.add ad (i * 3)) 1) = some (.int .i64 p.2.1) ∧ w.cell? (Addr.add (Addr.add ad (i * 3)) 2) = some (.bool p.2.2) := by
  have hlen := h.length
  rw [tvss_len] at hlen
  obtain ⟨ad, vs, ha, hvs, hm, -, -, hc⟩ := h.rd.elem (by simp [tvss]; omega) (tvss_3 L) hi
  simp only [tvss, List.getElem?_map, Option.map_eq_some_iff] at hvs
  obtain ⟨p, hp, rfl⟩ := hvs
  exact ⟨ad, p, ha, hp, by have := hc 0 (by decide); rw [add_zero] at this; exact this, hc 1 (by decide), hc 2 (by decide)⟩

theorem tlook_first {L : Tl} {n : Int} {i : Nat} {p : Int × (Int × Bool)} (hp : L[i]? = some p) (hn : p.1 = n) (hb : ∀ j q, j < i → L[j]? = some q → q.1 ≠ n) : tlook L n = some p.2 := by
  induction L generalizing i with
  | nil => simp at hp
  | cons q L ih =>
    cases i with
    | zero => simp at hp; subst hp; simp [tlook, hn]
    | succ i =>
      have h0 := hb 0 q (by omega) (by simp)
      rw [tlook, if_neg h0]
      exact ih (by simpa using hp) fun j r hj hr => hb (j + 1) r (by omega) (by simpa using hr)
theorem tlook_all {L : Tl} {n : Int} (h : ∀ (j : Nat) q, L[j]? = some q → q.1 ≠ n) : tlook L n = none := by
  rw [tlook_none]
  intro hm
  simp only [tkeys, List.mem_map] at hm
  obtain ⟨q, hq, rfl⟩ := hm
  obtain ⟨j, hj⟩ := List.getElem?_of_mem hq
  exact h j q hj rfl

theorem tlbr_find {w : World} {b : Nat} {L : Tl} {F : List Nat} (h : TlbR w b L F) (hl3 : L.length ≤ 3) (n : Int) {K : Value → World → Prop} (h0 : tlook L n = none → K (.int .i64 (-1)) w)
    (h1 : ∀ (i : Nat) (p : Int × (Int × Bool)), L[i]? = some p → p.1 = n → tlook L n = some p.2 → K (.int .i64 (i : Int)) w) : CallsR Try.prog F_janusref02_Tlb_find #[.pointer (some ⟨b, 0, none⟩), .int .i64 n] w K := by
  apply R_janusref02_Tlb_find_ok
  simp only [R_janusref02_Tlb_find, nilK_some, spl_decide, spl_beq]
  obtain ⟨a, l, c, G, T, hb, hs, hbG, rfl⟩ := h
  have hlen := hs.length
  rw [tvss_len] at hlen
  have cb : w.cell? ⟨b, 0, none⟩ = some (.slice a l c) := by rw [cell_get hb]; rfl
  refine ⟨fun k i w' => ∃ j : Nat, i = j ∧ j ≤ l ∧ k = l - j ∧ w' = w ∧ ∀ i q, i < j → L[i]? = some q → q.1 ≠ n, ⟨l, 0, rfl, by omega, rfl, rfl, fun _ _ h => by omega⟩, ?_⟩
  rintro k i - w2 ⟨j, rfl, hj, rfl, rfl, hbef⟩
  refine ⟨a, l, c, cb, fun hlt => ⟨a, l, c, cb, ?_⟩, fun hge => h0 (tlook_all fun i q hq => hbef i q (by have := (List.getElem?_eq_some_iff.1 hq).1; omega) hq)⟩
  obtain ⟨ad, p, rfl, hp, c0, -, -⟩ := TlbR.at hs (i := j) (by omega)
  rw [nilK_some, Int.toNat_natCast]
  refine ⟨⟨by omega, by omega⟩, p.1, c0, fun heq => h1 j p hp heq (tlook_first hp heq hbef), fun hne => ⟨l - (j + 1), by omega, j + 1, by rw [w64 (by omega) (by omega)]; omega, by omega, rfl, rfl, fun i q hi hq => ?_⟩⟩
  rcases Nat.lt_or_ge i j with h | h
  · exact hbef i q h hq
  · obtain rfl : i = j := by omega
    rw [hp] at hq
    cases hq
    exact hne

theorem tlbr_pages {w : World} {b : Nat} {L : Tl} {F : List Nat} (h : TlbR w b L F) (hl3 : L.length ≤ 3) {K : Value → World → Prop} (hK : ∀ A N C G w', SlB w' A N C 1 (i64s (tkeys L)) G → Beyond w.heap.size G → Mod [] w w' → K (.slice A N C) w') :
    CallsR Try.prog F_janusref02_Tlb_Pages #[.pointer (some ⟨b, 0, none⟩)] w K := by
  apply R_janusref02_Tlb_Pages_ok
  simp only [R_janusref02_Tlb_Pages, nilK_some, spl_decide, newK_eq]
  obtain ⟨a, l, c, G, T, hb, hs, hbG, rfl⟩ := h
  have hlen := hs.length
  rw [tvss_len] at hlen
  have cb : ∀ {u : World}, Mod [] w u → u.cell? ⟨b, 0, none⟩ = some (.slice a l c) := fun hm => by rw [cell_get (hm.get hb (by simp))]; rfl
  refine ⟨fun k A N C i w' => ∃ (j : Nat) (G' : List Nat), i = j ∧ j ≤ l ∧ k = l - j ∧ SlB w' A N C 1 (i64s ((tkeys L).take j)) G' ∧ Beyond w.heap.size G' ∧ Mod [] w w', ⟨l, 0, [], rfl, by omega, rfl, SlB.nil _ 1, by simp [Beyond], Mod.refl _ _⟩, ?_⟩
  rintro k A N C i - w2 ⟨j, G', rfl, hj, rfl, hs2, hG2, hm2⟩
  refine ⟨a, l, c, cb hm2, fun hlt => ⟨a, l, c, cb hm2, ?_⟩, fun hge => ?_⟩
  · obtain ⟨ad, p, rfl, hp, c0, -, -⟩ := TlbR.at (hs.keep (hm2.at0 hs.lt)) (i := j) (by omega)
    have hl2 := hs2.i64
    rw [List.length_take] at hl2
    rw [nilK_some, Int.toNat_natCast]
    refine ⟨⟨by omega, by omega⟩, p.1, c0, ?_⟩
    refine push_K slT_int (by decide) hs2 hG2 hm2 (us := [.int .i64 p.1]) rfl (by simp [isCell]) (by omega) (by omega) fun A' C' w5 G' hs' hG' hm' _ _ => ⟨_, _, _, rfl, l - (j + 1), by omega, j + 1, G', by rw [w64 (by omega) (by omega)]; omega, by omega, rfl, ?_, hG', hm'⟩
    have e : (tkeys L).take (j + 1) = (tkeys L).take j ++ [p.1] := by
      rw [List.take_add_one, tkeys, List.getElem?_map, hp]; rfl
    rw [e, i64s_append]
    exact hs'
  · have : j = l := by omega
    subst this
    rw [List.take_of_length_le (by simp [tkeys]; omega)] at hs2
    exact hK A N C G' w2 hs2 hG2 hm2

theorem tlbr_drop {w : World} {b : Nat} {L : Tl} {F : List Nat} (h : TlbR w b L F) (hl3 : L.length ≤ 3) (n : Int) {K : Value → World → Prop} (hK : ∀ w' F', TlbR w' b (tlDrop L n) F' → Mod F w w' → Own w F F' → K (.tuple #[]) w') :
    CallsR Try.prog F_janusref02_Tlb_Drop #[.pointer (some ⟨b, 0, none⟩), .int .i64 n] w K := by
  apply R_janusref02_Tlb_Drop_ok
  simp only [R_janusref02_Tlb_Drop, nilK_some, spl_decide, spl_bne, newK_eq]
  obtain ⟨a, l, c, G, T, hb, hs, hbG, rfl⟩ := h
  have hlen := hs.length
  rw [tvss_len] at hlen
  have hblt := lt_of_get hb
  have cb : ∀ {u : World}, Mod [] w u → u.cell? ⟨b, 0, none⟩ = some (.slice a l c) := fun hm => by rw [cell_get (hm.get hb (by simp))]; rfl
  refine ⟨fun k A N C i w' => ∃ (j : Nat) (G' : List Nat), i = j ∧ j ≤ l ∧ k = l - j ∧ SlB w' A N C 3 (tvss (tlDrop (L.take j) n)).flatten G' ∧ Beyond w.heap.size G' ∧ Mod [] w w', ⟨l, 0, [], rfl, by omega, rfl, SlB.nil _ 3, by simp [Beyond], Mod.refl _ _⟩, ?_⟩
  rintro k A N C i - w2 ⟨j, G', rfl, hj, rfl, hs2, hG2, hm2⟩
  refine ⟨a, l, c, cb hm2, fun hlt => ?_, fun hge => ?_⟩
  · obtain ⟨ad, p, rfl, hp, c0, c1, c2⟩ := TlbR.at (hs.keep (hm2.at0 hs.lt)) (i := j) (by omega)
    have e : tlDrop (L.take (j + 1)) n = tlDrop (L.take j) n ++ tlDrop [p] n := by
      unfold tlDrop
      rw [List.take_add_one, hp, List.filter_append]; rfl
    have hl2 := hs2.length
    rw [tvss_len] at hl2
    have hfl := List.length_filter_le (fun p : Int × (Int × Bool) => p.1 ≠ n) (L.take j)
    rw [List.length_take] at hfl
    have hfl' : (tlDrop (L.take j) n).length ≤ 3 := Nat.le_trans hfl (by omega)
    refine ⟨fun A' N' C' w' => ∃ G', SlB w' A' N' C' 3 (tvss (tlDrop (L.take (j + 1)) n)).flatten G' ∧ Beyond w.heap.size G' ∧ Mod [] w w', ?_, some ad, l, c, cb hm2, ?_⟩
    · rintro A' N' C' - w3 ⟨G3, hs3, hG3, hm3⟩
      exact ⟨l - (j + 1), by omega, j + 1, G3, by rw [w64 (by omega) (by omega)]; omega, by omega, rfl, hs3, hG3, hm3⟩
    rw [nilK_some, Int.toNat_natCast]
    refine ⟨⟨by omega, by omega⟩, p.1, c0, fun hne => ⟨some ad, l, c, cb hm2, ?_⟩, fun heq => ?_⟩
    · rw [nilK_some]
      refine ⟨⟨by omega, by omega⟩, p.1, p.2.1, p.2.2, ⟨c0, c1, c2⟩, ?_⟩
      refine push_K slT_janusref02_Kept (by decide) hs2 hG2 hm2 (us := tcell p) rfl (by simp [isCell, tcell]) (by omega) (by omega) fun A' C' w5 G' hs' hG' hm' _ _ => ⟨_, _, _, rfl, G', ?_, hG', hm'⟩
      have e2 : tlDrop [p] n = [p] := by unfold tlDrop; rw [List.filter_cons_of_pos (by simpa using hne)]; rfl
      rw [e, e2, tvss_snoc]
      exact hs'
    · refine ⟨G', ?_, hG2, hm2⟩
      have e2 : tlDrop [p] n = [] := by unfold tlDrop; rw [List.filter_cons_of_neg (by simpa using heq)]; rfl
      rw [e, e2, List.append_nil]
      exact hs2
  · have : j = l := by omega
    subst this
    rw [List.take_of_length_le (by omega)] at hs2
    refine stK_of (hm2.get hb (by simp)) (by simp) ?_
    have hbG' : b ∉ G' := fun hx => by have := hG2 b hx; omega
    refine hK _ (b :: G') ⟨A, N, C, G', T, by rw [upd_same (hm2.get hb (by simp))]; simp, hs2.keep fun x hx => upd_ne _ (by rintro rfl; exact hbG' hx), hbG', rfl⟩ (hm2.of0.upd (.inl (by simp)) _) (fun x hx => ?_)
    simp only [List.mem_cons] at hx
    rcases hx with rfl | hx
    · exact .inl (by simp)
    · exact .inr (hG2 x hx)

theorem tlbr_flush {w : World} {b : Nat} {L : Tl} {F : List Nat} (h : TlbR w b L F) {K : World → Prop} (hK : ∀ w' F', TlbR w' b [] F' → Mod F w w' → Own w F F' → K w') : stK ⟨b, 0, none⟩ [.slice none 0 0] w K := by
  obtain ⟨a, l, c, G, T, hb, hs, hbG, rfl⟩ := h
  refine stK_of hb (by simp) ?_
  exact hK _ [b] ⟨none, 0, 0, [], T, by rw [upd_same hb]; simp, SlB.nil _ 3, by simp, rfl⟩ ((Mod.refl _ _).upd (.inl (by simp)) _) (fun x hx => .inl (by simp at hx; simp [hx]))

theorem tlbr_walk {w : World} {b : Nat} {L : Tl} {F : List Nat} (h : TlbR w b L F) (hok : TlOk L) {tb o : Nat} {arr : Array Value} {TT : TypeId} {t : Tb} (htb : w.heap[tb]? = some (.cells arr TT (0, 0))) (hA : TblA arr o t) {addr : Int} (h0 : 0 ≤ addr) (wr : Bool) {K : Value → World → Prop}
    (hK : ∀ w' F', TlbR w' b (tlWalk t L addr wr).1 F' → Mod F w w' → Own w F F' →
      K (.tuple #[.int .i64 (tlWalk t L addr wr).2.1.1, .int .i64 (tlWalk t L addr wr).2.1.2.1, .int .i64 (tlWalk t L addr wr).2.1.2.2, .bool (tlWalk t L addr wr).2.2]) w') :
    CallsR Try.prog F_janusref02_Tlb_Walk #[.pointer (some ⟨b, 0, none⟩), .pointer (some ⟨tb, o, none⟩), .int .u64 addr, .bool wr] w K := by
  apply R_janusref02_Tlb_Walk_ok
  simp only [R_janusref02_Tlb_Walk, nilK_some, addr_add, spl_decide, newK_eq, drK_eq]
  refine ⟨fun hge => ?_, fun hlt => ⟨by decide, ?_⟩⟩
  · have := hK w F (by unfold tlWalk; rw [if_pos (show 128 ≤ addr from hge)]; exact h) (Mod.refl _ _) (Own.refl _ _)
    unfold tlWalk at this
    rwa [if_pos (show 128 ≤ addr from hge)] at this
  have ha : addr < 128 := by omega
  rw [pg h0 ha, pw h0 ha]
  unfold tlWalk at hK
  rw [if_neg (by omega)] at hK
  have hle := hok.2
  have hFlt := h.lt
  -- what is asked behind both ways: the page is kept
  have tail : ∀ (hit : Int) (hitb : Bool), decide (hit ≥ 0) = hitb → ∀ (u : World) (L' : Tl) (F' : List Nat) (x : Int × Bool), TlbR u b L' F' → L'.length ≤ 3 → Mod F w u → Own w F F' → tlook L' (addr / 32) = some x →
      tlIn t L addr wr = (L', use3 x addr wr, hitb) →
      CallsR Try.prog F_janusref02_Tlb_find #[.pointer (some ⟨b, 0, none⟩), .int .i64 (addr / 32)] u fun v10 w11 => ∃ r12 : Int, v10 = .int .i64 r12 ∧ ∃ xA14 xL15 xC16, w11.cell? ⟨b, 0, none⟩ = some (.slice xA14 xL15 xC16) ∧ nilK xA14 fun a17 => (0 ≤ r12 ∧ r12 < ((xL15 : Nat) : Int)) ∧ ∃ xf018 xf119, (w11.cell? (Addr.add (Addr.add a17 (r12.toNat * 3)) 1) = some (.int .i64 xf018) ∧ w11.cell? (Addr.add (Addr.add (Addr.add a17 (r12.toNat * 3)) 1) 1) = some (.bool xf119)) ∧
        stK ⟨w11.heap.size, 0, none⟩ [.int .i64 xf018, .bool xf119] (w11.alloc (.cells #[.int .i64 0, .bool false] 24)) fun w22 => ∃ J23 : World → Prop, (∀ (_ : Nat → Value) (w24 : World), J23 w24 → ∃ x25, w24.cell? ⟨w11.heap.size, 0, none⟩ = some (.int .i64 x25) ∧ (32 : Int) ≠ 0 ∧ K (.tuple #[.int .i64 x25, .int .i64 (addr % 32), .int .i64 0, .bool (decide (hit ≥ 0))]) w24) ∧ spl wr (∃ x26, w22.cell? ⟨w11.heap.size, 1, none⟩ = some (.bool x26) ∧ spl x26 (J23 w22) (K (.tuple #[.int .i64 0, .int .i64 0, .int .i64 103, .bool (decide (hit ≥ 0))]) w22)) (J23 w22) := by
    intro hit hitb hhit u L' F' x hu hl3 hmu hou hlk hres
    rw [hhit]
    refine tlbr_find hu hl3 _ (fun hno => by rw [hlk] at hno; cases hno) (fun i p hp hp1 hlp => ⟨_, rfl, ?_⟩)
    have hu' := hu
    obtain ⟨a, l, c, G, T, hb, hs, hbG, rfl⟩ := hu
    have hlen := hs.length
    rw [tvss_len] at hlen
    have hi : i < l := by have := (List.getElem?_eq_some_iff.1 hp).1; omega
    obtain ⟨ad, q, rfl, hq, c0, c1, c2⟩ := TlbR.at hs hi
    rw [hp] at hq
    obtain rfl := Option.some.inj hq
    have hx : p.2 = x := by rw [hlk] at hlp; exact (Option.some.inj hlp).symm
    refine ⟨some ad, l, c, by rw [cell_get hb]; rfl, ?_⟩
    rw [nilK_some, Int.toNat_natCast]
    refine ⟨⟨by omega, by omega⟩, x.1, x.2, ⟨by rw [c1, hx], by rw [add_add (Addr.add ad (i * 3)) 1 1, c2, hx]⟩, ?_⟩
    refine stK_of (alloc_new _ _) (by simp) ?_
    simp only [splice_cons, splice_nil]
    have hm2 : Mod [] u ((u.alloc (.cells #[.int .i64 0, .bool false] 24)).upd u.heap.size (.cells ((#[.int .i64 0, .bool false] : Array Value).setIfInBounds 0 (.int .i64 x.1) |>.setIfInBounds (0 + 1) (.bool x.2)) 24 (0, 0))) := ((Mod.refl [] u).alloc _).upd (.inr (Nat.le_refl _)) _
    have hn := upd_same (x := .cells ((#[.int .i64 0, .bool false] : Array Value).setIfInBounds 0 (.int .i64 x.1) |>.setIfInBounds (0 + 1) (.bool x.2)) 24 (0, 0)) (alloc_new u (.cells #[.int .i64 0, .bool false] 24))
    generalize (u.alloc _).upd _ _ = u2 at hm2 hn ⊢
    have c0 : u2.cell? ⟨u.heap.size, 0, none⟩ = some (.int .i64 x.1) := by rw [cell_get hn]; rfl
    have c1 : u2.cell? ⟨u.heap.size, 1, none⟩ = some (.bool x.2) := by rw [cell_get hn]; rfl
    rw [hres] at hK
    have fin := hK u2 (b :: G) (hu'.keep (hm2.at0 hu'.lt)) (hmu.trans' hm2.of0) hou
    simp only at fin
    refine ⟨fun w' => w' = u2 ∧ ¬ (wr = true ∧ x.2 = false), ?_, ?_⟩
    · rintro - w' ⟨rfl, hnn⟩
      rw [use3, if_neg hnn] at fin
      exact ⟨_, c0, by decide, fin⟩
    · cases wr with
      | false => exact ⟨fun h => (by cases h), fun _ => ⟨rfl, by simp⟩⟩
      | true =>
        rw [spl_true]
        refine ⟨x.2, c1, ?_⟩
        cases hx2 : x.2 with
        | true => exact spl_t rfl ⟨rfl, by simp⟩
        | false =>
          rw [use3, if_pos ⟨rfl, hx2⟩] at fin
          exact spl_f rfl fin
  refine tlbr_find h (by omega) _ (fun hno => ⟨_, rfl, ?_⟩) (fun i p hp hp1 hlp => ⟨_, rfl, ?_⟩)
  · refine ⟨fun w' => ∃ (L' : Tl) (F' : List Nat) (x : Int × Bool), TlbR w' b L' F' ∧ L'.length ≤ 3 ∧ Mod F w w' ∧ Own w F F' ∧ tlook L' (addr / 32) = some x ∧
      tlIn t L addr wr = (L', use3 x addr wr, false), ?_, fun h => absurd h (by decide), fun _ => ?_⟩
    · rintro - u ⟨L', F', x, hu, hl3, hmu, hou, hlk, hres⟩
      exact tail (-1) false (by decide) u L' F' x hu hl3 hmu hou hlk hres
    refine tblr_at htb hA (addr / 32) fun w1 hm1 => ⟨_, _, _, rfl, ?_⟩
    refine stK_of (alloc_new _ _) (by simp) ?_
    simp only [splice_cons, splice_nil]
    obtain ⟨bn, hbn⟩ : ∃ bn, bn = w1.heap.size := ⟨_, rfl⟩
    have hm2 : Mod [] w ((w1.alloc (.cells #[.int .i64 0, .bool false] 24)).upd w1.heap.size (.cells ((#[.int .i64 0, .bool false] : Array Value).setIfInBounds 0 (.int .i64 (pz (t (addr / 32))).1) |>.setIfInBounds (0 + 1) (.bool (pz (t (addr / 32))).2)) 24 (0, 0))) := (hm1.alloc _).upd (.inr hm1.size) _
    have hn2 := upd_same (x := .cells ((#[.int .i64 0, .bool false] : Array Value).setIfInBounds 0 (.int .i64 (pz (t (addr / 32))).1) |>.setIfInBounds (0 + 1) (.bool (pz (t (addr / 32))).2)) 24 (0, 0)) (alloc_new w1 (.cells #[.int .i64 0, .bool false] 24))
    have hw1 := hm1.size
    generalize (w1.alloc _).upd _ _ = w2 at hm2 hn2 ⊢
    rw [← hbn] at hn2 ⊢
    cases htt : t (addr / 32) with
    | none =>
      rw [tlIn_no wr hno htt] at hK
      exact spl_f rfl (hK w2 F (h.keep (hm2.at0 h.lt)) hm2.of0 (Own.refl _ _))
    | some x =>
      rw [htt] at hn2
      have hu2 := h.keep (hm2.at0 h.lt)
      have hlk3 : tlook (L ++ [(addr / 32, x)]) (addr / 32) = some x := by rw [tlook_snoc L _ x hno, if_pos rfl]
      refine spl_t rfl ⟨fun w' => ∃ F', TlbR w' b (L ++ [(addr / 32, x)]) F' ∧ Mod F w w' ∧ Own w F F', ?_, ?_⟩
      · rintro - w3 ⟨F3, hu3, hm3, ho3⟩
        have hu3' := hu3
        obtain ⟨a, l, c, G, T, hb, hs, hbG, rfl⟩ := hu3
        have hlen := hs.length
        rw [tvss_len, List.length_append, List.length_singleton] at hlen
        have cb : w3.cell? ⟨b, 0, none⟩ = some (.slice a l c) := by rw [cell_get hb]; rfl
        refine ⟨a, l, c, cb, fun hgt => ⟨a, l, c, cb, ?_⟩, fun hle2 => ⟨_, _, x, hu3', by simp; omega, hm3, ho3, hlk3, ?_⟩⟩
        · have e : tlAdd L (addr / 32) x = (L ++ [(addr / 32, x)]).drop 1 := by
            unfold tlAdd; rw [if_pos (by simp; omega)]
          refine slK_of hs (L := 1) (H := l) (M := c) (.inl rfl) (.inr ⟨rfl, rfl⟩) (.inr ⟨rfl, rfl⟩) (by omega) (Nat.le_refl _) hs.le (Nat.le_refl _) fun a' _ hs' => ?_
          refine stK_of hb (by simp) ?_
          have e2 : (((tvss (L ++ [(addr / 32, x)])).flatten.drop (1 * 3)).take ((l - 1) * 3)) = (tvss (tlAdd L (addr / 32) x)).flatten := by
            rw [e]
            cases hc : L ++ [(addr / 32, x)] with
            | nil => simp at hc
            | cons q qs =>
              have hql : qs.length = l - 1 := by have := congrArg List.length hc; simp at this; omega
              rw [List.drop_one, List.tail_cons]
              simp only [tvss, List.map_cons, List.flatten_cons]
              rw [show 1 * 3 = (tcell q).length from rfl, List.drop_left, List.take_of_length_le]
              have := tvss_len qs
              unfold tvss at this
              omega
          rw [e2] at hs'
          refine ⟨tlAdd L (addr / 32) x, b :: G, x, ⟨a', l - 1, c - 1, G, T, by rw [upd_same hb]; simp, hs'.keep fun y hy => upd_ne _ (by rintro rfl; exact hbG hy), hbG, rfl⟩, by rw [e]; simp; omega, ?_, ho3, ?_, tlIn_add wr hno htt⟩
          · refine hm3.upd ?_ _
            rcases ho3 b (by simp) with h | h
            · exact .inl h
            · exact .inr h
          · have hnd := nodup_snoc hok.1 x hno
            rw [e]
            cases hc : L ++ [(addr / 32, x)] with
            | nil => simp at hc
            | cons q qs =>
              rw [hc] at hnd hlk3
              rw [List.drop_one, List.tail_cons, tlook_tail hnd, hlk3, if_neg]
              intro hq
              cases L with
              | nil => simp at hlen; omega
              | cons q' L' =>
                simp only [List.cons_append, List.cons.injEq] at hc
                rw [tlook, hc.1, if_pos hq] at hno
                cases hno
        · have e : tlAdd L (addr / 32) x = L ++ [(addr / 32, x)] := by
            unfold tlAdd; rw [if_neg (by simp; omega)]
          rw [tlIn_add wr hno htt, e]
      · -- the row grows: its copy and the new element come in either order
        obtain ⟨a, l, c, G, T, hb, hs, hbG, rfl⟩ := hu2
        have hlen := hs.length
        rw [tvss_len] at hlen
        have hbd : w2.drew.heap[b]? = some _ := hb
        have hnd : w2.drew.heap[bn]? = some _ := hn2
        have hsd := hs.keep (w' := w2.drew) fun _ _ => rfl
        have hblt := lt_of_get hbd
        have hnlt := lt_of_get hnd
        have cbd : w2.drew.cell? ⟨b, 0, none⟩ = some (.slice a l c) := by rw [cell_get hbd]; rfl
        have kp : ∀ {u : World}, Mod [] w2.drew u → keepB [b, bn] w2.drew u := fun hm y hy => by
          simp only [List.mem_cons, List.not_mem_nil, or_false] at hy
          rcases hy with rfl | rfl
          · exact hm.keep _ hblt (by simp)
          · exact hm.keep _ hnlt (by simp)
        have fin : ∀ {u : World} {A C G'}, Mod [] w2.drew u → SlB u A (0 + l + 1) C 3 ([] ++ (tvss L).flatten ++ tcell (addr / 32, x)) G' → Beyond w2.drew.heap.size G' → stK ⟨b, 0, none⟩ [.slice A (0 + l + 1) C] u fun w71 => ∃ F', TlbR w71 b (L ++ [(addr / 32, x)]) F' ∧ Mod (b :: G) w w71 ∧ Own w (b :: G) F' := fun {u A C G'} hm hsu hGu => by
          have hbu := hm.get hbd (by simp)
          have hbG' : b ∉ G' := fun hx => by have := hGu b hx; omega
          refine stK_of hbu (by simp) ?_
          refine ⟨b :: G', ⟨A, 0 + l + 1, C, G', T, by rw [upd_same hbu]; simp, ?_, hbG', rfl⟩, ((hm2.drew.trans' hm).of0).upd (.inl (by simp)) _, fun y hy => ?_⟩
          · rw [tvss_snoc]
            rw [List.nil_append] at hsu
            exact hsu.keep fun y hy => upd_ne _ (by rintro rfl; exact hbG' hy)
          · simp only [List.mem_cons] at hy
            rcases hy with rfl | hy
            · exact .inl (by simp)
            · have := hGu y hy; have := hm2.size; rw [drew_heap] at *; exact .inr (by omega)
        refine ⟨[b, bn], by simp, a, l, c, cbd, by simp, x.1, x.2, ⟨by rw [cell_get hnd]; rfl, by rw [cell_get hnd]; rfl⟩, ?_, ?_⟩
        · refine push_rd_K (w0 := w2.drew) slT_janusref02_Kept (by decide) (SlB.nil _ 3) (by simp [Beyond]) (Mod.refl [] _) hsd.rd (tvss_cell L) (by omega) (by omega) fun A' C' w5 G5 hs5 hG5 hm5 _ _ => ⟨_, _, _, rfl, kp hm5, kp (hm5.alloc _), ?_⟩
          refine push_K (w0 := w2.drew) slT_janusref02_Kept (by decide) hs5 hG5 hm5 (us := tcell (addr / 32, x)) rfl (by simp [isCell, tcell]) (by omega) (by omega) fun A6 C6 w6 G6 hs6 hG6 hm6 _ _ => ⟨_, _, _, rfl, kp hm6, fin hm6 hs6 hG6⟩
        · have hsn := SlB.new w2.drew (tcell (addr / 32, x)) 73 (l := 1) (sz := 3) rfl
          have hma : Mod [] w2.drew (w2.drew.alloc (.cells #[.int .i64 (addr / 32), .int .i64 x.1, .bool x.2] 73)) := (Mod.refl _ _).alloc _
          refine ⟨kp hma, ?_⟩
          refine push_rd_K (w0 := w2.drew) slT_janusref02_Kept (by decide) (SlB.nil _ 3) (by simp [Beyond]) hma (hsd.alloc _).rd (tvss_cell L) (by omega) (by omega) fun A' C' w5 G5 hs5 hG5 hm5 hmm _ => ⟨_, _, _, rfl, kp hm5, ?_⟩
          have hsn5 := hsn.keep (w' := w5) (hmm.at0 hsn.lt)
          refine push_rd_K (w0 := w2.drew) slT_janusref02_Kept (by decide) hs5 hG5 hm5 hsn5.rd (by simp [isCell, tcell]) (by omega) (by omega) fun A6 C6 w6 G6 hs6 hG6 hm6 _ _ => ⟨_, _, _, rfl, kp hm6, fin hm6 hs6 hG6⟩
  · have hlk := hlp
    refine ⟨fun w' => ∃ (L' : Tl) (F' : List Nat) (x : Int × Bool), TlbR w' b L' F' ∧ L'.length ≤ 3 ∧ Mod F w w' ∧ Own w F F' ∧ tlook L' (addr / 32) = some x ∧
      tlIn t L addr wr = (L', use3 x addr wr, true), ?_, fun _ => ?_, fun h => absurd (by omega) h⟩
    · rintro - u ⟨L', F', x, hu, hl3, hmu, hou, hlk, hres⟩
      exact tail (i : Int) true (by simp) u L' F' x hu hl3 hmu hou hlk hres
    · exact ⟨L, F, p.2, h, by omega, Mod.refl _ _, Own.refl _ _, hlp, tlIn_hit wr hlp⟩

end Go.Proofs
