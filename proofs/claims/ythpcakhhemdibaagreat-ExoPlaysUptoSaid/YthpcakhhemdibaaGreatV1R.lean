/-
  Layer 10: contracts of the reference's environments.
  Layer 11: contracts of the reference's messages.
-/
import Derived.Test.YthpcakhhemdibaaGreatV1A
import Derived.Test.YthpcakhhemdibaaGreatDenC
import Derived.Test.YthpcakhhemdibaaGreatD3rA
import Derived.Test.YthpcakhhemdibaaGreatRCapsA
set_option linter.unusedVariables false
set_option linter.unusedSimpArgs false
namespace Go.Proofs.V10
open Go Go.Den

def upc (u : Int × Int) : List Value := [.int .i64 u.1, .int .u64 u.2]
/-- The reference's environments at block 'p'. -/
def RP (w : World) (p : Nat) (s : S10) (F : List Nat) : Prop :=
  W10 s ∧ 1 ≤ s.V.length ∧ s.V.length ≤ 64 ∧ ∃ a1 l1 c1 G1 a2 l2 c2 G2 a3 l3 c3 G3 T, w.heap[p]? = some (.cells #[.slice a1 l1 c1, .slice a2 l2 c2, .slice a3 l3 c3] T (0, 0)) ∧ SlB w a1 l1 c1 1 (i64s s.L) G1 ∧ SlB w a2 l2 c2 1 (i64s s.V) G2 ∧ SlB w a3 l3 c3 2 (rows upc s.U) G3 ∧
    p ∉ G1 ∧ p ∉ G2 ∧ p ∉ G3 ∧ (∀ b ∈ G2, b ∉ G1) ∧ (∀ b ∈ G2, b ∉ G3) ∧ F = p :: (G1 ++ (G2 ++ G3))
theorem RP.lt {w : World} {p : Nat} {s : S10} {F : List Nat} (h : RP w p s F) : ∀ b ∈ F, b < w.heap.size := by
  obtain ⟨-, -, -, a1, l1, c1, G1, a2, l2, c2, G2, a3, l3, c3, G3, T, h1, h2, h3, h4, -, -, -, -, -, rfl⟩ := h
  intro b hb
  simp only [List.mem_cons, List.mem_append] at hb
  rcases hb with rfl | hb | hb | hb
  · exact lt_of_get h1
  · exact h2.lt b hb
  · exact h3.lt b hb
  · exact h4.lt b hb
theorem RP.keep {w w' : World} {p : Nat} {s : S10} {F : List Nat} (h : RP w p s F) (hk : ∀ b ∈ F, w'.heap[b]? = w.heap[b]?) : RP w' p s F := by
  obtain ⟨q1, q2, q3, a1, l1, c1, G1, a2, l2, c2, G2, a3, l3, c3, G3, T, h1, h2, h3, h4, r1, r2, r3, r4, r5, rfl⟩ := h
  exact ⟨q1, q2, q3, a1, l1, c1, G1, a2, l2, c2, G2, a3, l3, c3, G3, T, (hk p (by simp)).trans h1, h2.keep fun b hb => hk b (by simp [hb]), h3.keep fun b hb => hk b (by simp [hb]), h4.keep fun b hb => hk b (by simp [hb]), r1, r2, r3, r4, r5, rfl⟩
def rp (p : Nat) (s : S10) (F : List Nat) : Part := ⟨F, fun w => RP w p s F, fun h k => h.keep k, fun h => h.lt⟩

theorem rnew_run (w : World) (n : Int) {K : Value → World → Prop} (h0 : n < 1 ∨ 64 < n → K (.pointer none) w) (h : ∀ (m p : Nat) (F : List Nat) (w' : World), n = m → 1 ≤ m → m ≤ 64 → RP w' p ⟨[], List.replicate m (-1), []⟩ F → Mod [] w w' → Beyond w.heap.size F → K (.pointer (some ⟨p, 0, none⟩)) w') : CallsR Tryz.prog F_janusref10_New #[.int .i64 n] w K := by
  apply R_janusref10_New_ok
  simp only [R_janusref10_New, newK_eq, spl_decide]
  refine ⟨fun hlt => h0 (.inl hlt), fun hge => ⟨fun hgt => h0 (.inr hgt), fun hle => ?_⟩⟩
  obtain ⟨m, rfl⟩ := nat_of (by omega : 0 ≤ n)
  have hb : (w.alloc (.cells #[.slice none 0 0, .slice none 0 0, .slice none 0 0] Ty_janusref10_Envs)).heap[w.heap.size]? = some _ := alloc_new w _
  have m0 : Mod [] w (w.alloc (.cells #[.slice none 0 0, .slice none 0 0, .slice none 0 0] Ty_janusref10_Envs)) := (Mod.refl _ _).alloc _
  have hs0 := alloc_size w (.cells #[.slice none 0 0, .slice none 0 0, .slice none 0 0] Ty_janusref10_Envs)
  generalize w.alloc (.cells #[.slice none 0 0, .slice none 0 0, .slice none 0 0] Ty_janusref10_Envs) = w1 at hb m0 hs0 ⊢
  generalize hp : w.heap.size = p at hb ⊢
  refine ⟨fun k i w' => ∃ (j : Nat) (a : Option Addr) (l c : Nat) (G : List Nat) (T : TypeId), i = j ∧ j ≤ m ∧ k = m - j ∧ w'.heap[p]? = some (.cells #[.slice none 0 0, .slice a l c, .slice none 0 0] T (0, 0)) ∧ SlB w' a l c 1 (i64s (List.replicate j (-1))) G ∧ p ∉ G ∧ Beyond w.heap.size G ∧ Mod [] w w', ⟨m, 0, none, 0, 0, [], _, rfl, by omega, rfl, hb, SlB.nil _ 1, by simp, by simp [Beyond], m0⟩, ?_⟩
  rintro k i - w2 ⟨j, a, l, c, G, T, rfl, hj, rfl, h1, h2, h3, h4, h5⟩
  have hl := h2.i64
  rw [List.length_replicate] at hl
  refine ⟨fun hlt => ⟨a, l, c, by rw [cell_get h1]; rfl, ?_⟩, fun hge => ?_⟩
  · refine grow_K slT_int (by decide) h2 (us := [.int .i64 (-1)]) rfl (by simp [isCell]) (by omega) (by omega) fun A C w3 G3 hs3 hm3 ho3 => ⟨_, _, _, rfl, ?_⟩
    have hp3 := hm3.get h1 h3
    have hsz := h5.size
    have hp2 := lt_of_get h1
    have hpG3 : p ∉ G3 := fun h => by
      rcases ho3 p h with h | h
      · exact h3 h
      · omega
    refine stK_of hp3 (by simp) ?_
    refine ⟨m - (j + 1), by omega, j + 1, A, l + 1, C, G3, T, by rw [w64 (by omega) (by omega)]; omega, by omega, rfl, by rw [upd_same hp3]; rfl, ?_, hpG3, fun b hb => ?_, (h5.trans hm3 fun b hb hlt => absurd (h4 b hb) (by omega)).upd (.inr (by omega)) _⟩
    · rw [List.replicate_succ', i64s_append]
      exact hs3.keep fun b hb => upd_ne _ (by rintro rfl; exact hpG3 hb)
    · exact (ho3 b hb).elim (h4 b) fun h => by omega
  · have hjm : j = m := by omega
    subst hjm
    refine h j p (p :: ([] ++ (G ++ []))) w2 rfl (by omega) (by omega) ⟨W10.new j, by simp; omega, by simp; omega, none, 0, 0, [], a, l, c, G, none, 0, 0, [], T, h1, SlB.nil _ 1, h2, SlB.nil _ 2, by simp, h3, by simp, by simp, by simp, rfl⟩ h5 ?_
    intro b hb
    simp only [List.nil_append, List.append_nil, List.mem_cons] at hb
    rcases hb with rfl | hb
    · omega
    · have := h4 b hb; omega

section
variable {w : World} {p : Nat} {s : S10} {F : List Nat}

theorem W10.short {s : S10} (h : W10 s) : s.L.length ≤ 12 := by
  have := live_eq h
  have h2 : ((ups 12).filter fun x => decide (x ∈ s.L)).length ≤ (ups 12).length := List.length_filter_le _ _
  rw [this] at h2
  simpa [ups] using h2

theorem ris_run (h : RP w p s F) (e : Int) {K : Value → World → Prop} (hK : K (.bool (decide (e ∈ s.L))) w) : CallsR Tryz.prog F_janusref10_Envs_Is #[.pointer (some ⟨p, 0, none⟩), .int .i64 e] w K := by
  apply R_janusref10_Envs_Is_ok
  simp only [R_janusref10_Envs_Is, nilK_some]
  obtain ⟨q1, q2, q3, a1, l1, c1, G1, a2, l2, c2, G2, a3, l3, c3, G3, T, h1, h2, h3, h4, r1, r2, r3, r4, r5, rfl⟩ := h
  have hl := h2.i64
  have := q1.short
  exact ⟨a1, l1, c1, by rw [cell_get h1]; rfl, has_rd h2.rd (by omega) e ⟨_, rfl, hK⟩⟩

theorem env_run (n : Int) {w : World} {K : Value → World → Prop} (h : K (.bool (decide (in12 n))) w) : CallsR Tryz.prog F_janusref08_Env #[.int .i64 n] w K := by
  apply R_janusref08_Env_ok
  simp only [R_janusref08_Env, spl_decide]
  refine ⟨fun h1 => ?_, fun h1 => ?_⟩
  · rw [show decide (n < 12) = decide (in12 n) from decide_eq_decide.2 (by unfold in12; omega)]; exact h
  · rw [show false = decide (in12 n) from (decide_eq_false (by unfold in12; omega)).symm]; exact h

theorem rcreate_run (h : RP w p s F) (e : Int) {K : Value → World → Prop} (hK : ∀ w' F', RP w' p (createS s e) F' → Mod F w w' → Own w F F' → K (.int .i64 (createE s e)) w') :
    CallsR Tryz.prog F_janusref10_Envs_Create #[.pointer (some ⟨p, 0, none⟩), .int .i64 e] w K := by
  apply R_janusref10_Envs_Create_ok
  simp only [R_janusref10_Envs_Create, nilK_some]
  have h0 := h
  have hFlt := h.lt
  obtain ⟨q1, q2, q3, a1, l1, c1, G1, a2, l2, c2, G2, a3, l3, c3, G3, T, h1, h2, h3, h4, r1, r2, r3, r4, r5, rfl⟩ := h
  have no : ∀ v : Int, v ≠ 0 → createE s e = v → K (.int .i64 v) w := fun v hv he => by
    have := hK w _ (by unfold createS; rw [he, if_neg hv]; exact h0) (Mod.refl _ _) (Own.refl _ _)
    rwa [he] at this
  refine env_run e ⟨_, rfl, ?_⟩
  rw [spl_decide]
  refine ⟨fun hin => ris_run h0 e ⟨_, rfl, ?_⟩, fun hn => no 101 (by decide) (if_pos hn)⟩
  rw [spl_decide]
  refine ⟨fun hm => no 105 (by decide) (by unfold createE; rw [if_neg (by simp [hin]), if_pos hm]), fun hn => ⟨a1, l1, c1, by rw [cell_get h1]; rfl, ?_⟩⟩
  have hE : createE s e = 0 := by unfold createE; rw [if_neg (by simp [hin]), if_neg hn]
  have hl := h2.i64
  have := q1.short
  refine put_rd h2.rd h2.le (by omega) e fun A L C w1 G hs hG hm => ⟨_, _, _, rfl, ?_⟩
  have hp1 := hm.get h1 (by simp)
  have hplt := lt_of_get h1
  have hpG : p ∉ G := fun h => by have := hG p h; omega
  refine stK_of hp1 (by simp) ?_
  have kk : ∀ b, b < w.heap.size → b ≠ p → (w1.upd p (.cells (splice #[.slice a1 l1 c1, .slice a2 l2 c2, .slice a3 l3 c3] 0 [.slice A L C]) T (0, 0))).heap[b]? = w.heap[b]? := fun b hb hbp => by
    rw [upd_ne _ (Ne.symm hbp)]; exact hm.keep b hb (by simp)
  have hS : createS s e = ⟨putL s.L e, s.V, s.U⟩ := if_pos hE
  have hW := q1.create e
  rw [hS] at hW hK
  have := hK _ (p :: (G ++ (G2 ++ G3))) ⟨hW, q2, q3, A, L, C, G, a2, l2, c2, G2, a3, l3, c3, G3, T, by rw [upd_same hp1]; rfl, hs.keep fun b hb => upd_ne _ (by rintro rfl; exact hpG hb), h3.keep fun b hb => kk b (h3.lt b hb) (by rintro rfl; exact r2 hb), h4.keep fun b hb => kk b (h4.lt b hb) (by rintro rfl; exact r3 hb), hpG, r2, r3, fun b hb hh => by have := hG b hh; have := h3.lt b hb; omega, r5, rfl⟩ (hm.of0.upd (.inl (by simp)) _) (fun b hb => by
    simp only [List.mem_cons, List.mem_append] at hb ⊢
    rcases hb with rfl | hb | hb | hb
    · exact .inl (.inl rfl)
    · exact .inr (hG b hb)
    · exact .inl (.inr (.inr (.inl hb)))
    · exact .inl (.inr (.inr (.inr hb))))
  rwa [hE] at this
end

end Go.Proofs.V10

set_option linter.unusedSimpArgs false
namespace Go.Proofs.V11
open Go Go.Den

/-- A message of the reference: from, to, words; and as it lies. -/
abbrev RMsg := Int × Int × List Int
abbrev RPM := Int × Int × Option Addr × Nat × Nat
def rcell (m : RPM) : List Value := [.int .i64 m.1, .int .i64 m.2.1, .slice m.2.2.1 m.2.2.2.1 m.2.2.2.2]
def rrow (ph : List RPM) : List Value := (ph.map rcell).flatten
theorem rrow_3 (ph : List RPM) : ∀ vs ∈ ph.map rcell, vs.length = 3 := by
  intro vs hv
  simp only [List.mem_map] at hv
  obtain ⟨p, _, rfl⟩ := hv
  rfl
theorem rrow_cell (ph : List RPM) : ∀ u ∈ rrow ph, isCell u = true := by
  intro u hu
  simp only [rrow, List.mem_flatten, List.mem_map] at hu
  obtain ⟨vs, ⟨p, _, rfl⟩, hu⟩ := hu
  simp only [rcell, List.mem_cons, List.not_mem_nil, or_false] at hu
  rcases hu with rfl | rfl | rfl <;> rfl
theorem rrow_len (ph : List RPM) : (rrow ph).length = ph.length * 3 := by
  induction ph with
  | nil => rfl
  | cons p L ih => simp only [rrow, List.map_cons, List.flatten_cons, List.length_append, List.length_cons] at ih ⊢; rw [ih]; simp [rcell]; omega
theorem rrow_app (a b : List RPM) : rrow (a ++ b) = rrow a ++ rrow b := by simp [rrow]
theorem rrow_one (m : RPM) : rrow [m] = rcell m := by simp [rrow]
theorem rrow_take (ph : List RPM) (n : Nat) : (rrow ph).take (n * 3) = rrow (ph.take n) := by
  induction ph generalizing n with
  | nil => simp [rrow]
  | cons p ph ih =>
    cases n with
    | zero => simp [rrow]
    | succ n =>
      have := ih n
      simp only [rrow, List.map_cons, List.flatten_cons, List.take_succ_cons] at this ⊢
      rw [show (n + 1) * 3 = (rcell p).length + n * 3 by simp [rcell]; omega, List.take_length_add_append, this]
theorem rrow_drop (ph : List RPM) (n : Nat) : (rrow ph).drop (n * 3) = rrow (ph.drop n) := by
  induction ph generalizing n with
  | nil => simp [rrow]
  | cons p ph ih =>
    cases n with
    | zero => simp [rrow]
    | succ n =>
      have := ih n
      simp only [rrow, List.map_cons, List.flatten_cons, List.drop_succ_cons] at this ⊢
      rw [show (n + 1) * 3 = (rcell p).length + n * 3 by simp [rcell]; omega, List.drop_length_add_append, this]

def ROk (w : World) (W : List Nat) (m : RPM) (x : RMsg) : Prop := m.1 = x.1 ∧ m.2.1 = x.2.1 ∧ ∃ H, Rd w m.2.2.1 m.2.2.2.1 1 (u64s x.2.2) H ∧ (∀ b ∈ H, b ∈ W) ∧ m.2.2.2.1 ≤ m.2.2.2.2
def RsOk (w : World) (W : List Nat) (ph : List RPM) (ms : List RMsg) : Prop := ph.length = ms.length ∧ ∀ (i : Nat) m x, ph[i]? = some m → ms[i]? = some x → ROk w W m x

theorem ROk.keep {w w' : World} {W : List Nat} {m : RPM} {x : RMsg} (h : ROk w W m x) (hk : ∀ b ∈ W, w'.heap[b]? = w.heap[b]?) : ROk w' W m x := by
  obtain ⟨h1, h2, H, h3, h4, h5⟩ := h
  exact ⟨h1, h2, H, h3.keep fun b hb => hk b (h4 b hb), h4, h5⟩
theorem RsOk.keep {w w' : World} {W : List Nat} {ph : List RPM} {ms : List RMsg} (h : RsOk w W ph ms) (hk : ∀ b ∈ W, w'.heap[b]? = w.heap[b]?) : RsOk w' W ph ms :=
  ⟨h.1, fun i m x hm hx => (h.2 i m x hm hx).keep hk⟩
theorem RsOk.mono {w : World} {W W' : List Nat} {ph : List RPM} {ms : List RMsg} (h : RsOk w W ph ms) (hk : ∀ b ∈ W, b ∈ W') : RsOk w W' ph ms :=
  ⟨h.1, fun i m x hm hx => by
    obtain ⟨h1, h2, H, h3, h4, h5⟩ := h.2 i m x hm hx
    exact ⟨h1, h2, H, h3, fun b hb => hk b (h4 b hb), h5⟩⟩
theorem RsOk.nil (w : World) (W : List Nat) : RsOk w W [] [] := ⟨rfl, fun i m x hm => by simp at hm⟩
theorem RsOk.append {w : World} {W : List Nat} {ph ph' : List RPM} {ms ms' : List RMsg} (h : RsOk w W ph ms) (h' : RsOk w W ph' ms') : RsOk w W (ph ++ ph') (ms ++ ms') := by
  refine ⟨by simp [h.1, h'.1], fun i m x hm hx => ?_⟩
  have hl := h.1
  by_cases hi : i < ph.length
  · rw [List.getElem?_append_left hi] at hm
    rw [List.getElem?_append_left (by omega)] at hx
    exact h.2 i m x hm hx
  · rw [List.getElem?_append_right (by omega)] at hm
    rw [List.getElem?_append_right (by omega), ← hl] at hx
    exact h'.2 _ m x hm hx
theorem RsOk.single {w : World} {W : List Nat} {m : RPM} {x : RMsg} (h : ROk w W m x) : RsOk w W [m] [x] := by
  refine ⟨rfl, fun i m' x' hm hx => ?_⟩
  cases i with
  | zero => cases hm; cases hx; exact h
  | succ i => simp at hm
theorem RsOk.take {w : World} {W : List Nat} {ph : List RPM} {ms : List RMsg} (h : RsOk w W ph ms) (n : Nat) : RsOk w W (ph.take n) (ms.take n) :=
  ⟨by simp [h.1], fun i m x hm hx => by
    rw [List.getElem?_take] at hm hx
    split at hm
    · rename_i hi; rw [if_pos hi] at hx; exact h.2 i m x hm hx
    · cases hm⟩
theorem RsOk.drop {w : World} {W : List Nat} {ph : List RPM} {ms : List RMsg} (h : RsOk w W ph ms) (n : Nat) : RsOk w W (ph.drop n) (ms.drop n) :=
  ⟨by simp [h.1], fun i m x hm hx => by
    rw [List.getElem?_drop] at hm hx
    exact h.2 _ m x hm hx⟩

/-- The reference's messages, of which the row's cell is place 'o' of block 'b'. -/
def IpcO (w : World) (b o : Nat) (arr : Array Value) (T : TypeId) (L : List RMsg) (F : List Nat) : Prop :=
  ∃ (a : Option Addr) (l c : Nat) (ph : List RPM) (G W : List Nat), w.heap[b]? = some (.cells arr T (0, 0)) ∧ arr[o]? = some (.slice a l c) ∧ SlB w a l c 3 (rrow ph) G ∧ RsOk w W ph L ∧ (∀ x ∈ W, x < w.heap.size) ∧ (∀ x ∈ G, x ∉ W) ∧ b ∉ G ∧ b ∉ W ∧ F = G ++ W

theorem IpcO.lt {w : World} {b o : Nat} {arr : Array Value} {T : TypeId} {L : List RMsg} {F : List Nat} (h : IpcO w b o arr T L F) : ∀ x ∈ b :: F, x < w.heap.size := by
  obtain ⟨a, l, c, ph, G, W, h1, ho, h2, h3, h4, h5, h6, h7, rfl⟩ := h
  intro x hx
  simp only [List.mem_cons, List.mem_append] at hx
  rcases hx with rfl | hx | hx
  · exact lt_of_get h1
  · exact h2.lt x hx
  · exact h4 x hx
theorem IpcO.keep {w w' : World} {b o : Nat} {arr : Array Value} {T : TypeId} {L : List RMsg} {F : List Nat} (h : IpcO w b o arr T L F) (hk : ∀ x ∈ b :: F, w'.heap[x]? = w.heap[x]?) : IpcO w' b o arr T L F := by
  obtain ⟨a, l, c, ph, G, W, h1, ho, h2, h3, h4, h5, h6, h7, rfl⟩ := h
  exact ⟨a, l, c, ph, G, W, (hk b (by simp)).trans h1, ho, h2.keep fun x hx => hk x (by simp [hx]), h3.keep fun x hx => hk x (by simp [hx]), fun x hx => lt_keep (h4 x hx) (hk x (by simp [hx])), h5, h6, h7, rfl⟩

theorem rrow_at {w : World} {a : Option Addr} {l c : Nat} {ph : List RPM} {G : List Nat} (h : SlB w a l c 3 (rrow ph) G) {i : Nat} (hi : i < l) :
    ∃ ad m, a = some ad ∧ ph[i]? = some m ∧ w.cell? (Addr.add ad (i * 3)) = some (.int .i64 m.1) ∧ w.cell? (Addr.add (Addr.add ad (i * 3)) 1) = some (.int .i64 m.2.1) ∧ w.cell? (Addr.add (Addr.add ad (i * 3)) 2) = some (.slice m.2.2.1 m.2.2.2.1 m.2.2.2.2) := by
  have hlen := h.length
  rw [rrow_len] at hlen
  obtain ⟨ad, vs, ha, hvs, -, -, -, hc⟩ := h.rd.elem (vss := ph.map rcell) (by simp; omega) (rrow_3 ph) hi
  simp only [List.getElem?_map, Option.map_eq_some_iff] at hvs
  obtain ⟨m, hm, rfl⟩ := hvs
  exact ⟨ad, m, ha, hm, by have := hc 0 (by decide); rw [add_zero] at this; exact this, hc 1 (by decide), hc 2 (by decide)⟩

/-- What waits for each, of all that wait. -/
def projQ (L : List RMsg) : Qs := fun n => (L.filter fun m => decide (m.2.1 = n)).map fun m => (m.1, m.2.2)
theorem projQ_snoc (L : List RMsg) (f t : Int) (ws : List Int) : projQ (L ++ [(f, t, ws)]) = qput (projQ L) t (projQ L t ++ [(f, ws)]) := by
  funext n
  unfold projQ qput
  rw [List.filter_append, List.map_append]
  by_cases h : t = n
  · simp [h]
  · simp [h]
theorem projQ_mid (A B : List RMsg) (m : RMsg) (hA : ∀ x ∈ A, x.2.1 ≠ m.2.1) : projQ (A ++ m :: B) m.2.1 = (m.1, m.2.2) :: projQ B m.2.1 ∧ projQ (A ++ B) = qput (projQ (A ++ m :: B)) m.2.1 (projQ B m.2.1) := by
  have hA' : A.filter (fun x => decide (x.2.1 = m.2.1)) = [] := List.filter_eq_nil_iff.2 fun x hx => by simpa using hA x hx
  constructor
  · unfold projQ
    rw [List.filter_append, hA', List.nil_append, List.filter_cons_of_pos (by simp)]
    rfl
  · funext n
    unfold qput
    by_cases h : m.2.1 = n
    · rw [if_pos h]
      subst h
      unfold projQ
      rw [List.filter_append, hA', List.nil_append]
    · rw [if_neg h]
      unfold projQ
      rw [List.filter_append, List.filter_append, List.filter_cons_of_neg (by simpa using h)]
theorem projQ_none {L : List RMsg} {e : Int} (h : ∀ x ∈ L, x.2.1 ≠ e) : projQ L e = [] := by
  unfold projQ
  rw [List.filter_eq_nil_iff.2 fun x hx => by simpa using h x hx]
  rfl

theorem env_run (n : Int) {w : World} {K : Value → World → Prop} (h : K (.bool (decide (in12 n))) w) : CallsR Tryz.prog F_janusref08_Env #[.int .i64 n] w K := by
  apply R_janusref08_Env_ok
  simp only [R_janusref08_Env, spl_decide]
  refine ⟨fun h1 => ?_, fun h1 => ?_⟩
  · rw [show decide (n < 12) = decide (in12 n) from decide_eq_decide.2 (by unfold in12; omega)]; exact h
  · rw [show false = decide (in12 n) from (decide_eq_false (by unfold in12; omega)).symm]; exact h

theorem ipcr_from {w : World} {b o : Nat} {arr : Array Value} {T : TypeId} {L : List RMsg} {F : List Nat} (h : IpcO w b o arr T L F) (hl3 : L.length ≤ 1000) (e : Int) {K : Value → World → Prop} (hK : ∀ A N C G w', SlB w' A N C 1 (i64s ((projQ L e).map (·.1))) G → Beyond w.heap.size G → Mod [] w w' → K (.slice A N C) w') :
    CallsR Tryz.prog F_janusref11_Ipc_From #[.pointer (some ⟨b, o, none⟩), .int .i64 e] w K := by
  apply R_janusref11_Ipc_From_ok
  simp only [R_janusref11_Ipc_From, nilK_some, spl_decide, spl_beq, newK_eq]
  obtain ⟨a, l, c, ph, G, W, hb, ho, hs, hms, hW, hGW, hbG, hbW, rfl⟩ := h
  have hlen := hs.length
  rw [rrow_len] at hlen
  have hpl := hms.1
  have cb : ∀ {u : World}, Mod [] w u → u.cell? ⟨b, o, none⟩ = some (.slice a l c) := fun hm => by rw [cell_get (hm.get hb (by simp))]; exact ho
  refine ⟨fun k A N C i w' => ∃ (j : Nat) (G' : List Nat), i = j ∧ j ≤ l ∧ k = l - j ∧ SlB w' A N C 1 (i64s ((projQ (L.take j) e).map (·.1))) G' ∧ Beyond w.heap.size G' ∧ Mod [] w w', ⟨l, 0, [], rfl, by omega, rfl, SlB.nil _ 1, by simp [Beyond], Mod.refl _ _⟩, ?_⟩
  rintro k A N C i - w2 ⟨j, G', rfl, hj, rfl, hs2, hG2, hm2⟩
  refine ⟨a, l, c, cb hm2, fun hlt => ?_, fun hge => ?_⟩
  · obtain ⟨ad, m, rfl, hm, c0, c1, c2⟩ := rrow_at (hs.keep (hm2.at0 hs.lt)) (i := j) (by omega)
    obtain ⟨x, hx⟩ : ∃ x, L[j]? = some x := ⟨_, List.getElem?_eq_getElem (by omega)⟩
    obtain ⟨e1, e2, -⟩ := hms.2 j m x hm hx
    have et : L.take (j + 1) = L.take j ++ [x] := by rw [List.take_add_one, hx]; rfl
    have hl2 := hs2.i64
    have hll : (projQ (L.take j) e).length ≤ 1000 := by
      unfold projQ
      rw [List.length_map]
      exact Nat.le_trans (List.length_filter_le _ _) (by rw [List.length_take]; omega)
    rw [List.length_map] at hl2
    refine ⟨fun A' N' C' w' => ∃ G', SlB w' A' N' C' 1 (i64s ((projQ (L.take (j + 1)) e).map (·.1))) G' ∧ Beyond w.heap.size G' ∧ Mod [] w w', ?_, some ad, l, c, cb hm2, ?_⟩
    · rintro A' N' C' - w3 ⟨G3, hs3, hG3, hm3⟩
      exact ⟨l - (j + 1), by omega, j + 1, G3, by rw [w64 (by omega) (by omega)]; omega, by omega, rfl, hs3, hG3, hm3⟩
    rw [nilK_some, Int.toNat_natCast]
    refine ⟨⟨by omega, by omega⟩, m.2.1, c1, fun heq => ⟨some ad, l, c, cb hm2, ?_⟩, fun hne => ?_⟩
    · rw [nilK_some]
      refine ⟨⟨by omega, by omega⟩, m.1, c0, ?_⟩
      refine push_K slT_int (by decide) hs2 hG2 hm2 (us := [.int .i64 m.1]) rfl (by simp [isCell]) (by omega) (by omega) fun A' C' w5 G' hs' hG' hm' _ _ => ⟨_, _, _, rfl, G', ?_, hG', hm'⟩
      rw [et, show ([x] : List RMsg) = [(x.1, x.2.1, x.2.2)] from rfl, projQ_snoc]
      unfold qput
      rw [if_pos (by rw [← e2]; exact heq), ← e2, heq, List.map_append, i64s_append, ← e1]
      exact hs'
    · refine ⟨G', ?_, hG2, hm2⟩
      rw [et, show ([x] : List RMsg) = [(x.1, x.2.1, x.2.2)] from rfl, projQ_snoc]
      unfold qput
      rw [if_neg (by rw [← e2]; exact hne)]
      exact hs2
  · have : j = l := by omega
    subst this
    rw [List.take_of_length_le (by omega)] at hs2
    exact hK A N C G' w2 hs2 hG2 hm2

theorem ipcr_waiting {w : World} {b o : Nat} {arr : Array Value} {T : TypeId} {L : List RMsg} {F : List Nat} (h : IpcO w b o arr T L F) (hl3 : L.length ≤ 1000) (e : Int) {K : Value → World → Prop} (hK : ∀ w', Mod [] w w' → K (.int .i64 ((projQ L e).length : Int)) w') :
    CallsR Tryz.prog F_janusref11_Ipc_Waiting #[.pointer (some ⟨b, o, none⟩), .int .i64 e] w K := by
  apply R_janusref11_Ipc_Waiting_ok
  refine ipcr_from h hl3 e fun A N C G w' hs _ hm => ⟨_, _, _, rfl, ?_⟩
  have := hs.i64
  rw [List.length_map] at this
  rw [← this]
  exact hK w' hm

def rsend (L : List RMsg) (f t : Int) (ws : List Int) : List RMsg := if sendE (projQ L) f t ws.length = 0 then L ++ [(f, t, ws)] else L
theorem projQ_send (L : List RMsg) (f t : Int) (ws : List Int) : projQ (rsend L f t ws) = sendQ (projQ L) f t ws := by
  unfold rsend sendQ
  split
  · exact projQ_snoc L f t ws
  · rfl

theorem ipcr_send {w : World} {b o : Nat} {arr : Array Value} {T : TypeId} {L : List RMsg} {F : List Nat} (h : IpcO w b o arr T L F) (hl3 : L.length ≤ 1000) (f t : Int) {wa : Option Addr} {wl wc : Nat} {ws : List Int} {H : List Nat} (hw : Rd w wa wl 1 (u64s ws) H) {K : Value → World → Prop}
    (hK : ∀ w' arr' F', (∃ v, arr' = arr ∨ arr' = arr.setIfInBounds o v) → IpcO w' b o arr' T (rsend L f t ws) F' → Mod (b :: F) w w' → Own w F F' → K (.int .i64 (sendE (projQ L) f t ws.length)) w') :
    CallsR Tryz.prog F_janusref11_Ipc_Send #[.pointer (some ⟨b, o, none⟩), .int .i64 f, .int .i64 t, .slice wa wl wc] w K := by
  apply R_janusref11_Ipc_Send_ok
  simp only [R_janusref11_Ipc_Send, nilK_some, newK_eq]
  have hwl := hw.u64
  have err : ∀ e : Int, e ≠ 0 → sendE (projQ L) f t ws.length = e → ∀ u, Mod [] w u → K (.int .i64 e) u := fun e he hh u hm => by
    have := hK u arr F ⟨.bool true, .inl rfl⟩ (by unfold rsend; rw [hh, if_neg he]; exact h.keep (hm.at0 h.lt)) hm.of0 (Own.refl _ _)
    rwa [hh] at this
  refine env_run f ⟨_, rfl, ?_⟩
  rw [spl_decide]
  refine ⟨fun hf => env_run t ⟨_, rfl, ?_⟩, fun hf => err 101 (by decide) (if_pos (.inl hf)) w (Mod.refl _ _)⟩
  rw [spl_decide, spl_decide]
  refine ⟨fun ht => ⟨fun hgt => err 101 (by decide) (if_pos (.inr (.inr (by omega)))) w (Mod.refl _ _), fun hle => ?_⟩, fun ht => err 101 (by decide) (if_pos (.inr (.inl ht))) w (Mod.refl _ _)⟩
  have hgood : ¬ (¬ in12 f ∨ ¬ in12 t ∨ 8 < ws.length) := by
    rintro (h | h | h)
    · exact h hf
    · exact h ht
    · omega
  refine ipcr_waiting h hl3 t fun w1 hm1 => ⟨_, rfl, ?_⟩
  rw [spl_decide]
  refine ⟨fun hge => err 105 (by decide) (by unfold sendE; rw [if_neg hgood, if_pos (by omega)]) w1 hm1, fun hlt => ?_⟩
  have hE : sendE (projQ L) f t ws.length = 0 := by unfold sendE; rw [if_neg hgood, if_neg (by omega)]
  rw [hE] at hK
  unfold rsend at hK
  rw [hE, if_pos rfl] at hK
  obtain ⟨a, l, c, ph, G, W, hb, ho, hs, hms, hW, hGW, hbG, hbW, rfl⟩ := h
  have hlen := hs.length
  rw [rrow_len] at hlen
  have hpl := hms.1
  have hblt := lt_of_get hb
  refine ⟨a, l, c, by rw [cell_get (hm1.get hb (by simp))]; exact ho, ?_⟩
  refine push_rd_K (w0 := w) slT_janusref11_M (by decide) (SlB.nil _ 3) (by simp [Beyond]) hm1 (hs.keep (hm1.at0 hs.lt)).rd (rrow_cell _) (by omega) (by omega) fun A2 C2 w2 G2 hs2 hG2 hm2 _ _ => ⟨_, _, _, rfl, ?_⟩
  refine push_rd_K (w0 := w2) slT_u64 (by decide) (SlB.nil _ 1) (by simp [Beyond]) (Mod.refl _ _) (hw.mod0 hm2) (u64s_cell _) (by omega) (by omega) fun A3 C3 w3 G3 hs3 hG3 hm23 _ _ => ⟨_, _, _, rfl, ?_⟩
  have hm3 := hm2.trans' hm23
  rw [List.nil_append, Nat.zero_add] at hs3 hs2
  have hs23 := hs2.keep (hm23.at0 hs2.lt)
  simp only [Nat.zero_add]
  have hG2lt := hs2.lt
  refine push_K (w0 := w) slT_janusref11_M (by decide) hs23 hG2 hm3 (us := rcell (f, t, A3, wl, C3)) rfl (by simp [isCell, rcell]) (by omega) (by omega) fun A4 C4 w4 G4 hs4 hG4 hm4 hmm4 ho4 => ⟨_, _, _, rfl, ?_⟩
  have hb4 := hm4.get hb (by simp)
  refine stK_of hb4 (by have := (Array.getElem?_eq_some_iff.1 ho).1; simp; omega) ?_
  simp only [splice_cons, splice_nil]
  have hosz := (Array.getElem?_eq_some_iff.1 ho).1
  have hG4' : ∀ x ∈ G4, x ∈ G2 ∨ w3.heap.size ≤ x := ho4
  have hG3lt := hs3.lt
  have hw2 := hm2.size
  have n4 : ∀ x ∈ G4, x ∉ W ++ G3 := fun x hx hh => by
    have h1 := hG4 x hx
    rcases List.mem_append.1 hh with h | h
    · have := hW x h; omega
    · rcases hG4' x hx with h' | h'
      · have := hG2lt x h'; have := hG3 x h; omega
      · have := hG3lt x h; omega
  have hbG4 : b ∉ G4 := fun hh => by have := hG4 b hh; omega
  have hbG3 : b ∉ G3 := fun hh => by have := hG3 b hh; omega
  have kW : ∀ x, b ≠ x → (w4.upd b (.cells (arr.setIfInBounds o (.slice A4 (l + 1) C4)) T (0, 0))).heap[x]? = w4.heap[x]? := fun x hx => upd_ne _ hx
  refine hK _ _ (G4 ++ (W ++ G3)) ⟨_, .inr rfl⟩ ⟨A4, l + 1, C4, ph ++ [(f, t, A3, wl, C3)], G4, W ++ G3, by rw [upd_same hb4], by simp [hosz], ?_, ?_, ?_, n4, hbG4, ?_, rfl⟩ (hm4.of0.upd (.inl (by simp)) _) ?_
  · rw [rrow_app, rrow_one]
    exact hs4.keep fun x hx => kW x (by rintro rfl; exact hbG4 hx)
  · refine RsOk.append ((hms.keep fun x hx => ?_).mono (by simp +contextual)) (RsOk.single ⟨rfl, rfl, G3, ?_, by simp +contextual, hs3.le⟩)
    · rw [kW x (by rintro rfl; exact hbW hx)]
      exact hm4.keep x (hW x hx) (by simp)
    · refine hs3.rd.keep fun x hx => ?_
      rw [kW x (by rintro rfl; exact hbG3 hx)]
      refine hmm4.keep x (hG3lt x hx) fun hh => ?_
      have := hG2lt x hh; have := hG3 x hx; omega
  · intro x hx
    rw [upd_size]
    have := hm4.size
    have := hmm4.size
    rcases List.mem_append.1 hx with h | h
    · have := hW x h; omega
    · have := hG3lt x h; omega
  · simp only [List.mem_append, not_or]
    exact ⟨hbW, hbG3⟩
  · intro x hx
    simp only [List.mem_append] at hx ⊢
    rcases hx with hx | hx | hx
    · exact .inr (hG4 x hx)
    · exact .inl (.inr hx)
    · have := hG3 x hx; exact .inr (by omega)

theorem ipcr_recv {w : World} {b o : Nat} {arr : Array Value} {T : TypeId} {L : List RMsg} {F : List Nat} (h : IpcO w b o arr T L F) (hl3 : L.length ≤ 1000) (e : Int) {K : Value → World → Prop} (h0 : projQ L e = [] → K (.tuple #[.int .i64 0, .slice none 0 0, .bool false]) w)
    (hK : ∀ A x B w' arr' F' wa wl wc H, L = A ++ x :: B → x.2.1 = e → (∀ y ∈ A, y.2.1 ≠ e) → (∃ v, arr' = arr.setIfInBounds o v) → IpcO w' b o arr' T (A ++ B) F' → Mod (b :: F) w w' → Own w F F' → Rd w' wa wl 1 (u64s x.2.2) H → wl ≤ wc → K (.tuple #[.int .i64 x.1, .slice wa wl wc, .bool true]) w') :
    CallsR Tryz.prog F_janusref11_Ipc_Recv #[.pointer (some ⟨b, o, none⟩), .int .i64 e] w K := by
  apply R_janusref11_Ipc_Recv_ok
  simp only [R_janusref11_Ipc_Recv, nilK_some, spl_decide, spl_beq, newK_eq, drK_eq]
  obtain ⟨a, l, c, ph, G, W, hb, ho, hs, hms, hW, hGW, hbG, hbW, rfl⟩ := h
  have hlen := hs.length
  rw [rrow_len] at hlen
  have hpl := hms.1
  have hblt := lt_of_get hb
  have cb : w.cell? ⟨b, o, none⟩ = some (.slice a l c) := by rw [cell_get hb]; exact ho
  refine ⟨fun k i w' => ∃ j : Nat, i = j ∧ j ≤ l ∧ k = l - j ∧ w' = w ∧ ∀ y ∈ L.take j, y.2.1 ≠ e, ⟨l, 0, rfl, by omega, rfl, rfl, by simp⟩, ?_⟩
  rintro k i - w2 ⟨j, rfl, hj, rfl, rfl, hbef⟩
  refine ⟨a, l, c, cb, fun hlt => ⟨a, l, c, cb, ?_⟩, fun hge => h0 (projQ_none fun x hx => hbef x (by rw [List.take_of_length_le (by omega)]; exact hx))⟩
  obtain ⟨ad, m, rfl, hm, c0, c1, c2⟩ := rrow_at hs (i := j) (by omega)
  obtain ⟨x, hx⟩ : ∃ x, L[j]? = some x := ⟨_, List.getElem?_eq_getElem (by omega)⟩
  obtain ⟨e1, e2, H, hrd, hHW, hmc⟩ := hms.2 j m x hm hx
  rw [nilK_some, Int.toNat_natCast]
  refine ⟨⟨by omega, by omega⟩, m.2.1, c1, fun heq => ⟨some ad, l, c, cb, ?_⟩, fun hne => ⟨l - (j + 1), by omega, j + 1, by rw [w64 (by omega) (by omega)]; omega, by omega, rfl, rfl, fun y hy => ?_⟩⟩
  · rw [nilK_some]
    refine ⟨⟨by omega, by omega⟩, m.1, m.2.1, m.2.2.1, m.2.2.2.1, m.2.2.2.2, ⟨c0, c1, c2⟩, ?_⟩
    refine (Sep.nil (Mod.refl [] w2)).stK rfl fun w3 s3 m3 => ?_
    have m3d : Mod [] w2 w3.drew := m3.drew
    have hbm : w3.drew.heap[w2.heap.size]? = some _ := s3.nth 0 rfl
    generalize hbmn : w2.heap.size = bm at hbm ⊢
    clear s3 m3
    have hb3 := m3d.get hb (by simp)
    have cb3 : w3.drew.cell? ⟨b, o, none⟩ = some (.slice (some ad) l c) := by rw [cell_get hb3]; exact ho
    have hs3 := hs.keep (m3d.at0 hs.lt)
    generalize w3.drew = w4 at m3d hbm hb3 cb3 hs3 ⊢
    have kp : ∀ {u : World}, Mod [] w4 u → keepB [b] w4 u := fun hm => keepB1 (hm.keep b (lt_of_get hb3) (by simp))
    refine ⟨[b], by simp, some ad, l, c, cb3, ?_⟩
    refine slK_rd hs3.rd hs3.le (L := 0) (H := j) (.inr ⟨rfl, rfl⟩) (.inl rfl) (by omega) (by omega) fun a5 G5 hr5 _ => ?_
    refine ⟨by simp, some ad, l, c, cb3, ?_⟩
    have ej : IntKind.i64.wrap ((j : Int) + 1) = ((j + 1 : Nat) : Int) := by rw [w64 (by omega) (by omega)]; omega
    refine slK_rd hs3.rd hs3.le (L := j + 1) (H := l) (.inl (by rw [ej])) (.inr ⟨rfl, rfl⟩) (by omega) (Nat.le_refl _) fun a6 G6 hr6 _ => ?_
    have d5 : ((rrow ph).drop (0 * 3)).take ((j - 0) * 3) = rrow (ph.take j) := by rw [Nat.zero_mul, List.drop_zero, Nat.sub_zero, rrow_take]
    have d6 : ((rrow ph).drop ((j + 1) * 3)).take ((l - (j + 1)) * 3) = rrow (ph.drop (j + 1)) := by
      rw [rrow_drop, rrow_take, List.take_of_length_le (by rw [List.length_drop]; omega)]
    rw [d5] at hr5
    rw [d6] at hr6
    refine push_rd_K (w0 := w4) slT_janusref11_M (by decide) (SlB.nil _ 3) (by simp [Beyond]) (Mod.refl _ _) hr5 (rrow_cell _) (by omega) (by omega) fun A7 C7 w7 G7 hs7 hG7 hm7 _ _ => ⟨_, _, _, rfl, kp hm7, ?_⟩
    refine push_rd_K (w0 := w4) slT_janusref11_M (by decide) hs7 hG7 hm7 (hr6.mod0 hm7) (rrow_cell _) (by omega) (by omega) fun A8 C8 w8 G8 hs8 hG8 hm8 _ _ => ⟨_, _, _, rfl, ?_⟩
    have hb8 := hm8.get hb3 (by simp)
    have hbm8 := hm8.get hbm (by simp)
    have hbbm : b ≠ bm := by omega
    have hosz := (Array.getElem?_eq_some_iff.1 ho).1
    refine stK_of hb8 (by simp; omega) ?_
    simp only [splice_cons, splice_nil]
    have kW : ∀ y, b ≠ y → (w8.upd b (.cells (arr.setIfInBounds o (.slice A8 (0 + (j - 0) + (l - (j + 1))) C8)) T (0, 0))).heap[y]? = w8.heap[y]? := fun y hy => upd_ne _ hy
    have hb9 := upd_same (x := .cells (arr.setIfInBounds o (.slice A8 (0 + (j - 0) + (l - (j + 1))) C8)) T (0, 0)) hb8
    have hm9 : Mod [b] w2 (w8.upd b (.cells (arr.setIfInBounds o (.slice A8 (0 + (j - 0) + (l - (j + 1))) C8)) T (0, 0))) := ((m3d.trans' hm8).of0).upd (.inl (by simp)) _
    have hbm9 := (kW bm hbbm).trans hbm8
    generalize w8.upd b _ = w9 at kW hb9 hm9 hbm9 ⊢
    have hbm9' : w9.drew.heap[bm]? = some _ := hbm9
    refine ⟨m.1, by rw [cell_get hbm9']; rfl, m.2.2.1, m.2.2.2.1, m.2.2.2.2, by rw [cell_get hbm9']; rfl, ?_⟩
    have kF : ∀ y ∈ W, w9.drew.heap[y]? = w2.heap[y]? := fun y hy => hm9.keep y (hW y hy) (by simp; rintro rfl; exact hbW hy)
    have hw4 := m3d.size
    have hG8' : ∀ y ∈ G8, w2.heap.size ≤ y := fun y hy => by have := hG8 y hy; omega
    have hbG8 : b ∉ G8 := fun hh => by have := hG8' b hh; omega
    have hL : L = L.take j ++ x :: L.drop (j + 1) := by
      have hxj : L[j]'(by omega) = x := (List.getElem?_eq_some_iff.1 hx).2
      rw [← hxj, ← List.drop_eq_getElem_cons, List.take_append_drop]
    rw [e1]
    refine hK (L.take j) x (L.drop (j + 1)) w9.drew _ (G8 ++ W) m.2.2.1 m.2.2.2.1 m.2.2.2.2 H hL (by rw [← e2]; exact heq) hbef ⟨_, rfl⟩ ⟨A8, 0 + (j - 0) + (l - (j + 1)), C8, ph.take j ++ ph.drop (j + 1), G8, W, hb9, by simp [hosz], ?_, ((hms.take j).append (hms.drop (j + 1))).keep kF, fun y hy => lt_keep (hW y hy) (kF y hy), fun y hy hh => by have := hG8' y hy; have := hW y hh; omega, hbG8, hbW, rfl⟩ (hm9.drew.mono (by simp)) ?_ (hrd.keep fun y hy => kF y (hHW y hy)) hmc
    · rw [rrow_app]
      exact hs8.keep fun y hy => kW y (by rintro rfl; exact hbG8 hy)
    · intro y hy
      simp only [List.mem_append] at hy ⊢
      rcases hy with hy | hy
      · exact .inr (hG8' y hy)
      · exact .inl (.inr hy)
  · rw [List.take_add_one, hx] at hy
    rcases List.mem_append.1 hy with h | h
    · exact hbef y h
    · simp at h; subst h; rw [← e2]; exact hne

end Go.Proofs.V11
