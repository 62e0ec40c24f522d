/-
  Layer 24: contracts of the reference's lock.
-/
import Derived.Test.YtciclhpbkbcdpaaC24b
import Derived.Test.YtciclhpbkbcdpaaRInts
import Derived.Test.YtciclhpbkbcdpaaRHas
set_option linter.unusedSimpArgs false
namespace Go.Proofs
open Go Go.Den

/-- The reference's lock at block 'p'. -/
def RfP (w : World) (p : Nat) (s : LS) (F : List Nat) : Prop :=
  ∃ a l c G T, w.heap[p]? = some (.cells #[.int .i64 s.1, .slice a l c] T (0, 0)) ∧ SlB w a l c 1 (i64s s.2) G ∧ p ∉ G ∧ F = p :: G
theorem RfP.lt {w : World} {p : Nat} {s : LS} {F : List Nat} (h : RfP w p s F) : ∀ b ∈ F, b < w.heap.size := LkP.lt h
theorem RfP.keep {w w' : World} {p : Nat} {s : LS} {F : List Nat} (h : RfP w p s F) (hk : ∀ b ∈ F, w'.heap[b]? = w.heap[b]?) : RfP w' p s F := LkP.keep h hk
def rf (p : Nat) (s : LS) (F : List Nat) : Part := ⟨F, fun w => RfP w p s F, fun h k => h.keep k, fun h => h.lt⟩

theorem rnew_run (w : World) {K : Value → World → Prop} (h : ∀ (p : Nat) (F : List Nat) (w' : World), RfP w' p (-1, []) F → Mod [] w w' → Beyond w.heap.size F → K (.pointer (some ⟨p, 0, none⟩)) w') : CallsR Try.prog F_janusref24_New #[] w K := by
  apply R_janusref24_New_ok
  simp only [R_janusref24_New, newK_eq]
  exact h _ [w.heap.size] _ ⟨none, 0, 0, [], _, alloc_new w _, SlB.nil _ _, by simp, rfl⟩ ((Mod.refl _ _).alloc _) (by simp [Beyond])

section
variable {w : World} {p : Nat} {s : LS} {F : List Nat}

theorem rask_run (h : RfP w p s F) (hl : s.2.length ≤ 900) (e : Int) {K : Value → World → Prop} (hK : ∀ w' F', RfP w' p (askS s e) F' → Mod F w w' → Den.Own w F F' → K (.bool (askB s e)) w') :
    CallsR Try.prog F_janusref24_Lock_Ask #[.pointer (some ⟨p, 0, none⟩), .int .i64 e] w K := by
  apply R_janusref24_Lock_Ask_ok
  have h0 := h
  obtain ⟨a, l, c, G, T, h1, h2, h3, rfl⟩ := h
  have hli := h2.i64
  simp only [R_janusref24_Lock_Ask, nilK_some, addr_add, Nat.zero_add, newK_eq, spl_decide, spl_bne]
  refine ⟨fun hn => ?_, fun he => ?_⟩
  · have := hK w _ (by unfold askS; rw [if_pos hn]; exact h0) (Mod.refl _ _) (Den.Own.refl _ _)
    rwa [askB, decide_eq_false (by omega), Bool.false_and] at this
  have hplt := lt_of_get h1
  refine ⟨fun w' => ∃ s', RfP w' p s' (p :: G) ∧ Mod (p :: G) w w' ∧ 0 ≤ s'.1 ∧ s'.2.length ≤ 900 ∧ askS s e = (if s'.1 ≠ e ∧ e ∉ s'.2 then (s'.1, s'.2 ++ [e]) else s'), ?_, ⟨s.1, by rw [cell_get h1]; rfl, fun hn => ?_, fun hw => ?_⟩⟩
  · rintro - w1 ⟨s', k0, m1, hs0, hl1, hs1⟩
    have kk := k0
    obtain ⟨a1, l1, c1, G1, T1, k1, k2, k3, hG1⟩ := k0
    obtain rfl : G = G1 := by simpa using hG1
    have hli1 := k2.i64
    refine ⟨fun w' => ∃ F', RfP w' p (askS s e) F' ∧ Mod (p :: G) w w' ∧ Den.Own w (p :: G) F', ?_, ⟨s'.1, by rw [cell_get k1]; rfl, fun hne => ?_, fun heq => ⟨p :: G, ?_, m1, Den.Own.refl _ _⟩⟩⟩
    · rintro - w' ⟨F', hp', hm, ho⟩
      have hp := hp'
      obtain ⟨a', l', c', G', T', g1, g2, g3, rfl⟩ := hp'
      refine ⟨_, by rw [cell_get g1]; rfl, ?_⟩
      have := hK w' _ hp hm ho
      rwa [askB, decide_eq_true (by omega), Bool.true_and] at this
    · refine ⟨a1, l1, c1, by rw [cell_get k1]; rfl, ?_⟩
      refine has_rd k2.rd (by omega) e ⟨_, rfl, ?_⟩
      rw [spl_decide]
      refine ⟨fun hin => ⟨p :: G, ?_, m1, Den.Own.refl _ _⟩, fun hnin => ⟨a1, l1, c1, by rw [cell_get k1]; rfl, ?_⟩⟩
      · rw [hs1, if_neg (by simp [hin])]
        exact kk
      · refine push_rd_K (w0 := w1) slT_int (by decide) (SlB.nil w1 1) (by simp [Beyond]) (Mod.refl _ _) k2.rd (i64s_cell _) (by omega) (by omega) fun A C w2 G2 hs2 hG2 m2 _ _ => ⟨_, _, _, rfl, ?_⟩
        rw [Nat.zero_add] at hs2 ⊢
        rw [List.nil_append] at hs2
        refine push_K (w0 := w1) slT_int (by decide) hs2 hG2 m2 (us := [.int .i64 e]) rfl (by simp [isCell]) (by omega) (by omega) fun A' C' w3 G3 hs3 hG3 m3 _ _ => ⟨_, _, _, rfl, ?_⟩
        have hp3 := m3.get k1 (by simp)
        have hs1' := m1.size
        have hpG3 : p ∉ G3 := fun h => by have := hG3 p h; omega
        refine stK_of hp3 (by simp) ?_
        refine ⟨p :: G3, ?_, (m1.trans' m3.of0).upd (.inl (by simp)) _, fun b hb => ?_⟩
        · rw [hs1, if_pos ⟨hne, hnin⟩]
          refine ⟨A', l1 + 1, C', G3, T1, by rw [upd_same hp3]; rfl, ?_, hpG3, rfl⟩
          rw [i64s_append]
          exact hs3.keep fun b hb => upd_ne _ (by rintro rfl; exact hpG3 hb)
        · rcases List.mem_cons.1 hb with rfl | hb
          · exact .inl (by simp)
          · have := hG3 b hb; exact .inr (by omega)
    · rw [hs1, if_neg (by simp [heq])]
      exact kk
  · refine stK_of h1 (by simp) ?_
    refine ⟨(e, s.2), ⟨a, l, c, G, T, by rw [upd_same h1]; rfl, h2.keep fun b hb => upd_ne _ (by rintro rfl; exact h3 hb), h3, rfl⟩, (Mod.refl _ _).upd (.inl (by simp)) _, by simp only; omega, hl, ?_⟩
    unfold askS
    rw [if_neg (by omega), if_pos hn]
    simp
  · refine ⟨s, h0, Mod.refl _ _, by omega, hl, ?_⟩
    unfold askS
    rw [if_neg (by omega), if_neg (by omega)]

theorem rleave_run (h : RfP w p s F) (hl : s.2.length ≤ 1000) (e : Int) {K : Value → World → Prop} (hK : ∀ w' F', RfP w' p (leaveS s e) F' → Mod F w w' → Den.Own w F F' → K (.tuple #[.int .i64 (leaveV s e).1, .int .i64 (leaveV s e).2]) w') :
    CallsR Try.prog F_janusref24_Lock_Leave #[.pointer (some ⟨p, 0, none⟩), .int .i64 e] w K := by
  apply R_janusref24_Lock_Leave_ok
  have h0 := h
  obtain ⟨a, l, c, G, T, h1, h2, h3, rfl⟩ := h
  have hli := h2.i64
  simp only [R_janusref24_Lock_Leave, nilK_some, addr_add, Nat.zero_add, spl_decide, spl_bne]
  have no : (e < 0 ∨ s.1 ≠ e) → K (.tuple #[.int .i64 0, .int .i64 106]) w := fun hn => by
    have := hK w _ (by unfold leaveS; rw [if_pos hn]; exact h0) (Mod.refl _ _) (Den.Own.refl _ _)
    rwa [leaveV, if_pos hn] at this
  refine ⟨fun hn => no (.inl hn), fun he => ⟨s.1, by rw [cell_get h1]; rfl, fun hne => no (.inr hne), fun heq => ?_⟩⟩
  have hg : ¬ (e < 0 ∨ s.1 ≠ e) := by omega
  refine stK_of h1 (by simp) ?_
  have m1 : Mod (p :: G) w (w.upd p (.cells (splice #[.int .i64 s.1, .slice a l c] 0 [.int .i64 (-1)]) T (0, 0))) := (Mod.refl _ _).upd (.inl (by simp)) _
  have g1 : (w.upd p (.cells (splice #[.int .i64 s.1, .slice a l c] 0 [.int .i64 (-1)]) T (0, 0))).heap[p]? = some (.cells #[.int .i64 (-1), .slice a l c] T (0, 0)) := by rw [upd_same h1]; rfl
  have g2 : SlB (w.upd p (.cells (splice #[.int .i64 s.1, .slice a l c] 0 [.int .i64 (-1)]) T (0, 0))) a l c 1 (i64s s.2) G := h2.keep fun b hb => upd_ne _ (by rintro rfl; exact h3 hb)
  generalize w.upd p _ = w1 at m1 g1 g2 ⊢
  refine ⟨fun w' => ∃ F', RfP w' p (leaveS s e) F' ∧ Mod (p :: G) w w' ∧ Den.Own w (p :: G) F', ?_, a, l, c, by rw [cell_get g1]; rfl, fun hlt => ?_, fun hge => ⟨p :: G, ?_, m1, Den.Own.refl _ _⟩⟩
  · rintro - w' ⟨F', hp', hm, ho⟩
    have hp := hp'
    obtain ⟨a', l', c', G', T', k1, k2, k3, rfl⟩ := hp'
    refine ⟨_, by rw [cell_get k1]; rfl, ?_⟩
    have := hK w' _ hp hm ho
    rwa [leaveV, if_neg hg] at this
  · obtain ⟨x, xs, hx⟩ : ∃ x xs, s.2 = x :: xs := by
      cases hs : s.2 with
      | nil => rw [hs] at hli; simp at hli; omega
      | cons x xs => exact ⟨x, xs, rfl⟩
    obtain ⟨ad, x', rfl, hx', hc, hF⟩ := g2.rd.i64at (k := 0) (by omega)
    rw [hx] at hx'
    obtain rfl : x = x' := by simpa using hx'
    rw [add_zero] at hc
    refine ⟨some ad, l, c, by rw [cell_get g1]; rfl, ?_⟩
    rw [nilK_some]
    refine ⟨⟨by omega, by omega⟩, x, hc, ?_⟩
    refine stK_of g1 (by simp) ?_
    have m2 : Mod (p :: G) w (w1.upd p (.cells (splice #[.int .i64 (-1), .slice (some ad) l c] 0 [.int .i64 x]) T (0, 0))) := m1.upd (.inl (by simp)) _
    have k1 : (w1.upd p (.cells (splice #[.int .i64 (-1), .slice (some ad) l c] 0 [.int .i64 x]) T (0, 0))).heap[p]? = some (.cells #[.int .i64 x, .slice (some ad) l c] T (0, 0)) := by rw [upd_same g1]; rfl
    have k2 : SlB (w1.upd p (.cells (splice #[.int .i64 (-1), .slice (some ad) l c] 0 [.int .i64 x]) T (0, 0))) (some ad) l c 1 (i64s s.2) G := g2.keep fun b hb => upd_ne _ (by rintro rfl; exact h3 hb)
    generalize w1.upd p _ = w2 at m2 k1 k2 ⊢
    refine ⟨some ad, l, c, by rw [cell_get k1]; rfl, ?_⟩
    have hle := k2.le
    refine slK_of k2 (L := 1) (H := l) (M := c) (.inl rfl) (.inr ⟨rfl, rfl⟩) (.inr ⟨rfl, rfl⟩) (by omega) (by omega) (by omega) (Nat.le_refl _) fun a4 _ hr4 => ?_
    have e4 : ((i64s s.2).drop (1 * 1)).take ((l - 1) * 1) = i64s xs := by
      rw [i64s_drop, i64s_take, hx]
      simp only [Nat.mul_one, List.drop_one, List.tail_cons]
      rw [hx] at hli
      simp at hli
      have : xs.take (l - 1) = xs := List.take_of_length_le (by omega)
      rw [this]
    rw [e4] at hr4
    refine stK_of k1 (by simp) ?_
    refine ⟨p :: G, ?_, m2.upd (.inl (by simp)) _, Den.Own.refl _ _⟩
    unfold leaveS
    rw [if_neg hg, hx]
    exact ⟨a4, l - 1, c - 1, G, T, by rw [upd_same k1]; rfl, hr4.keep fun b hb => upd_ne _ (by rintro rfl; exact h3 hb), h3, rfl⟩
  · have hx : s.2 = [] := List.eq_nil_of_length_eq_zero (by omega)
    unfold leaveS
    rw [if_neg hg, hx]
    rw [hx] at g2
    exact ⟨a, l, c, G, T, g1, g2, h3, rfl⟩

theorem rgone_run (h : RfP w p s F) (hl : s.2.length ≤ 1000) (e : Int) {K : Value → World → Prop} (hK : ∀ w' F', RfP w' p (goneS s e) F' → Mod F w w' → Den.Own w F F' → K (.tuple #[]) w') :
    CallsR Try.prog F_janusref24_Lock_Gone #[.pointer (some ⟨p, 0, none⟩), .int .i64 e] w K := by
  apply R_janusref24_Lock_Gone_ok
  simp only [R_janusref24_Lock_Gone, nilK_some, addr_add, Nat.zero_add, newK_eq]
  obtain ⟨a, l, c, G, T, h1, h2, h3, rfl⟩ := h
  have hli := h2.i64
  have hplt := lt_of_get h1
  refine ⟨fun n A L C t w' => ∃ (j : Nat) (G' : List Nat), t = j ∧ j ≤ l ∧ n = l - j ∧ L ≤ j ∧ SlB w' A L C 1 (i64s (rid (s.2.take j) e)) G' ∧ Beyond w.heap.size G' ∧ Mod [] w w', ⟨l, 0, [], rfl, by omega, rfl, by omega, SlB.nil _ 1, by simp [Beyond], Mod.refl _ _⟩, ?_⟩
  rintro n A L C t - w2 ⟨j, G', rfl, hj, rfl, hLj, hs2, hG2, hm2⟩
  have k1 := hm2.get h1 (by simp)
  have k2 := h2.keep (hm2.at0 h2.lt)
  refine ⟨a, l, c, by rw [cell_get k1]; rfl, ?_⟩
  rw [spl_decide]
  refine ⟨fun hlt => ⟨fun A L C w' => ∃ G', L ≤ j + 1 ∧ SlB w' A L C 1 (i64s (rid (s.2.take (j + 1)) e)) G' ∧ Beyond w.heap.size G' ∧ Mod [] w w', ?_, a, l, c, by rw [cell_get k1]; rfl, ?_⟩, fun hge => ?_⟩
  · rintro A' L' C' - w' ⟨G1, q1, q2, q3, q4⟩
    exact ⟨l - (j + 1), by omega, j + 1, G1, by rw [w64 (by omega) (by omega)]; omega, by omega, rfl, q1, q2, q3, q4⟩
  · obtain ⟨ad, x, rfl, hx, hc, hF⟩ := k2.rd.i64at (k := j) (by omega)
    have etk : rid (s.2.take (j + 1)) e = rid (s.2.take j) e ++ rid [x] e := by
      rw [List.take_add_one, hx, rid, List.filter_append]; rfl
    rw [nilK_some, Int.toNat_natCast]
    refine ⟨⟨by omega, by omega⟩, x, hc, ?_⟩
    rw [spl_bne]
    refine ⟨fun hne => ⟨some ad, l, c, by rw [cell_get k1]; rfl, ?_⟩, fun heq => ⟨G', by omega, ?_, hG2, hm2⟩⟩
    · rw [nilK_some]
      refine ⟨⟨by omega, by omega⟩, x, hc, ?_⟩
      refine push_K slT_int (by decide) hs2 hG2 hm2 (us := [.int .i64 x]) rfl (by simp [isCell]) (by omega) (by omega) fun A' C' w5 G5 hs' hG' hm' _ _ => ⟨_, _, _, rfl, G5, by omega, ?_, hG', hm'⟩
      rw [etk, show rid [x] e = [x] by simp [rid, hne], i64s_append]
      exact hs'
    · rw [etk, show rid [x] e = [] by simp [rid, heq], List.append_nil]
      exact hs2
  · have hjl : j = l := by omega
    subst hjl
    rw [List.take_of_length_le (by omega)] at hs2
    have hpG : p ∉ G' := fun h => by have := hG2 p h; omega
    refine stK_of k1 (by simp) ?_
    have j1 : (w2.upd p (.cells (splice #[.int .i64 s.1, .slice a j c] 1 [.slice A L C]) T (0, 0))).heap[p]? = some (.cells #[.int .i64 s.1, .slice A L C] T (0, 0)) := by rw [upd_same k1]; rfl
    have j2 : SlB (w2.upd p (.cells (splice #[.int .i64 s.1, .slice a j c] 1 [.slice A L C]) T (0, 0))) A L C 1 (i64s (rid s.2 e)) G' := hs2.keep fun b hb => upd_ne _ (by rintro rfl; exact hpG hb)
    have m4 : Mod (p :: G) w (w2.upd p (.cells (splice #[.int .i64 s.1, .slice a j c] 1 [.slice A L C]) T (0, 0))) := hm2.of0.upd (.inl (by simp)) _
    generalize w2.upd p _ = w4 at j1 j2 m4 ⊢
    have hr := rid_len s.2 e
    refine rleave_run (s := (s.1, rid s.2 e)) (F := p :: G') ⟨A, L, C, G', T, j1, j2, hpG, rfl⟩ (by simp only; omega) e fun w5 F5 h5 m5 o5 => ⟨_, _, rfl, ?_⟩
    refine hK w5 F5 h5 (m4.trans m5 fun b hb hlt => ?_) fun b hb => ?_
    · rcases List.mem_cons.1 hb with rfl | hb
      · simp
      · have := hG2 b hb; omega
    · rcases o5 b hb with h | h
      · rcases List.mem_cons.1 h with rfl | h
        · exact .inl (by simp)
        · exact .inr (hG2 b h)
      · have := m4.size; exact .inr (by omega)
end

end Go.Proofs
