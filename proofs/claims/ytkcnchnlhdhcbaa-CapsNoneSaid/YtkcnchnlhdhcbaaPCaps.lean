/-
  caps: contracts of the program's capabilities: what is asked of one alone.
-/
import Derived.Test.YtkcnchnlhdhcbaaRCaps2
set_option linter.unusedSimpArgs false
namespace Go.Proofs
open Go Go.Den

theorem pis_run (n : Int) {w : World} {K : Value → World → Prop} (h : K (.bool (decide (env12 n))) w) : CallsR Try.prog F_caps_is #[.int .i64 n] w K := by
  apply R_caps_is_ok
  simp only [R_caps_is, spl_decide]
  refine ⟨fun h1 => ?_, fun h1 => ?_⟩
  · rw [show decide (n < 12) = decide (env12 n) from decide_eq_decide.2 (by unfold env12; omega)]; exact h
  · rw [show false = decide (env12 n) from (decide_eq_false (by unfold env12; omega)).symm]; exact h

theorem pcovers_run {x : Cap8} (hx : May8 x) (k i r : Int) (hi : (Lit.int .i64 i).wf = true) {w : World} {K : Value → World → Prop} (hK : ∀ w', Mod [] w w' → K (.bool (covers8 x k i r)) w') :
    CallsR Try.prog F_caps_covers #[.agg #[.int .i64 x.k, .int .i64 x.i, .int .i64 x.n, .int .i64 x.r], .int .i64 k, .int .i64 i, .int .i64 r] w K := by
  apply R_caps_covers_ok
  simp only [R_caps_covers, spl_decide, spl_beq]
  refine (Sep.nil (Mod.refl [] w)).new fun b w1 s1 m1 hb => ?_
  have c0 : w1.cell? ⟨b, 0, none⟩ = some (.int .i64 x.k) := s1.cell 0 rfl rfl
  have c1 : w1.cell? ⟨b, 1, none⟩ = some (.int .i64 x.i) := s1.cell 0 rfl rfl
  have c2 : w1.cell? ⟨b, 2, none⟩ = some (.int .i64 x.n) := s1.cell 0 rfl rfl
  have c3 : w1.cell? ⟨b, 3, none⟩ = some (.int .i64 x.r) := s1.cell 0 rfl rfl
  simp only [c0, c1, c2, c3, Option.some.injEq, Value.int.injEq, true_and, exists_eq_left']
  have hK := hK w1 m1
  obtain ⟨-, b2, b3, b4, b5, b6, b7⟩ := hx
  rw [w64 (by omega) (by omega)]
  have no : covers8 x k i r = false → K (.bool false) w1 := fun e => by rwa [e] at hK
  refine ⟨fun h0 => ⟨fun h1 => ⟨fun h2 => ?_, fun h2 => no ?_⟩, fun h1 => no ?_⟩, fun h0 => no ?_⟩
  · have e : covers8 x k i r = hasR x.r r := by
      unfold covers8
      rw [show (x.k == k) = true by simpa using h0, decide_eq_true h1, decide_eq_true h2]
      simp
    rw [e] at hK
    exact hK
  · unfold covers8; rw [decide_eq_false h2]; simp
  · unfold covers8; rw [decide_eq_false h1]; simp
  · unfold covers8; rw [show (x.k == k) = false by simpa using h0]; simp

theorem pmay_run (x : Cap8) {w : World} {K : Value → World → Prop} (hK : ∀ w', Mod [] w w' → K (.bool (decide (May8 x))) w') : CallsR Try.prog F_caps_may #[.agg #[.int .i64 x.k, .int .i64 x.i, .int .i64 x.n, .int .i64 x.r]] w K := by
  apply R_caps_may_ok
  simp only [R_caps_may, spl_decide, spl_beq]
  refine (Sep.nil (Mod.refl [] w)).new fun b w1 s1 m1 hb => ?_
  have c0 : w1.cell? ⟨b, 0, none⟩ = some (.int .i64 x.k) := s1.cell 0 rfl rfl
  have c1 : w1.cell? ⟨b, 1, none⟩ = some (.int .i64 x.i) := s1.cell 0 rfl rfl
  have c2 : w1.cell? ⟨b, 2, none⟩ = some (.int .i64 x.n) := s1.cell 0 rfl rfl
  have c3 : w1.cell? ⟨b, 3, none⟩ = some (.int .i64 x.r) := s1.cell 0 rfl rfl
  have ht : May8 x → K (.bool true) w1 := fun h => by have := hK w1 m1; rwa [decide_eq_true h] at this
  have hf : ¬ May8 x → K (.bool false) w1 := fun h => by have := hK w1 m1; rwa [decide_eq_false h] at this
  have hl : (x.r ≤ 7 ↔ May8 x) → K (.bool (decide (x.r ≤ 7))) w1 := fun h => by have := hK w1 m1; rwa [← decide_eq_decide.2 h] at this
  unfold May8 at ht hf hl
  refine ⟨fun kd w' => w' = w1 ∧ kd = decide (x.k = 2 ∨ x.k = 1 ∧ x.n = 1), ?_, ?_⟩
  · rintro kd - w' ⟨rfl, rfl⟩
    simp only [c0, c1, c2, c3, Option.some.injEq, Value.int.injEq, true_and, exists_eq_left', spl_decide]
    repeat' first | (refine ⟨?_, ?_⟩) | intro _
    all_goals first | exact hf (by omega) | exact hl (by omega)
  · simp only [c0, c1, c2, c3, Option.some.injEq, Value.int.injEq, true_and, exists_eq_left']
    refine ⟨fun h => (decide_eq_true (.inl h)).symm, fun h => ⟨fun h1 => ?_, fun h1 => ?_⟩⟩
    · rw [Bool.eq_iff_iff]; simp [h, h1]
    · exact (decide_eq_false (by omega)).symm

theorem pmeet_run {x y : Cap8} (hx : May8 x) (hy : May8 y) {w : World} {K : Value → World → Prop} (hK : ∀ w', Mod [] w w' → K (.bool (meet8 x y)) w') : CallsR Try.prog F_caps_meet #[.agg #[.int .i64 x.k, .int .i64 x.i, .int .i64 x.n, .int .i64 x.r], .agg #[.int .i64 y.k, .int .i64 y.i, .int .i64 y.n, .int .i64 y.r]] w K := by
  apply R_caps_meet_ok
  simp only [R_caps_meet, spl_decide]
  refine (Sep.nil (Mod.refl [] w)).new fun b w1 s1 m1 hb => ?_
  refine s1.new fun b2 w2 s2 m2 hb2 => ?_
  refine ⟨x.k, s2.cell 1 rfl rfl, x.i, s2.cell 1 rfl rfl, y.i, s2.cell 0 rfl rfl, ?_⟩
  refine s2.new fun b3 w3 s3 m3 hb3 => ?_
  refine s3.st 0 rfl (by simp) fun w4 s4 m4 => ?_
  refine ⟨x.k, (if y.i > x.i then y.i else x.i), 0, 0, ⟨s4.cell 0 rfl rfl, s4.cell 0 rfl rfl, s4.cell 0 rfl rfl, s4.cell 0 rfl rfl⟩, y.k, s4.cell 1 rfl rfl, x.i, s4.cell 2 rfl rfl, y.i, s4.cell 1 rfl rfl, ?_⟩
  obtain ⟨m, hm⟩ : ∃ m, m = (if y.i > x.i then y.i else x.i) := ⟨_, rfl⟩
  rw [← hm]
  refine eqAgg_K eqT_api_Cap (xs := [.int .i64 x.k, .int .i64 m, .int .i64 0, .int .i64 0]) (ys := [.int .i64 y.k, .int .i64 m, .int .i64 0, .int .i64 0]) (by simp [matchL, matchS]) (by simp [matchL, matchS]) ?_
  have e : cellsEq [.int .i64 x.k, .int .i64 m, .int .i64 0, .int .i64 0] [.int .i64 y.k, .int .i64 m, .int .i64 0, .int .i64 0] = (x.k == y.k) := by simp [cellsEq, cellEq]
  rw [e, spl_beq]
  have hK := hK w4 s4.mod
  unfold May8 at hx hy
  have f : ¬ (x.k = y.k ∧ y.i < x.i + x.n ∧ x.i < y.i + y.n) → K (.bool false) w4 := fun h => by
    have e : meet8 x y = false := by
      cases hh : meet8 x y with
      | false => rfl
      | true => exact absurd (by simpa [meet8, and_assoc] using hh) h
    rwa [e] at hK
  refine ⟨fun hk => ⟨m, s4.cell 0 rfl (by rw [hm]; rfl), x.i, s4.cell 2 rfl rfl, x.n, s4.cell 2 rfl rfl, ?_⟩, fun hk => f fun z => hk z.1⟩
  rw [w64 (by omega) (by omega)]
  refine ⟨fun h1 => ⟨m, s4.cell 0 rfl (by rw [hm]; rfl), y.i, s4.cell 1 rfl rfl, y.n, s4.cell 1 rfl rfl, ?_⟩, fun h1 => f fun z => ?_⟩
  · rw [w64 (by omega) (by omega)]
    have e : meet8 x y = decide (m < y.i + y.n) := by
      rw [Bool.eq_iff_iff]
      simp only [meet8, Bool.and_eq_true, beq_iff_eq, decide_eq_true_eq]
      split at hm <;> omega
    rwa [e] at hK
  · split at hm <;> omega

end Go.Proofs
