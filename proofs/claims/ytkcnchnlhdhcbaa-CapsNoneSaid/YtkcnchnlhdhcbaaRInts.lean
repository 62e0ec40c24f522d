/-
  'Ints' of the reference compares two rows.
-/
import Derived.Test.YtkcnchnlhdhcbaaU64
import Derived.Test.YtkcnchnlhdhcbaaRes
set_option linter.unusedSimpArgs false
namespace Go.Proofs
open Go Go.Den

theorem ints_rd {w : World} {a a2 : Option Addr} {l l2 c c2 : Nat} {xs ys : List Int} {F G : List Nat} (hx : Rd w a l 1 (i64s xs) F) (hy : Rd w a2 l2 1 (i64s ys) G) (hl : l ≤ 9223372036854775807) {K : Value → World → Prop}
    (h : ∀ w', Mod [] w w' → K (.bool (decide (xs = ys))) w') : CallsR Try.prog F_janusref01_Ints #[.slice a l c, .slice a2 l2 c2] w K := by
  apply R_janusref01_Ints_ok
  have e1 := hx.i64
  have e2 := hy.i64
  simp only [R_janusref01_Ints, spl_bne, spl_decide, drK_eq]
  refine ⟨fun hne => ?_, fun heq => ?_⟩
  · have : decide (xs = ys) = false := by
      simp only [decide_eq_false_iff_not]
      rintro rfl
      omega
    rw [← this]
    exact h w (Mod.refl _ _)
  · have hll : l = l2 := by omega
    subst hll
    refine ⟨fun m i w1 => ∃ k : Nat, i = k ∧ k ≤ l ∧ m = l - k ∧ xs.take k = ys.take k ∧ Mod [] w w1, ⟨l, 0, by simp, by simp, by simp, by simp, Mod.refl _ _⟩, ?_⟩
    rintro m i - w1 ⟨k, rfl, hk, rfl, ht, hm⟩
    refine ⟨fun hlt => ?_, fun hge => ?_⟩
    · have hkl : k < l := by omega
      obtain ⟨ad, x, rfl, hx1, c1, -, -⟩ := (hx.mod0 hm.drew).i64at hkl
      obtain ⟨ad2, y, rfl, hy1, c2, -, -⟩ := (hy.mod0 hm.drew).i64at hkl
      simp only [nilK_some, Int.toNat_natCast]
      refine ⟨⟨by omega, by omega⟩, _, c1, ⟨by omega, by omega⟩, _, c2, fun hne => ?_, fun heq => ?_⟩
      · have : decide (xs = ys) = false := by
          simp only [decide_eq_false_iff_not]
          rintro rfl
          rw [hx1] at hy1
          exact hne (Option.some.inj hy1)
        rw [← this]
        exact h _ hm.drew
      · refine ⟨l - (k + 1), by omega, k + 1, by rw [w64 (by omega) (by omega)]; omega, by omega, rfl, ?_, hm.drew⟩
        have p1 := (List.getElem?_eq_some_iff.1 hx1).2
        have p2 := (List.getElem?_eq_some_iff.1 hy1).2
        rw [List.take_succ_eq_append_getElem (by omega), List.take_succ_eq_append_getElem (by omega), ht, p1, p2, heq]
    · have hkl : k = l := by omega
      subst hkl
      have : decide (xs = ys) = true := by
        simp only [decide_eq_true_eq]
        rw [List.take_of_length_le (by omega), List.take_of_length_le (by omega)] at ht
        exact ht
      rw [← this]
      exact h _ hm

end Go.Proofs
