/-
  'Has' of the reference: is a number among some?
-/
import Derived.Test.YtkcnchnlhdhcbaaU64
import Derived.Test.YtkcnchnlhdhcbaaRes
set_option linter.unusedSimpArgs false
namespace Go.Proofs
open Go Go.Den

theorem has_rd {w : World} {a : Option Addr} {l c : Nat} {xs : List Int} {F : List Nat} (hx : Rd w a l 1 (i64s xs) F) (hl : l ≤ 9223372036854775807) (n : Int) {K : Value → World → Prop} (h : K (.bool (decide (n ∈ xs))) w) : CallsR Try.prog F_janusref01_Has #[.slice a l c, .int .i64 n] w K := by
  apply R_janusref01_Has_ok
  simp only [R_janusref01_Has, spl_decide, spl_beq]
  have e1 := hx.i64
  refine ⟨fun m i w' => ∃ k : Nat, i = k ∧ k ≤ l ∧ m = l - k ∧ w' = w ∧ n ∉ xs.take k, ⟨l, 0, rfl, by omega, rfl, rfl, by simp⟩, ?_⟩
  rintro m i - w2 ⟨k, rfl, hk, rfl, rfl, hbef⟩
  refine ⟨fun hlt => ?_, fun hge => ?_⟩
  · obtain ⟨ad, x, rfl, hxk, hc, -, -⟩ := hx.i64at (k := k) (by omega)
    rw [nilK_some, Int.toNat_natCast]
    refine ⟨⟨by omega, by omega⟩, x, hc, fun heq => ?_, fun hne => ⟨l - (k + 1), by omega, k + 1, by rw [w64 (by omega) (by omega)]; omega, by omega, rfl, rfl, ?_⟩⟩
    · subst heq
      rw [show true = decide (x ∈ xs) from (decide_eq_true (List.mem_of_getElem? hxk)).symm]
      exact h
    · rw [List.take_add_one, hxk]
      simp only [List.mem_append, Option.mem_toList, Option.mem_some_iff, not_or]
      exact ⟨hbef, fun e => hne (Option.some.inj e)⟩
  · rw [List.take_of_length_le (by omega)] at hbef
    rw [show false = decide (n ∈ xs) from (decide_eq_false hbef).symm]
    exact h

end Go.Proofs
