/-
  exo: what the laws that play share: an ask among the arguments; what is new; an error has no words.
-/
import Derived.Test.YthpcakhhemdibaaGreatR13A
import Derived.Test.YthpcakhhemdibaaGreatK13A
set_option linter.unusedVariables false
set_option linter.unusedSimpArgs false
namespace Go.Proofs
open Go Go.Den

theorem words_in13 {w : World} {a : Option Addr} {l c : Nat} (hl : SlIn w 1 Q_u64 a l c) : ∃ (xs : List Int) (G : List Nat), Rd w a l 1 (u64s xs) G ∧ ∀ x ∈ xs, 0 ≤ x ∧ x < 18446744073709551616 := by
  obtain ⟨vss, F, h1, h2, h3⟩ := hl.rd
  obtain ⟨xs, h4, h5, h6⟩ := flat1 (k := .u64) vss fun vs hv => (h2 vs hv).1
  exact ⟨xs, F, by rw [h4] at h3; exact h3, fun x hx => u64_bounds (h6 x hx)⟩

theorem T13_W (j : Nat) : T13 (W13 j) := by
  have hc : (W13 j).m.c = ⟨[], 0⟩ := rfl
  refine ⟨?_, ?_, ?_, ?_⟩
  · rw [hc]; exact W8.nil
  · rw [hc]; intro x hx; cases hx
  · intro e q x hx; cases hx
  · intro e k x hx; cases hx

end Go.Proofs
