/-
  exo: what an environment sees is not long.
-/
import Derived.Test.YthpcakhhemdibaaGreatC13C
set_option linter.unusedVariables false
set_option linter.unusedSimpArgs false
namespace Go.Proofs
open Go Go.Den

theorem KX.w8 {w : World} {k : Nat} {s : S13} {F : List Nat} (h : KX w k s F) : W8 s.m.c := by
  obtain ⟨A, h1, -⟩ := h
  exact (xm h1).w8
theorem KX.w8d {w : World} {k : Nat} {s : S13} {F : List Nat} (h : KX w k s F) : W8 s.d.c := by
  obtain ⟨A, h1, -⟩ := h
  exact (xd h1).w8
theorem KX.all {w : World} {k : Nat} {s : S13} {F : List Nat} (h : KX w k s F) : All32 s.m.m ∧ T12 s.d := by
  obtain ⟨A, h1, -⟩ := h
  refine ⟨?_, (xd h1).t⟩
  obtain ⟨-, B, h2, -⟩ := xm h1
  obtain ⟨_, _, _, _, _, _, h3, _⟩ := kmem h2
  exact h3

end Go.Proofs
