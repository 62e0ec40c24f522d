/-
  exo: a call that answers an error changes nothing that anybody sees.
-/
import Derived.Test.YthpcakhhemdibaaGreatC13S
set_option linter.unusedVariables false
set_option linter.unusedSimpArgs false
namespace Go.Proofs
open Go Go.Den

theorem app_get (l t : List Part) (i : Nat) : (l ++ t)[l.length + i]? = t[i]? := by
  rw [List.getElem?_append_right (by omega)]
  congr 1
  omega
theorem app_set (l t : List Part) (i : Nat) (x : Part) : (l ++ t).set (l.length + i) x = l ++ t.set i x := by
  rw [List.set_append_right _ _ (by omega)]
  congr 2
  omega

abbrev RowF := Nat → Option Addr × Nat × List Nat
end Go.Proofs
