/-
  exo: what environment 1 sees, whatever the others do: the parts of the walk.
  exo: what environment 1 sees, and what its own calls answer, is the same whatever the others do: the law.
-/
import Derived.Test.YthpcakhhemdibaaGreatC13S
import Derived.Test.YthpcakhhemdibaaGreatL13C
import Derived.Test.YthpcakhhemdibaaGreatL13F
set_option linter.unusedVariables false
set_option linter.unusedSimpArgs false
namespace Go.Proofs
open Go Go.Den

theorem doV13_le {s : S13} (hT : T12 s.d) (hw : W8 s.d.c) (hq : ∀ e, ∀ x ∈ s.q e, x.2.length ≤ 8) (env n : Int) (w : List Int) : (doV13 s env n w).1.length ≤ 32 := by
  have a1 : ∀ x : Int × Int, (ans1 x).1.length ≤ 32 := fun x => by unfold ans1; split <;> simp
  have aW : ∀ x : Int × Int, (ansW x).1.length ≤ 32 := fun x => by unfold ansW; split <;> simp
  have a0 : ∀ e : Int, (([], e) : List Int × Int).1.length ≤ 32 := fun e => Nat.zero_le _
  unfold doV13
  refine P_ite (P := fun v : List Int × Int => v.1.length ≤ 32) (a1 _) ?_
  refine P_ite (P := fun v : List Int × Int => v.1.length ≤ 32) (a1 _) ?_
  repeat refine P_ite (P := fun v : List Int × Int => v.1.length ≤ 32) (a0 _) ?_
  refine P_ite (P := fun v : List Int × Int => v.1.length ≤ 32) (aW _) ?_
  repeat refine P_ite (P := fun v : List Int × Int => v.1.length ≤ 32) (a0 _) ?_
  refine P_ite (P := fun v : List Int × Int => v.1.length ≤ 32) (aW _) ?_
  repeat refine P_ite (P := fun v : List Int × Int => v.1.length ≤ 32) (a0 _) ?_
  refine P_ite (P := fun v : List Int × Int => v.1.length ≤ 32) ?_ ?_
  · cases hx : s.q env with
    | nil => exact Nat.zero_le _
    | cons x r =>
      have := hq env x (by rw [hx]; simp)
      simp only [List.length_cons]
      omega
  refine P_ite (P := fun v : List Int × Int => v.1.length ≤ 32) (a1 _) ?_
  refine P_ite (P := fun v : List Int × Int => v.1.length ≤ 32) (a1 _) ?_
  repeat refine P_ite (P := fun v : List Int × Int => v.1.length ≤ 32) (a0 _) ?_
  refine P_ite (P := fun v : List Int × Int => v.1.length ≤ 32) (getV12_le hT hw _ _ _) ?_
  exact a0 _
theorem rawV13_le {s : S13} (hT : T12 s.d) (hw : W8 s.d.c) (hq : ∀ e, ∀ x ∈ s.q e, x.2.length ≤ 8) (env : Int) (cs : List Int) : (rawV13 s env cs).1.length ≤ 32 := by
  unfold rawV13
  split
  · exact Nat.zero_le _
  · split
    · exact doV13_le hT hw hq _ _ _
    · exact Nat.zero_le _

section
variable {w0 w : World} {PQ PR : Part} {k m : Nat} {s t : S13} {F F2 : List Nat}
end

end Go.Proofs

set_option linter.unusedSimpArgs false
namespace Go.Proofs
open Go Go.Den

end Go.Proofs
