/-
  Proved: januslaw02.MmuPlaces, as the given rows state it: whatever the input, it returns true, and the input reads behind the call as it read before. Conditions: none.
-/
import Derived.Test.YtgcbaomkoakmiaaRows
import Derived.Test.YtgcbaomkoakmiaaC02e
import Derived.Test.YtgcbaomkoakmiaaDen9
import Derived.WalkKit
import Derived.ProofKit
import Derived.OpenShut
set_option linter.unusedVariables false
namespace Go.Proofs.Ytgcbaomkoakmiaa.mmuPlaces
open Go.ChangeShapes Go.WideShapes Go.ChangeAt Go.RowKit Go.Den

theorem own : ownKnob Try.prog.godebug = none := by kernel_rfl
theorem laid : laidOutB Try.prog = true := by kernel_rfl

set_option maxRecDepth 100000 in
theorem lifted (os : Os) (started : os.Started) (H : Type) (enc : TypeId × Value → H) :
    ReturnsInHanded {} Try.checked os 3 .any (Rows.mmuPlacesSpec.pre6 enc Try.prog Try.f3 Rows.mmuPlacesRow.domain false) (Rows.mmuPlacesSpec.post enc Try.prog Try.f3 false true false false) := by
  refine returnsInHanded_of_change (C := Try.checked) own started (by kernel_rfl) Try.func3
    (ChangeSpec.witness6 (enc := enc) (C := Try.checked) false ⟨#[], #[.agg #[.int .i64 0, .int .i64 0], .agg #[.int .i64 0, .bool false], .bool false], []⟩ 8 (by kernel_rfl) (by kernel_rfl) (by kernel_rfl) (by kernel_rfl)) ?_
  intro W base args ds gs before hval0 hW hcnd _
  have hval : ∀ (j : Nat) t v, Try.f3.params[j]? = some t → args[j]? = some v → Value.okWide Try.prog W .any base t v := hval0
  have hW' := hW
  obtain ⟨p, q, hA0, hV, rfl, hfz, hnd⟩ := hW
  have hA : DataW.TrodAll enc Try.prog W 0 (fun _ => true) true Try.f3.params.toList args.toList ds p := hA0
  rw [Try.params3] at hA hval
  obtain ⟨rfl, rfl⟩ := trodVars_none hV
  obtain ⟨v0, vs0, d0, ds0, p0, q0, hargs, rfl, rfl, h0, r0⟩ := trodAll_cons hA
  obtain ⟨v1, vs1, d1, ds1, p1, q1, rfl, rfl, rfl, h1, r1⟩ := trodAll_cons r0
  obtain ⟨v2, vs2, d2, ds2, p2, q2, rfl, rfl, rfl, h2, r2⟩ := trodAll_cons r1
  obtain ⟨rfl, rfl, rfl⟩ := trodAll_nil r2
  obtain rfl : args = #[v0, v1, v2] := by cases args; simp_all
  obtain ⟨cs0, rfl⟩ := okWide_array Try.underlying22 (hval 0 22 v0 rfl rfl)
  obtain ⟨m0, hf0⟩ := h0
  have ho := ok_of_trod 9 22 [.int .i64, .int .i64] m0 _ _ (by kernel_rfl) hf0
  obtain ⟨s0x0, s0r0, he, s0k0, ho⟩ := OkAll.cons ho
  obtain ⟨s0x1, s0r1, rfl, s0k1, ho⟩ := OkAll.cons ho
  obtain rfl := OkAll.nil ho
  obtain ⟨s0n0, rfl, s0w0⟩ := s0k0
  obtain ⟨s0n1, rfl, s0w1⟩ := s0k1
  obtain rfl : cs0 = #[.int .i64 s0n0, .int .i64 s0n1] := Array.ext' he
  clear he
  obtain ⟨cs1, rfl, -⟩ := okWide_struct Try.underlying24 (hval 1 24 v1 rfl rfl)
  obtain ⟨m1, hf1⟩ := h1
  have ho := ok_of_trod 9 24 [.int .i64, .bool] m1 _ _ (by kernel_rfl) hf1
  obtain ⟨s1x0, s1r0, he, s1k0, ho⟩ := OkAll.cons ho
  obtain ⟨s1x1, s1r1, rfl, s1k1, ho⟩ := OkAll.cons ho
  obtain rfl := OkAll.nil ho
  obtain ⟨s1n0, rfl, s1w0⟩ := s1k0
  obtain ⟨s1n1, rfl⟩ := s1k1
  obtain rfl : cs1 = #[.int .i64 s1n0, .bool s1n1] := Array.ext' he
  clear he
  obtain ⟨a2, rfl, rfl, rfl⟩ := open_bool Try.underlying4 (hval 2 4 v2 rfl rfl) h2
  refine Calls.mono (places_run W s0n0 s0n1 s0w0 s0w1 s1n0 s1n1 s1w0 a2) fun e W' ⟨v, he, hv, hm⟩ => ?_
  subst he
  subst hv
  exact ⟨_, rfl, post_true laid (by kernel_rfl) hW' rfl (by kernel_rfl) Try.underlying4 rfl hm⟩

theorem over : Rows.mmuPlacesRow.holds Try.pinned (OpenSpec.ofChange Rows.mmuPlacesSpec) :=
  OpenClaim.holds_of_wide 3 Try.f3 rfl rfl rfl rfl rfl rfl rfl ⟨rfl, rfl, rfl, rfl, rfl⟩ rfl rfl rfl rfl rfl (by kernel_rfl) Try.func3 (by kernel_rfl)
    (of_decide_eq_true (by kernel_rfl)) (by unfold Func.isWrapper; first | (rw [if_pos (by decide +kernel)]; kernel_rfl) | (rw [if_neg (by decide +kernel)]; exact ⟨rfl, rfl⟩))
    (fun os started H enc _ => lifted os started H enc)

/-- The given statement. -/
theorem proved : Rows.MmuPlacesSaid :=
  over
#print axioms proved
end Go.Proofs.Ytgcbaomkoakmiaa.mmuPlaces
