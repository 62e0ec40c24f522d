/-
  Proved: januslaw18.FdsNone, as the given rows state it: whatever the input, it returns true, and the input reads behind the call as it read before. Conditions: none.
-/
import Derived.Test.YtmpaiobapmpngaaRows
import Derived.Test.YtmpaiobapmpngaaC18A
import Derived.Test.YtmpaiobapmpngaaDenB
import Derived.WalkKit
import Derived.ProofKit
import Derived.OpenShut
set_option linter.unusedVariables false
namespace Go.Proofs.Ytmpaiobapmpngaa.fdsNone
open Go.ChangeShapes Go.WideShapes Go.ChangeAt Go.RowKit Go.Den

theorem own : ownKnob Try.prog.godebug = none := by kernel_rfl
theorem laid : laidOutB Try.prog = true := by kernel_rfl

set_option maxRecDepth 100000 in
theorem lifted (os : Os) (started : os.Started) (H : Type) (enc : TypeId × Value → H) :
    ReturnsInHanded {} Try.checked os 7 .any (Rows.fdsNoneSpec.pre6 enc Try.prog Try.f7 Rows.fdsNoneRow.domain false) (Rows.fdsNoneSpec.post enc Try.prog Try.f7 false true false false) := by
  refine returnsInHanded_of_change (C := Try.checked) own started (by kernel_rfl) Try.func7
    (ChangeSpec.witness6 (enc := enc) (C := Try.checked) false ⟨#[], #[.agg #[.int .i64 0, .int .i64 0, .int .i64 0, .int .i64 0, .int .i64 0, .int .i64 0, .int .i64 0, .bool false, .int .i64 0]], []⟩ 8 (by kernel_rfl) (by kernel_rfl) (by kernel_rfl) (by kernel_rfl)) ?_
  intro W base args ds gs before hval0 hW hcnd _
  have hval : ∀ (j : Nat) t v, Try.f7.params[j]? = some t → args[j]? = some v → Value.okWide Try.prog W .any base t v := hval0
  have hW' := hW
  obtain ⟨p, q, hA0, hV, rfl, hfz, hnd⟩ := hW
  have hA : DataW.TrodAll enc Try.prog W 0 (fun _ => true) true Try.f7.params.toList args.toList ds p := hA0
  rw [Try.params7] at hA hval
  obtain ⟨rfl, rfl⟩ := trodVars_none hV
  obtain ⟨v0, vs0, d0, ds0, p0, q0, hargs, rfl, rfl, h0, r0⟩ := trodAll_cons hA
  obtain ⟨rfl, rfl, rfl⟩ := trodAll_nil r0
  obtain rfl : args = #[v0] := by cases args; simp_all
  obtain ⟨cs0, rfl, -⟩ := okWide_struct Try.underlying39 (hval 0 39 v0 rfl rfl)
  obtain ⟨m0, hf0⟩ := h0
  have ho := ok_of_trod 9 39 [.int .i64, .int .i64, .int .i64, .int .i64, .int .i64, .int .i64, .int .i64, .bool, .int .i64] m0 _ _ (by kernel_rfl) hf0
  obtain ⟨s0x0, s0r0, he, s0k0, ho⟩ := OkAll.cons ho
  obtain ⟨s0x1, s0r1, rfl, s0k1, ho⟩ := OkAll.cons ho
  obtain ⟨s0x2, s0r2, rfl, s0k2, ho⟩ := OkAll.cons ho
  obtain ⟨s0x3, s0r3, rfl, s0k3, ho⟩ := OkAll.cons ho
  obtain ⟨s0x4, s0r4, rfl, s0k4, ho⟩ := OkAll.cons ho
  obtain ⟨s0x5, s0r5, rfl, s0k5, ho⟩ := OkAll.cons ho
  obtain ⟨s0x6, s0r6, rfl, s0k6, ho⟩ := OkAll.cons ho
  obtain ⟨s0x7, s0r7, rfl, s0k7, ho⟩ := OkAll.cons ho
  obtain ⟨s0x8, s0r8, rfl, s0k8, ho⟩ := OkAll.cons ho
  obtain rfl := OkAll.nil ho
  obtain ⟨s0n0, rfl, s0w0⟩ := s0k0
  obtain ⟨s0n1, rfl, s0w1⟩ := s0k1
  obtain ⟨s0n2, rfl, s0w2⟩ := s0k2
  obtain ⟨s0n3, rfl, s0w3⟩ := s0k3
  obtain ⟨s0n4, rfl, s0w4⟩ := s0k4
  obtain ⟨s0n5, rfl, s0w5⟩ := s0k5
  obtain ⟨s0n6, rfl, s0w6⟩ := s0k6
  obtain ⟨s0n7, rfl⟩ := s0k7
  obtain ⟨s0n8, rfl, s0w8⟩ := s0k8
  obtain rfl : cs0 = #[.int .i64 s0n0, .int .i64 s0n1, .int .i64 s0n2, .int .i64 s0n3, .int .i64 s0n4, .int .i64 s0n5, .int .i64 s0n6, .bool s0n7, .int .i64 s0n8] := Array.ext' he
  clear he
  refine Calls.mono (none18_run W s0n0 s0n1 s0n2 s0n3 s0n4 s0n5 s0n6 s0n7 s0n8 s0w0 s0w1 s0w2 s0w3 s0w4 s0w5 s0w6 s0w8) fun e W' ⟨v, he, hv, hm⟩ => ?_
  subst he
  subst hv
  exact ⟨_, rfl, post_true laid (by kernel_rfl) hW' rfl (by kernel_rfl) Try.underlying4 rfl hm⟩

theorem over : Rows.fdsNoneRow.holds Try.pinned (OpenSpec.ofChange Rows.fdsNoneSpec) :=
  OpenClaim.holds_of_wide 7 Try.f7 rfl rfl rfl rfl rfl rfl rfl ⟨rfl, rfl, rfl, rfl, rfl⟩ rfl rfl rfl rfl rfl (by kernel_rfl) Try.func7 (by kernel_rfl)
    (of_decide_eq_true (by kernel_rfl)) (by unfold Func.isWrapper; first | (rw [if_pos (by decide +kernel)]; kernel_rfl) | (rw [if_neg (by decide +kernel)]; exact ⟨rfl, rfl⟩))
    (fun os started H enc _ => lifted os started H enc)

/-- The given statement. -/
theorem proved : Rows.FdsNoneSaid :=
  over
#print axioms proved
end Go.Proofs.Ytmpaiobapmpngaa.fdsNone
