/-
  Proved: januslaw18.FdsPlays, as the given rows state it: whatever the input, it returns true, and the input reads behind the call as it read before. Conditions: none.
-/
import Derived.Test.YtmpaiobapmpngaaRows
import Derived.Test.YtmpaiobapmpngaaC18D
import Derived.Test.YtmpaiobapmpngaaDenB
import Derived.WalkKit
import Derived.ProofKit
import Derived.OpenShut
set_option linter.unusedVariables false
namespace Go.Proofs.Ytmpaiobapmpngaa.fdsPlays
open Go.ChangeShapes Go.WideShapes Go.ChangeAt Go.RowKit Go.Den

theorem own : ownKnob Try.prog.godebug = none := by kernel_rfl
theorem laid : laidOutB Try.prog = true := by kernel_rfl
theorem cells39 : Try.prog.cellsOf 39 = 9 := by kernel_rfl

set_option maxRecDepth 100000 in
theorem lifted (os : Os) (started : os.Started) (H : Type) (enc : TypeId × Value → H) :
    ReturnsInHanded {} Try.checked os 6 .any (Rows.fdsPlaysSpec.pre6 enc Try.prog Try.f6 Rows.fdsPlaysRow.domain false) (Rows.fdsPlaysSpec.post enc Try.prog Try.f6 false true false false) := by
  refine returnsInHanded_of_change (C := Try.checked) own started (by kernel_rfl) Try.func6
    (ChangeSpec.witness6 (enc := enc) (C := Try.checked) false ⟨#[], #[.slice none 0 0], []⟩ 8 (by kernel_rfl) (by kernel_rfl) (by kernel_rfl) (by kernel_rfl)) ?_
  intro W base args ds gs before hval0 hW hcnd _
  have hval : ∀ (j : Nat) t v, Try.f6.params[j]? = some t → args[j]? = some v → Value.okWide Try.prog W .any base t v := hval0
  have hW' := hW
  obtain ⟨p, q, hA0, hV, rfl, hfz, hnd⟩ := hW
  have hA : DataW.TrodAll enc Try.prog W 0 (fun _ => true) true Try.f6.params.toList args.toList ds p := hA0
  rw [Try.params6] at hA hval
  obtain ⟨rfl, rfl⟩ := trodVars_none hV
  obtain ⟨v0, vs0, d0, ds0, p0, q0, hargs, rfl, rfl, h0, r0⟩ := trodAll_cons hA
  obtain ⟨rfl, rfl, rfl⟩ := trodAll_nil r0
  obtain rfl : args = #[v0] := by cases args; simp_all
  obtain ⟨a0, l0, c0, rfl⟩ := okWide_slice Try.underlying34 (hval 0 34 v0 rfl rfl)
  obtain ⟨m0, hf0⟩ := h0
  have ho := ok_of_trod 9 34 [.sl 39] m0 _ _ (by kernel_rfl) hf0
  obtain ⟨b0, r0, he, hk0, ho⟩ := OkAll.cons ho
  obtain rfl := OkAll.nil ho
  obtain ⟨a0', l0', c0', rfl, hs0⟩ := hk0
  cases he
  rw [cells39] at hs0
  have hin0 : SlIn W 9 Q_januslaw18_Deed a0 l0 c0 := hs0.toIn (by decide) fun cs ⟨n, x, hx⟩ => by
    have ho := ok_of_trod 9 39 [.int .i64, .int .i64, .int .i64, .int .i64, .int .i64, .int .i64, .int .i64, .bool, .int .i64] n cs x (by kernel_rfl) hx
    obtain ⟨e0x0, e0r0, he, e0k0, ho⟩ := OkAll.cons ho
    obtain ⟨e0x1, e0r1, rfl, e0k1, ho⟩ := OkAll.cons ho
    obtain ⟨e0x2, e0r2, rfl, e0k2, ho⟩ := OkAll.cons ho
    obtain ⟨e0x3, e0r3, rfl, e0k3, ho⟩ := OkAll.cons ho
    obtain ⟨e0x4, e0r4, rfl, e0k4, ho⟩ := OkAll.cons ho
    obtain ⟨e0x5, e0r5, rfl, e0k5, ho⟩ := OkAll.cons ho
    obtain ⟨e0x6, e0r6, rfl, e0k6, ho⟩ := OkAll.cons ho
    obtain ⟨e0x7, e0r7, rfl, e0k7, ho⟩ := OkAll.cons ho
    obtain ⟨e0x8, e0r8, rfl, e0k8, ho⟩ := OkAll.cons ho
    obtain rfl := OkAll.nil ho
    obtain ⟨e0n0, rfl, e0w0⟩ := e0k0
    obtain ⟨e0n1, rfl, e0w1⟩ := e0k1
    obtain ⟨e0n2, rfl, e0w2⟩ := e0k2
    obtain ⟨e0n3, rfl, e0w3⟩ := e0k3
    obtain ⟨e0n4, rfl, e0w4⟩ := e0k4
    obtain ⟨e0n5, rfl, e0w5⟩ := e0k5
    obtain ⟨e0n6, rfl, e0w6⟩ := e0k6
    obtain ⟨e0n7, rfl⟩ := e0k7
    obtain ⟨e0n8, rfl, e0w8⟩ := e0k8
    exact ⟨e0n0, e0n1, e0n2, e0n3, e0n4, e0n5, e0n6, e0n7, e0n8, he, e0w0, e0w1, e0w2, e0w3, e0w4, e0w5, e0w6, e0w8⟩
  refine Calls.mono (plays18_run W a0 l0 c0 hin0) fun e W' ⟨v, he, hv, hm⟩ => ?_
  subst he
  subst hv
  exact ⟨_, rfl, post_true laid (by kernel_rfl) hW' rfl (by kernel_rfl) Try.underlying4 rfl hm⟩

theorem over : Rows.fdsPlaysRow.holds Try.pinned (OpenSpec.ofChange Rows.fdsPlaysSpec) :=
  OpenClaim.holds_of_wide 6 Try.f6 rfl rfl rfl rfl rfl rfl rfl ⟨rfl, rfl, rfl, rfl, rfl⟩ rfl rfl rfl rfl rfl (by kernel_rfl) Try.func6 (by kernel_rfl)
    (of_decide_eq_true (by kernel_rfl)) (by unfold Func.isWrapper; first | (rw [if_pos (by decide +kernel)]; kernel_rfl) | (rw [if_neg (by decide +kernel)]; exact ⟨rfl, rfl⟩))
    (fun os started H enc _ => lifted os started H enc)

/-- The given statement. -/
theorem proved : Rows.FdsPlaysSaid :=
  over
#print axioms proved
end Go.Proofs.Ytmpaiobapmpngaa.fdsPlays
