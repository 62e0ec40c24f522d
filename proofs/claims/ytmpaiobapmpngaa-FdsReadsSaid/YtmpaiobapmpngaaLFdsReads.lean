/-
  Proved: januslaw18.FdsReads, as the given rows state it: whatever the input, it returns true, and the input reads behind the call as it read before. Conditions: none.
-/
import Derived.Test.YtmpaiobapmpngaaRows
import Derived.Test.YtmpaiobapmpngaaC18E
import Derived.Test.YtmpaiobapmpngaaDenB
import Derived.WalkKit
import Derived.ProofKit
import Derived.OpenShut
set_option linter.unusedVariables false
namespace Go.Proofs.Ytmpaiobapmpngaa.fdsReads
open Go.ChangeShapes Go.WideShapes Go.ChangeAt Go.RowKit Go.Den

theorem own : ownKnob Try.prog.godebug = none := by kernel_rfl
theorem laid : laidOutB Try.prog = true := by kernel_rfl
theorem cells67 : Try.prog.cellsOf 67 = 1 := by kernel_rfl

set_option maxRecDepth 100000 in
theorem lifted (os : Os) (started : os.Started) (H : Type) (enc : TypeId × Value → H) :
    ReturnsInHanded {} Try.checked os 3 .any (Rows.fdsReadsSpec.pre6 enc Try.prog Try.f3 Rows.fdsReadsRow.domain false) (Rows.fdsReadsSpec.post enc Try.prog Try.f3 false true false false) := by
  refine returnsInHanded_of_change (C := Try.checked) own started (by kernel_rfl) Try.func3
    (ChangeSpec.witness6 (enc := enc) (C := Try.checked) false ⟨#[], #[.slice none 0 0], []⟩ 8 (by kernel_rfl) (by kernel_rfl) (by kernel_rfl) (by kernel_rfl)) ?_
  intro W base args ds gs before hval0 hW hcnd _
  have hval : ∀ (j : Nat) t v, Try.f3.params[j]? = some t → args[j]? = some v → Value.okWide Try.prog W .any base t v := hval0
  have hW' := hW
  obtain ⟨p, q, hA0, hV, rfl, hfz, hnd⟩ := hW
  have hA : DataW.TrodAll enc Try.prog W 0 (fun _ => true) true Try.f3.params.toList args.toList ds p := hA0
  rw [Try.params3] at hA hval
  obtain ⟨rfl, rfl⟩ := trodVars_none hV
  obtain ⟨v0, vs0, d0, ds0, p0, q0, hargs, rfl, rfl, h0, r0⟩ := trodAll_cons hA
  obtain ⟨rfl, rfl, rfl⟩ := trodAll_nil r0
  obtain rfl : args = #[v0] := by cases args; simp_all
  obtain ⟨a0, l0, c0, rfl⟩ := okWide_slice Try.underlying22 (hval 0 22 v0 rfl rfl)
  obtain ⟨m0, hf0⟩ := h0
  have ho := ok_of_trod 9 22 [.sl 67] m0 _ _ (by kernel_rfl) hf0
  obtain ⟨b0, r0, he, hk0, ho⟩ := OkAll.cons ho
  obtain rfl := OkAll.nil ho
  obtain ⟨a0', l0', c0', rfl, hs0⟩ := hk0
  cases he
  rw [cells67] at hs0
  have hin0 : SlIn W 1 Q_u64 a0 l0 c0 := hs0.toIn (by decide) fun cs ⟨n, x, hx⟩ => by
    have ho := ok_of_trod 9 67 [.int .u64] n cs x (by kernel_rfl) hx
    obtain ⟨e0x0, e0r0, he, e0k0, ho⟩ := OkAll.cons ho
    obtain rfl := OkAll.nil ho
    obtain ⟨e0n0, rfl, e0w0⟩ := e0k0
    exact ⟨e0n0, he, e0w0⟩
  refine Calls.mono (reads18_run W a0 l0 c0 hin0) fun e W' ⟨v, he, hv, hm⟩ => ?_
  subst he
  subst hv
  exact ⟨_, rfl, post_true laid (by kernel_rfl) hW' rfl (by kernel_rfl) Try.underlying4 rfl hm⟩

theorem over : Rows.fdsReadsRow.holds Try.pinned (OpenSpec.ofChange Rows.fdsReadsSpec) :=
  OpenClaim.holds_of_wide 3 Try.f3 rfl rfl rfl rfl rfl rfl rfl ⟨rfl, rfl, rfl, rfl, rfl⟩ rfl rfl rfl rfl rfl (by kernel_rfl) Try.func3 (by kernel_rfl)
    (of_decide_eq_true (by kernel_rfl)) (by unfold Func.isWrapper; first | (rw [if_pos (by decide +kernel)]; kernel_rfl) | (rw [if_neg (by decide +kernel)]; exact ⟨rfl, rfl⟩))
    (fun os started H enc _ => lifted os started H enc)

/-- The given statement. -/
theorem proved : Rows.FdsReadsSaid :=
  over
#print axioms proved
end Go.Proofs.Ytmpaiobapmpngaa.fdsReads
