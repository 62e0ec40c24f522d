/-
  Proved: januslaw13.ExoNone, as the given rows state it: whatever the input, it returns true, and the input reads behind the call as it read before. Conditions: none.
-/
import Derived.Test.YthpcakhhemdibaaGreatRows
import Derived.Test.YthpcakhhemdibaaGreatC13A
import Derived.Test.YthpcakhhemdibaaGreatDenB
import Derived.WalkKit
import Derived.ProofKit
import Derived.OpenShut
set_option linter.unusedVariables false
namespace Go.Proofs.YthpcakhhemdibaaGreat.exoNone
open Go.ChangeShapes Go.WideShapes Go.ChangeAt Go.RowKit Go.Den

theorem own : ownKnob Tryz.prog.godebug = none := by kernel_rfl
theorem laid : laidOutB Tryz.prog = true := by kernel_rfl
theorem cells42 : Tryz.prog.cellsOf 42 = 1 := by kernel_rfl

set_option maxRecDepth 100000 in
theorem lifted (os : Os) (started : os.Started) (H : Type) (enc : TypeId × Value → H) :
    ReturnsInHanded {} Tryz.checked os 7 .any (Rows.exoNoneSpec.pre6 enc Tryz.prog Tryz.f7 Rows.exoNoneRow.domain false) (Rows.exoNoneSpec.post enc Tryz.prog Tryz.f7 false true false false) := by
  refine returnsInHanded_of_change (C := Tryz.checked) own started (by kernel_rfl) Tryz.func7
    (ChangeSpec.witness6 (enc := enc) (C := Tryz.checked) false ⟨#[], #[.agg #[.int .i64 0, .slice none 0 0]], []⟩ 8 (by kernel_rfl) (by kernel_rfl) (by kernel_rfl) (by kernel_rfl)) ?_
  intro W base args ds gs before hval0 hW hcnd _
  have hval : ∀ (j : Nat) t v, Tryz.f7.params[j]? = some t → args[j]? = some v → Value.okWide Tryz.prog W .any base t v := hval0
  have hW' := hW
  obtain ⟨p, q, hA0, hV, rfl, hfz, hnd⟩ := hW
  have hA : DataW.TrodAll enc Tryz.prog W 0 (fun _ => true) true Tryz.f7.params.toList args.toList ds p := hA0
  rw [Tryz.params7] at hA hval
  obtain ⟨rfl, rfl⟩ := trodVars_none hV
  obtain ⟨v0, vs0, d0, ds0, p0, q0, hargs, rfl, rfl, h0, r0⟩ := trodAll_cons hA
  obtain ⟨rfl, rfl, rfl⟩ := trodAll_nil r0
  obtain rfl : args = #[v0] := by cases args; simp_all
  obtain ⟨cs0, rfl, -⟩ := okWide_struct Tryz.underlying32 (hval 0 32 v0 rfl rfl)
  obtain ⟨m0, hf0⟩ := h0
  have ho := ok_of_trod 9 32 [.int .i64, .sl 42] m0 _ _ (by kernel_rfl) hf0
  obtain ⟨s0x0, s0r0, he, s0k0, ho⟩ := OkAll.cons ho
  obtain ⟨s0x1, s0r1, rfl, s0k1, ho⟩ := OkAll.cons ho
  obtain rfl := OkAll.nil ho
  obtain ⟨s0n0, rfl, s0w0⟩ := s0k0
  obtain ⟨s0n1a, s0n1l, s0n1c, rfl, s0w1⟩ := s0k1
  rw [cells42] at s0w1
  have s0v1 : SlIn W 1 Q_u64 s0n1a s0n1l s0n1c := s0w1.toIn (by decide) fun cs ⟨n, x, hx⟩ => by
    have ho := ok_of_trod 9 42 [.int .u64] n cs x (by kernel_rfl) hx
    obtain ⟨s0z1x0, s0z1r0, he, s0z1k0, ho⟩ := OkAll.cons ho
    obtain rfl := OkAll.nil ho
    obtain ⟨s0z1n0, rfl, s0z1w0⟩ := s0z1k0
    exact ⟨s0z1n0, he, s0z1w0⟩
  obtain rfl : cs0 = #[.int .i64 s0n0, .slice s0n1a s0n1l s0n1c] := Array.ext' he
  clear he
  refine Calls.mono (none13_run W s0n0 s0n1a s0n1l s0n1c s0w0 s0v1) fun e W' ⟨v, he, hv, hm⟩ => ?_
  subst he
  subst hv
  exact ⟨_, rfl, post_true laid (by kernel_rfl) hW' rfl (by kernel_rfl) Tryz.underlying4 rfl hm⟩

theorem over : Rows.exoNoneRow.holds Tryz.pinned (OpenSpec.ofChange Rows.exoNoneSpec) :=
  OpenClaim.holds_of_wide 7 Tryz.f7 rfl rfl rfl rfl rfl rfl rfl ⟨rfl, rfl, rfl, rfl, rfl⟩ rfl rfl rfl rfl rfl (by kernel_rfl) Tryz.func7 (by kernel_rfl)
    (of_decide_eq_true (by kernel_rfl)) (by unfold Func.isWrapper; first | (rw [if_pos (by decide +kernel)]; kernel_rfl) | (rw [if_neg (by decide +kernel)]; exact ⟨rfl, rfl⟩))
    (fun os started H enc _ => lifted os started H enc)

/-- The given statement. -/
theorem proved : Rows.ExoNoneSaid :=
  over
#print axioms proved
end Go.Proofs.YthpcakhhemdibaaGreat.exoNone
