/-
  Proved: januslaw13.ExoWrites, as the given rows state it: whatever the input, it returns true, and the input reads behind the call as it read before. Conditions: none.
-/
import Derived.Test.YthpcakhhemdibaaGreatRows
import Derived.Test.YthpcakhhemdibaaGreatC13J
import Derived.Test.YthpcakhhemdibaaGreatDenB
import Derived.WalkKit
import Derived.ProofKit
import Derived.OpenShut
set_option linter.unusedVariables false
namespace Go.Proofs.YthpcakhhemdibaaGreat.exoWrites
open Go.ChangeShapes Go.WideShapes Go.ChangeAt Go.RowKit Go.Den

theorem own : ownKnob Tryz.prog.godebug = none := by kernel_rfl
theorem laid : laidOutB Tryz.prog = true := by kernel_rfl
theorem cells32 : Tryz.prog.cellsOf 32 = 2 := by kernel_rfl
theorem cells42 : Tryz.prog.cellsOf 42 = 1 := by kernel_rfl

set_option maxRecDepth 100000 in
theorem lifted (os : Os) (started : os.Started) (H : Type) (enc : TypeId × Value → H) :
    ReturnsInHanded {} Tryz.checked os 6 .any (Rows.exoWritesSpec.pre6 enc Tryz.prog Tryz.f6 Rows.exoWritesRow.domain false) (Rows.exoWritesSpec.post enc Tryz.prog Tryz.f6 false true false false) := by
  refine returnsInHanded_of_change (C := Tryz.checked) own started (by kernel_rfl) Tryz.func6
    (ChangeSpec.witness6 (enc := enc) (C := Tryz.checked) false ⟨#[], #[.slice none 0 0, .agg #[.int .i64 0, .slice none 0 0]], []⟩ 8 (by kernel_rfl) (by kernel_rfl) (by kernel_rfl) (by kernel_rfl)) ?_
  intro W base args ds gs before hval0 hW hcnd _
  have hval : ∀ (j : Nat) t v, Tryz.f6.params[j]? = some t → args[j]? = some v → Value.okWide Tryz.prog W .any base t v := hval0
  have hW' := hW
  obtain ⟨p, q, hA0, hV, rfl, hfz, hnd⟩ := hW
  have hA : DataW.TrodAll enc Tryz.prog W 0 (fun _ => true) true Tryz.f6.params.toList args.toList ds p := hA0
  rw [Tryz.params6] at hA hval
  obtain ⟨rfl, rfl⟩ := trodVars_none hV
  obtain ⟨v0, vs0, d0, ds0, p0, q0, hargs, rfl, rfl, h0, r0⟩ := trodAll_cons hA
  obtain ⟨v1, vs1, d1, ds1, p1, q1, rfl, rfl, rfl, h1, r1⟩ := trodAll_cons r0
  obtain ⟨rfl, rfl, rfl⟩ := trodAll_nil r1
  obtain rfl : args = #[v0, v1] := by cases args; simp_all
  obtain ⟨a0, l0, c0, rfl⟩ := okWide_slice Tryz.underlying22 (hval 0 22 v0 rfl rfl)
  obtain ⟨m0, hf0⟩ := h0
  have ho := ok_of_trod 9 22 [.sl 32] m0 _ _ (by kernel_rfl) hf0
  obtain ⟨b0, r0, he, hk0, ho⟩ := OkAll.cons ho
  obtain rfl := OkAll.nil ho
  obtain ⟨a0', l0', c0', rfl, hs0⟩ := hk0
  cases he
  rw [cells32] at hs0
  have hin0 : SlIn W 2 (Q_januslaw13_Ask W) a0 l0 c0 := hs0.toIn (by decide) fun cs ⟨n, x, hx⟩ => by
    have ho := ok_of_trod 9 32 [.int .i64, .sl 42] n cs x (by kernel_rfl) hx
    obtain ⟨e0x0, e0r0, he, e0k0, ho⟩ := OkAll.cons ho
    obtain ⟨e0x1, e0r1, rfl, e0k1, ho⟩ := OkAll.cons ho
    obtain rfl := OkAll.nil ho
    obtain ⟨e0n0, rfl, e0w0⟩ := e0k0
    obtain ⟨e0n1a, e0n1l, e0n1c, rfl, e0w1⟩ := e0k1
    rw [cells42] at e0w1
    have e0v1 : SlIn W 1 Q_u64 e0n1a e0n1l e0n1c := e0w1.toIn (by decide) fun cs ⟨n, x, hx⟩ => by
      have ho := ok_of_trod 9 42 [.int .u64] n cs x (by kernel_rfl) hx
      obtain ⟨e0z1x0, e0z1r0, he, e0z1k0, ho⟩ := OkAll.cons ho
      obtain rfl := OkAll.nil ho
      obtain ⟨e0z1n0, rfl, e0z1w0⟩ := e0z1k0
      exact ⟨e0z1n0, he, e0z1w0⟩
    exact ⟨e0n0, e0n1a, e0n1l, e0n1c, he, e0w0, e0v1⟩
  obtain ⟨cs1, rfl, -⟩ := okWide_struct Tryz.underlying32 (hval 1 32 v1 rfl rfl)
  obtain ⟨m1, hf1⟩ := h1
  have ho := ok_of_trod 9 32 [.int .i64, .sl 42] m1 _ _ (by kernel_rfl) hf1
  obtain ⟨s1x0, s1r0, he, s1k0, ho⟩ := OkAll.cons ho
  obtain ⟨s1x1, s1r1, rfl, s1k1, ho⟩ := OkAll.cons ho
  obtain rfl := OkAll.nil ho
  obtain ⟨s1n0, rfl, s1w0⟩ := s1k0
  obtain ⟨s1n1a, s1n1l, s1n1c, rfl, s1w1⟩ := s1k1
  rw [cells42] at s1w1
  have s1v1 : SlIn W 1 Q_u64 s1n1a s1n1l s1n1c := s1w1.toIn (by decide) fun cs ⟨n, x, hx⟩ => by
    have ho := ok_of_trod 9 42 [.int .u64] n cs x (by kernel_rfl) hx
    obtain ⟨s1z1x0, s1z1r0, he, s1z1k0, ho⟩ := OkAll.cons ho
    obtain rfl := OkAll.nil ho
    obtain ⟨s1z1n0, rfl, s1z1w0⟩ := s1z1k0
    exact ⟨s1z1n0, he, s1z1w0⟩
  obtain rfl : cs1 = #[.int .i64 s1n0, .slice s1n1a s1n1l s1n1c] := Array.ext' he
  clear he
  refine Calls.mono (writes13_run W a0 l0 c0 hin0 s1n0 s1n1a s1n1l s1n1c s1w0 s1v1) fun e W' ⟨v, he, hv, hm⟩ => ?_
  subst he
  subst hv
  exact ⟨_, rfl, post_true laid (by kernel_rfl) hW' rfl (by kernel_rfl) Tryz.underlying4 rfl hm⟩

theorem over : Rows.exoWritesRow.holds Tryz.pinned (OpenSpec.ofChange Rows.exoWritesSpec) :=
  OpenClaim.holds_of_wide 6 Tryz.f6 rfl rfl rfl rfl rfl rfl rfl ⟨rfl, rfl, rfl, rfl, rfl⟩ rfl rfl rfl rfl rfl (by kernel_rfl) Tryz.func6 (by kernel_rfl)
    (of_decide_eq_true (by kernel_rfl)) (by unfold Func.isWrapper; first | (rw [if_pos (by decide +kernel)]; kernel_rfl) | (rw [if_neg (by decide +kernel)]; exact ⟨rfl, rfl⟩))
    (fun os started H enc _ => lifted os started H enc)

/-- The given statement. -/
theorem proved : Rows.ExoWritesSaid :=
  over
#print axioms proved
end Go.Proofs.YthpcakhhemdibaaGreat.exoWrites
