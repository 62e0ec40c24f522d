/-
  Proved: januslaw12.ExodiskPlays, as the given rows state it: whatever the input, it returns true, and the input reads behind the call as it read before. Conditions: none.
-/
import Derived.Test.YtjfgaiffdcnclaaGreatRows
import Derived.Test.YtjfgaiffdcnclaaGreatC12G
import Derived.Test.YtjfgaiffdcnclaaGreatDenB
import Derived.WalkKit
import Derived.ProofKit
import Derived.OpenShut
set_option linter.unusedVariables false
namespace Go.Proofs.YtjfgaiffdcnclaaGreat.exodiskPlays
open Go.ChangeShapes Go.WideShapes Go.ChangeAt Go.RowKit Go.Den

theorem own : ownKnob Tryz.prog.godebug = none := by kernel_rfl
theorem laid : laidOutB Tryz.prog = true := by kernel_rfl
theorem cells31 : Tryz.prog.cellsOf 31 = 7 := by kernel_rfl

set_option maxRecDepth 100000 in
theorem lifted (os : Os) (started : os.Started) (H : Type) (enc : TypeId × Value → H) :
    ReturnsInHanded {} Tryz.checked os 3 .any (Rows.exodiskPlaysSpec.pre6 enc Tryz.prog Tryz.f3 Rows.exodiskPlaysRow.domain false) (Rows.exodiskPlaysSpec.post enc Tryz.prog Tryz.f3 false true false false) := by
  refine returnsInHanded_of_change (C := Tryz.checked) own started (by kernel_rfl) Tryz.func3
    (ChangeSpec.witness6 (enc := enc) (C := Tryz.checked) false ⟨#[], #[.int .i64 0, .slice none 0 0], []⟩ 8 (by kernel_rfl) (by kernel_rfl) (by kernel_rfl) (by kernel_rfl)) ?_
  intro W base args ds gs before hval0 hW hcnd _
  have hval : ∀ (j : Nat) t v, Tryz.f3.params[j]? = some t → args[j]? = some v → Value.okWide Tryz.prog W .any base t v := hval0
  have hW' := hW
  obtain ⟨p, q, hA0, hV, rfl, hfz, hnd⟩ := hW
  have hA : DataW.TrodAll enc Tryz.prog W 0 (fun _ => true) true Tryz.f3.params.toList args.toList ds p := hA0
  rw [Tryz.params3] at hA hval
  obtain ⟨rfl, rfl⟩ := trodVars_none hV
  obtain ⟨v0, vs0, d0, ds0, p0, q0, hargs, rfl, rfl, h0, r0⟩ := trodAll_cons hA
  obtain ⟨v1, vs1, d1, ds1, p1, q1, rfl, rfl, rfl, h1, r1⟩ := trodAll_cons r0
  obtain ⟨rfl, rfl, rfl⟩ := trodAll_nil r1
  obtain rfl : args = #[v0, v1] := by cases args; simp_all
  obtain ⟨a0, rfl, rfl, rfl, w0⟩ := open_int Tryz.underlying3 (hval 0 3 v0 rfl rfl) h0
  obtain ⟨a1, l1, c1, rfl⟩ := okWide_slice Tryz.underlying22 (hval 1 22 v1 rfl rfl)
  obtain ⟨m1, hf1⟩ := h1
  have ho := ok_of_trod 9 22 [.sl 31] m1 _ _ (by kernel_rfl) hf1
  obtain ⟨b1, r1, he, hk1, ho⟩ := OkAll.cons ho
  obtain rfl := OkAll.nil ho
  obtain ⟨a1', l1', c1', rfl, hs1⟩ := hk1
  cases he
  rw [cells31] at hs1
  have hin1 : SlIn W 7 Q_januslaw12_Deed a1 l1 c1 := hs1.toIn (by decide) fun cs ⟨n, x, hx⟩ => by
    have ho := ok_of_trod 9 31 [.int .i64, .int .i64, .int .i64, .int .i64, .int .i64, .int .i64, .int .u64] n cs x (by kernel_rfl) hx
    obtain ⟨e1x0, e1r0, he, e1k0, ho⟩ := OkAll.cons ho
    obtain ⟨e1x1, e1r1, rfl, e1k1, ho⟩ := OkAll.cons ho
    obtain ⟨e1x2, e1r2, rfl, e1k2, ho⟩ := OkAll.cons ho
    obtain ⟨e1x3, e1r3, rfl, e1k3, ho⟩ := OkAll.cons ho
    obtain ⟨e1x4, e1r4, rfl, e1k4, ho⟩ := OkAll.cons ho
    obtain ⟨e1x5, e1r5, rfl, e1k5, ho⟩ := OkAll.cons ho
    obtain ⟨e1x6, e1r6, rfl, e1k6, ho⟩ := OkAll.cons ho
    obtain rfl := OkAll.nil ho
    obtain ⟨e1n0, rfl, e1w0⟩ := e1k0
    obtain ⟨e1n1, rfl, e1w1⟩ := e1k1
    obtain ⟨e1n2, rfl, e1w2⟩ := e1k2
    obtain ⟨e1n3, rfl, e1w3⟩ := e1k3
    obtain ⟨e1n4, rfl, e1w4⟩ := e1k4
    obtain ⟨e1n5, rfl, e1w5⟩ := e1k5
    obtain ⟨e1n6, rfl, e1w6⟩ := e1k6
    exact ⟨e1n0, e1n1, e1n2, e1n3, e1n4, e1n5, e1n6, he, e1w0, e1w1, e1w2, e1w3, e1w4, e1w5, e1w6⟩
  refine Calls.mono (plays12_run W a0 w0 a1 l1 c1 hin1) fun e W' ⟨v, he, hv, hm⟩ => ?_
  subst he
  subst hv
  exact ⟨_, rfl, post_true laid (by kernel_rfl) hW' rfl (by kernel_rfl) Tryz.underlying4 rfl hm⟩

theorem over : Rows.exodiskPlaysRow.holds Tryz.pinned (OpenSpec.ofChange Rows.exodiskPlaysSpec) :=
  OpenClaim.holds_of_wide 3 Tryz.f3 rfl rfl rfl rfl rfl rfl rfl ⟨rfl, rfl, rfl, rfl, rfl⟩ rfl rfl rfl rfl rfl (by kernel_rfl) Tryz.func3 (by kernel_rfl)
    (of_decide_eq_true (by kernel_rfl)) (by unfold Func.isWrapper; first | (rw [if_pos (by decide +kernel)]; kernel_rfl) | (rw [if_neg (by decide +kernel)]; exact ⟨rfl, rfl⟩))
    (fun os started H enc _ => lifted os started H enc)

/-- The given statement. -/
theorem proved : Rows.ExodiskPlaysSaid :=
  over
#print axioms proved
end Go.Proofs.YtjfgaiffdcnclaaGreat.exodiskPlays
