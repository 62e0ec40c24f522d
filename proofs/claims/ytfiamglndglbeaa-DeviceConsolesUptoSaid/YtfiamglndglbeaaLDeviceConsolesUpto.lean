/-
  Proved: januslaw04.DeviceConsoles, as the given rows' second form states it: where what it reads is of bulk at most 1048576, it returns true, and the input reads behind the call as it read before. Conditions: that bound.
-/
import Derived.Test.YtfiamglndglbeaaRows
import Derived.Test.YtfiamglndglbeaaC04c
import Derived.WalkKit
import Derived.ProofKit
import Derived.OpenShut
import Derived.JoinedCond
import Derived.Deep.Slices
set_option linter.unusedVariables false
namespace Go.Proofs.Ytfiamglndglbeaa.deviceConsolesUpto
open Go.ChangeShapes Go.WideShapes Go.ChangeAt Go.RowKit Go.Den

theorem own : ownKnob Try.prog.godebug = none := by kernel_rfl
theorem laid : laidOutB Try.prog = true := by kernel_rfl
theorem cells29 : Try.prog.cellsOf 29 = 3 := by kernel_rfl

theorem cells9 : Try.prog.cellsOf 9 = 1 := by kernel_rfl
theorem part_le {H : Type} {d : DataW H} {l : List (DataW H)} (h : d ∈ l) : Rows.uptoBulk d ≤ Rows.uptoBulkAll l := by
  induction l with
  | nil => cases h
  | cons x r ih =>
    simp only [Rows.uptoBulkAll]
    rcases List.mem_cons.1 h with e | e
    · subst e; omega
    · have := ih e; omega

/-- An element of bounded bulk: its text is short. -/
theorem short {H : Type} {enc : TypeId × Value → H} {W : World} {n : Nat} {cs : List Value} {x : DataW H × List MemPlace} (hx : DataW.trod enc Try.prog W 0 (fun _ => true) true n 29 cs = some x) (hb : Rows.uptoBulk x.1 ≤ 1048576) : Q4small cs := by
  have ho := ok_of_trod 9 29 [.bool, .int .i64, .str] n cs x (by kernel_rfl) hx
  obtain ⟨x0, r0, rfl, k0, ho⟩ := OkAll.cons ho
  obtain ⟨x1, r1, rfl, k1, ho⟩ := OkAll.cons ho
  obtain ⟨x2, r2, rfl, k2, ho⟩ := OkAll.cons ho
  obtain rfl := OkAll.nil ho
  obtain ⟨b, rfl⟩ := k0
  obtain ⟨i, rfl, -⟩ := k1
  obtain ⟨s, rfl, -⟩ := k2
  refine ⟨b, i, s, rfl, ?_⟩
  obtain ⟨xs, m, -, rfl, -, hxl, hfs⟩ := DataW.trod_struct Try.underlying29 hx
  have h2 := hfs 2 _ rfl
  have hlt : 2 < xs.length := by rw [hxl]; decide
  rw [List.getElem?_eq_getElem hlt] at h2
  obtain ⟨s', hs', hx2, -⟩ := DataW.trod_string Try.underlying9 h2
  have e : s = s' := by simpa [cells9] using hs'
  subst e
  have hm : DataW.lit (.string s.data.toList) ∈ xs.map (·.1) := by
    refine List.mem_map.2 ⟨xs[2], List.getElem_mem hlt, ?_⟩
    rw [hx2]
  have := part_le hm
  simp only [Rows.uptoBulk] at hb this
  have e : s.data.toList.length = s.size := by rw [Array.length_toList]; rfl
  omega

set_option maxRecDepth 100000 in
theorem lifted (os : Os) (started : os.Started) (H : Type) (enc : TypeId × Value → H) (F : Stop.Interp) :
    ReturnsInHanded {} Try.checked os 3 .any ((Rows.OpenSpec.upto Rows.deviceConsolesSpec).pre6 enc Try.prog Try.f3 Rows.deviceConsolesUptoRow.domain false) (((Rows.OpenSpec.upto Rows.deviceConsolesSpec).at F).post enc Try.prog Try.f3 false true false false) := by
  refine returnsInHanded_of_cond (C := Try.checked) (s := Rows.OpenSpec.upto Rows.deviceConsolesSpec) (k := Rows.uptoSmall) rfl own started (by kernel_rfl) Try.func3
    (OpenSpec.witness (enc := enc) (C := Try.checked) (s := Rows.OpenSpec.upto Rows.deviceConsolesSpec) (k := Rows.uptoSmall) rfl false ⟨#[], #[.string ByteArray.empty, .slice none 0 0], []⟩ 8 (by kernel_rfl) (by kernel_rfl) (by kernel_rfl)
      (x := ([.lit (.string []), .nil], [], [])) (by kernel_rfl) rfl (by kernel_rfl)) ?_
  intro W base args ds gs before hval0 hW _ hk _
  have hval : ∀ (j : Nat) t v, Try.f3.params[j]? = some t → args[j]? = some v → Value.okWide Try.prog W .any base t v := hval0
  have hW' := hW
  obtain ⟨p, q, hA0, hV, rfl, hfz, hnd⟩ := hW
  have hA : DataW.TrodAll enc Try.prog W 0 (fun _ => true) true Try.f3.params.toList args.toList ds p := hA0
  rw [Try.params3] at hA hval
  obtain ⟨rfl, rfl⟩ := trodVars_none hV
  obtain ⟨v0, vs0, d0, ds0, p0, q0, hargs, rfl, rfl, h0, r0⟩ := trodAll_cons hA
  obtain ⟨v1, vs1, d1, ds1, p1, q1, rfl, rfl, rfl, h1, r1⟩ := trodAll_cons r0
  obtain ⟨rfl, rfl, rfl⟩ := trodAll_nil r1
  obtain rfl : args = #[v0, v1] := by cases args; simp_all
  obtain ⟨a0, rfl⟩ := okWide_string Try.underlying9 (hval 0 9 v0 rfl rfl)
  obtain ⟨m0, hf0⟩ := h0
  have ho := ok_of_trod 9 9 [.str] m0 _ _ (by kernel_rfl) hf0
  obtain ⟨b0, r0, he, hk0, ho⟩ := OkAll.cons ho
  obtain rfl := OkAll.nil ho
  obtain ⟨a0', rfl, w0⟩ := hk0
  cases he
  obtain ⟨a1, l1, c1, rfl⟩ := okWide_slice Try.underlying22 (hval 1 22 v1 rfl rfl)
  obtain ⟨m1, hf1⟩ := h1
  have hbulk : Rows.uptoBulk d1 ≤ 1048576 := by
    have h := of_decide_eq_true hk
    simp only [List.append_nil, List.cons_append, List.nil_append, Rows.uptoBulkAll] at h
    omega
  have hin1 : SlIn W 3 Q4small a1 l1 c1 := by
    rcases Deep.open_slice Try.underlying22 hf1 with ⟨he, -⟩ | ⟨ad, len, cap, m, n, D, Pl, he, -, hlc, hcm, hm, hx, hel⟩
    · cases he
      exact .inl ⟨rfl, rfl, rfl⟩
    · cases he
      have hd : d1 = _ := congrArg Prod.fst hx
      simp only [hd, Rows.uptoBulk] at hbulk
      refine SlCells.toIn (P := Try.prog) (ok := fun cs => ∃ n x, DataW.trod enc Try.prog W 0 (fun _ => true) true n 29 cs = some x ∧ Rows.uptoBulk x.1 ≤ 1048576) (by decide) (fun cs ⟨n, x, hx, hb⟩ => short hx hb) (.inr ⟨ad, rfl, hlc, hcm, fun i hi => ?_⟩)
      obtain ⟨cs, h1, h2⟩ := hel i (by rw [hm]; simpa using hi)
      rw [cells29] at h1
      refine ⟨cs, h1, n, _, h2, ?_⟩
      by_cases hil : i < l1
      · have := part_le (d := D i) (List.mem_map.2 ⟨i, List.mem_range.2 hil, rfl⟩)
        show Rows.uptoBulk (D i) ≤ _
        omega
      · have := part_le (d := D i) (List.mem_map.2 ⟨i - l1, List.mem_range.2 (show i - l1 < m - l1 by rw [hm]; simp; omega), by rw [show l1 + (i - l1) = i by omega]⟩ : D i ∈ (List.range (m - l1)).map fun j => D (l1 + j))
        show Rows.uptoBulk (D i) ≤ _
        omega
  refine Calls.mono (consoles_run W a0 w0 a1 l1 c1 hin1) fun e W' ⟨v, he, hv, hm⟩ => ?_
  subst he
  subst hv
  exact ⟨_, rfl, post_true laid (by kernel_rfl) hW' rfl (by kernel_rfl) Try.underlying4 rfl hm⟩

theorem over : Rows.deviceConsolesUptoRow.holds Try.pinned (Rows.OpenSpec.upto Rows.deviceConsolesSpec) :=
  OpenClaim.holds_of_cond 3 Try.f3 rfl rfl rfl rfl rfl rfl rfl ⟨rfl, rfl, rfl, rfl, rfl⟩ rfl rfl rfl rfl rfl (by kernel_rfl) Try.func3 (by kernel_rfl)
    (of_decide_eq_true (by kernel_rfl)) (by unfold Func.isWrapper; first | (rw [if_pos (by decide +kernel)]; kernel_rfl) | (rw [if_neg (by decide +kernel)]; exact ⟨rfl, rfl⟩))
    (fun os started H enc _ F => lifted os started H enc F)

/-- The given statement. -/
theorem proved : Rows.DeviceConsolesUptoSaid :=
  over
#print axioms proved
end Go.Proofs.Ytfiamglndglbeaa.deviceConsolesUpto
