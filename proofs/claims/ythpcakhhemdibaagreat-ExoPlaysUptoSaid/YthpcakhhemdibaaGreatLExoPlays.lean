/-
  Proved: januslaw13.ExoPlays, as the given rows' second form states it: where what it reads is of bulk at most 1048576, it returns true, and the input reads behind the call as it read before. Conditions: that bound.
-/
import Derived.Test.YthpcakhhemdibaaGreatRows
import Derived.Test.YthpcakhhemdibaaGreatC13K
import Derived.Test.YthpcakhhemdibaaGreatDenB
import Derived.WalkKit
import Derived.ProofKit
import Derived.OpenShut
import Derived.JoinedCond
import Derived.Deep.Slices
set_option linter.unusedVariables false
namespace Go.Proofs.YthpcakhhemdibaaGreat.exoPlaysUpto
open Go.ChangeShapes Go.WideShapes Go.ChangeAt Go.RowKit Go.Den

theorem own : ownKnob Tryz.prog.godebug = none := by kernel_rfl
theorem laid : laidOutB Tryz.prog = true := by kernel_rfl
theorem cells32 : Tryz.prog.cellsOf 32 = 2 := by kernel_rfl
theorem cells42 : Tryz.prog.cellsOf 42 = 1 := by kernel_rfl
theorem cells27 : Tryz.prog.cellsOf 27 = 1 := by kernel_rfl
theorem part_le {H : Type} {d : DataW H} {l : List (DataW H)} (h : d ∈ l) : Rows.uptoBulk d ≤ Rows.uptoBulkAll l := by
  induction l with
  | nil => cases h
  | cons x r ih =>
    simp only [Rows.uptoBulkAll]
    rcases List.mem_cons.1 h with e | e
    · subst e; omega
    · have := ih e; omega
theorem one_le {H : Type} : ∀ d : DataW H, 1 ≤ Rows.uptoBulk d
  | .lit l => by cases l <;> simp [Rows.uptoBulk]
  | .nil => by simp [Rows.uptoBulk]
  | .ptr d => by simp [Rows.uptoBulk]
  | .slice elems spare => by simp [Rows.uptoBulk]
  | .agg parts => by simp [Rows.uptoBulk]
  | .iface _ d => by simp [Rows.uptoBulk]
  | .map entries => by simp [Rows.uptoBulk]
  | .held _ => by simp [Rows.uptoBulk]
theorem len_le {H : Type} : ∀ l : List (DataW H), l.length ≤ Rows.uptoBulkAll l
  | [] => by simp [Rows.uptoBulkAll]
  | d :: r => by
    have h1 := one_le d
    have h2 := len_le r
    simp only [Rows.uptoBulkAll, List.length_cons]
    omega

/-- An element of bounded bulk: its row is short. -/
theorem short {H : Type} {enc : TypeId × Value → H} {W : World} {n : Nat} {cs : List Value} {x : DataW H × List MemPlace} (hx : DataW.trod enc Tryz.prog W 0 (fun _ => true) true n 32 cs = some x) (hb : Rows.uptoBulk x.1 ≤ 1048576) : Q13s W cs := by
  have ho := ok_of_trod 9 32 [.int .i64, .sl 42] n cs x (by kernel_rfl) hx
  obtain ⟨x0, r0, rfl, k0, ho⟩ := OkAll.cons ho
  obtain ⟨x1, r1, rfl, k1, ho⟩ := OkAll.cons ho
  obtain rfl := OkAll.nil ho
  obtain ⟨b0, rfl, w0⟩ := k0
  obtain ⟨a1, l1, c1, rfl, w1⟩ := k1
  rw [cells42] at w1
  have hin : SlIn W 1 Q_u64 a1 l1 c1 := w1.toIn (by decide) fun cs ⟨n, x, hx⟩ => by
    have ho := ok_of_trod 9 42 [.int .u64] n cs x (by kernel_rfl) hx
    obtain ⟨y0, s0, he, q0, ho⟩ := OkAll.cons ho
    obtain rfl := OkAll.nil ho
    obtain ⟨m0, rfl, u0⟩ := q0
    exact ⟨m0, he, u0⟩
  refine ⟨b0, a1, l1, c1, rfl, hin, ?_⟩
  obtain ⟨xs, m, -, rfl, -, hxl, hfs⟩ := DataW.trod_struct Tryz.underlying32 hx
  have h2 := hfs 1 _ rfl
  have hlt : 1 < xs.length := by rw [hxl]; decide
  rw [List.getElem?_eq_getElem hlt] at h2
  have hmem : xs[1].1 ∈ xs.map (·.1) := List.mem_map.2 ⟨_, List.getElem_mem hlt, rfl⟩
  have hpl := part_le hmem
  simp only [Rows.uptoBulk] at hb
  rcases Deep.open_slice Tryz.underlying27 h2 with ⟨he, -⟩ | ⟨ad, len, cap, m2, n2, D, Pl, he, -, hlc, hcm, hm2, hx2, hel⟩
  · have he2 : Value.slice a1 l1 c1 = .slice none 0 0 := by simpa [cells27] using he
    cases he2
    omega
  · have he2 : Value.slice a1 l1 c1 = .slice (some ad) len cap := by simpa [cells27] using he
    cases he2
    rw [hx2] at hpl
    simp only [Rows.uptoBulk] at hpl
    have hll := len_le ((List.range l1).map D)
    rw [List.length_map, List.length_range] at hll
    omega

set_option maxRecDepth 100000 in
theorem lifted (os : Os) (started : os.Started) (H : Type) (enc : TypeId × Value → H) (F : Stop.Interp) :
    ReturnsInHanded {} Tryz.checked os 3 .any ((Rows.OpenSpec.upto Rows.exoPlaysSpec).pre6 enc Tryz.prog Tryz.f3 Rows.exoPlaysUptoRow.domain false) (((Rows.OpenSpec.upto Rows.exoPlaysSpec).at F).post enc Tryz.prog Tryz.f3 false true false false) := by
  refine returnsInHanded_of_cond (C := Tryz.checked) (s := Rows.OpenSpec.upto Rows.exoPlaysSpec) (k := Rows.uptoSmall) rfl own started (by kernel_rfl) Tryz.func3
    (OpenSpec.witness (enc := enc) (C := Tryz.checked) (s := Rows.OpenSpec.upto Rows.exoPlaysSpec) (k := Rows.uptoSmall) rfl false ⟨#[], #[.slice none 0 0], []⟩ 8 (by kernel_rfl) (by kernel_rfl) (by kernel_rfl)
      (x := ([.nil], [], [])) (by kernel_rfl) rfl (by kernel_rfl)) ?_
  intro W base args ds gs before hval0 hW _ hk _
  have hval : ∀ (j : Nat) t v, Tryz.f3.params[j]? = some t → args[j]? = some v → Value.okWide Tryz.prog W .any base t v := hval0
  have hW' := hW
  obtain ⟨p, q, hA0, hV, rfl, hfz, hnd⟩ := hW
  have hA : DataW.TrodAll enc Tryz.prog W 0 (fun _ => true) true Tryz.f3.params.toList args.toList ds p := hA0
  rw [Tryz.params3] at hA hval
  obtain ⟨rfl, rfl⟩ := trodVars_none hV
  obtain ⟨v0, vs0, d0, ds0, p0, q0, hargs, rfl, rfl, h0, r0⟩ := trodAll_cons hA
  obtain ⟨rfl, rfl, rfl⟩ := trodAll_nil r0
  obtain rfl : args = #[v0] := by cases args; simp_all
  obtain ⟨a1, l1, c1, rfl⟩ := okWide_slice Tryz.underlying22 (hval 0 22 v0 rfl rfl)
  obtain ⟨m1, hf1⟩ := h0
  have hbulk : Rows.uptoBulk d0 ≤ 1048576 := by
    have h := of_decide_eq_true hk
    simp only [List.append_nil, List.cons_append, List.nil_append, Rows.uptoBulkAll] at h
    omega
  have hin1 : SlIn W 2 (Q13s W) a1 l1 c1 := by
    rcases Deep.open_slice Tryz.underlying22 hf1 with ⟨he, -⟩ | ⟨ad, len, cap, m, n, D, Pl, he, -, hlc, hcm, hm, hx, hel⟩
    · cases he
      exact .inl ⟨rfl, rfl, rfl⟩
    · cases he
      have hd : d0 = _ := congrArg Prod.fst hx
      simp only [hd, Rows.uptoBulk] at hbulk
      refine SlCells.toIn (P := Tryz.prog) (ok := fun cs => ∃ n x, DataW.trod enc Tryz.prog W 0 (fun _ => true) true n 32 cs = some x ∧ Rows.uptoBulk x.1 ≤ 1048576) (by decide) (fun cs ⟨n, x, hx, hb⟩ => short hx hb) (.inr ⟨ad, rfl, hlc, hcm, fun i hi => ?_⟩)
      obtain ⟨cs, h1, h2⟩ := hel i (by rw [hm]; simpa using hi)
      rw [cells32] at h1
      refine ⟨cs, h1, n, _, h2, ?_⟩
      by_cases hil : i < l1
      · have := part_le (d := D i) (List.mem_map.2 ⟨i, List.mem_range.2 hil, rfl⟩)
        show Rows.uptoBulk (D i) ≤ _
        omega
      · have := part_le (d := D i) (List.mem_map.2 ⟨i - l1, List.mem_range.2 (show i - l1 < m - l1 by rw [hm]; simp; omega), by rw [show l1 + (i - l1) = i by omega]⟩ : D i ∈ (List.range (m - l1)).map fun j => D (l1 + j))
        show Rows.uptoBulk (D i) ≤ _
        omega
  refine Calls.mono (plays13_run W a1 l1 c1 hin1) fun e W' ⟨v, he, hv, hm⟩ => ?_
  subst he
  subst hv
  exact ⟨_, rfl, post_true laid (by kernel_rfl) hW' rfl (by kernel_rfl) Tryz.underlying4 rfl hm⟩

theorem over : Rows.exoPlaysUptoRow.holds Tryz.pinned (Rows.OpenSpec.upto Rows.exoPlaysSpec) :=
  OpenClaim.holds_of_cond 3 Tryz.f3 rfl rfl rfl rfl rfl rfl rfl ⟨rfl, rfl, rfl, rfl, rfl⟩ rfl rfl rfl rfl rfl (by kernel_rfl) Tryz.func3 (by kernel_rfl)
    (of_decide_eq_true (by kernel_rfl)) (by unfold Func.isWrapper; first | (rw [if_pos (by decide +kernel)]; kernel_rfl) | (rw [if_neg (by decide +kernel)]; exact ⟨rfl, rfl⟩))
    (fun os started H enc _ F => lifted os started H enc F)

/-- The given statement. -/
theorem proved : Rows.ExoPlaysUptoSaid :=
  over
#print axioms proved
end Go.Proofs.YthpcakhhemdibaaGreat.exoPlaysUpto
