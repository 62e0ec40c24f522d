/-
  Proved: januslaw11.ExoipcPlays, as the given rows' second form states it: where what it reads is of bulk at most 1048576, it returns true, and the input reads behind the call as it read before. Conditions: that bound.
-/
import Derived.Test.YtidfjfcmkjdpnaaRows
import Derived.Test.YtidfjfcmkjdpnaaC11f
import Derived.Test.YtidfjfcmkjdpnaaDen9
import Derived.WalkKit
import Derived.ProofKit
import Derived.OpenShut
import Derived.JoinedCond
import Derived.Deep.Slices
set_option linter.unusedVariables false
namespace Go.Proofs.Ytidfjfcmkjdpnaa.exoipcPlaysUpto
open Go.ChangeShapes Go.WideShapes Go.ChangeAt Go.RowKit Go.Den

theorem own : ownKnob Try.prog.godebug = none := by kernel_rfl
theorem laid : laidOutB Try.prog = true := by kernel_rfl
theorem cells44 : Try.prog.cellsOf 44 = 4 := by kernel_rfl
theorem cells35 : Try.prog.cellsOf 35 = 1 := by kernel_rfl
theorem cells26 : Try.prog.cellsOf 26 = 1 := by kernel_rfl
theorem part_le {H : Type} {d : DataW H} {l : List (DataW H)} (h : d ∈ l) : Rows.uptoBulk d ≤ Rows.uptoBulkAll l := by
  induction l with
  | nil => cases h
  | cons x r ih =>
    simp only [Rows.uptoBulkAll]
    rcases List.mem_cons.1 h with e | e
    · subst e; omega
    · have := ih e; omega
theorem one_le {H : Type} : ∀ d : DataW H, 1 ≤ Rows.uptoBulk d
  | .lit l => by cases l <;> simp [Rows.uptoBulk]
  | .nil => by simp [Rows.uptoBulk]
  | .ptr d => by simp [Rows.uptoBulk]
  | .slice elems spare => by simp [Rows.uptoBulk]
  | .agg parts => by simp [Rows.uptoBulk]
  | .iface _ d => by simp [Rows.uptoBulk]
  | .map entries => by simp [Rows.uptoBulk]
  | .held _ => by simp [Rows.uptoBulk]
theorem len_le {H : Type} : ∀ l : List (DataW H), l.length ≤ Rows.uptoBulkAll l
  | [] => by simp [Rows.uptoBulkAll]
  | d :: r => by
    have h1 := one_le d
    have h2 := len_le r
    simp only [Rows.uptoBulkAll, List.length_cons]
    omega

/-- An element of bounded bulk: its row is short. -/
theorem short {H : Type} {enc : TypeId × Value → H} {W : World} {n : Nat} {cs : List Value} {x : DataW H × List MemPlace} (hx : DataW.trod enc Try.prog W 0 (fun _ => true) true n 44 cs = some x) (hb : Rows.uptoBulk x.1 ≤ 1048576) : Q11s W cs := by
  have ho := ok_of_trod 9 44 [.int .i64, .int .i64, .int .i64, .sl 35] n cs x (by kernel_rfl) hx
  obtain ⟨x0, r0, rfl, k0, ho⟩ := OkAll.cons ho
  obtain ⟨x1, r1, rfl, k1, ho⟩ := OkAll.cons ho
  obtain ⟨x2, r2, rfl, k2, ho⟩ := OkAll.cons ho
  obtain ⟨x3, r3, rfl, k3, ho⟩ := OkAll.cons ho
  obtain rfl := OkAll.nil ho
  obtain ⟨b0, rfl, w0⟩ := k0
  obtain ⟨b1, rfl, w1⟩ := k1
  obtain ⟨b2, rfl, w2⟩ := k2
  obtain ⟨a3, l3, c3, rfl, w3⟩ := k3
  rw [cells35] at w3
  have hin : SlIn W 1 Q_u64 a3 l3 c3 := w3.toIn (by decide) fun cs ⟨n, x, hx⟩ => by
    have ho := ok_of_trod 9 35 [.int .u64] n cs x (by kernel_rfl) hx
    obtain ⟨y0, s0, he, q0, ho⟩ := OkAll.cons ho
    obtain rfl := OkAll.nil ho
    obtain ⟨m0, rfl, u0⟩ := q0
    exact ⟨m0, he, u0⟩
  refine ⟨b0, b1, b2, a3, l3, c3, rfl, hin, ?_⟩
  obtain ⟨xs, m, -, rfl, -, hxl, hfs⟩ := DataW.trod_struct Try.underlying44 hx
  have h2 := hfs 3 _ rfl
  have hlt : 3 < xs.length := by rw [hxl]; decide
  rw [List.getElem?_eq_getElem hlt] at h2
  have hmem : xs[3].1 ∈ xs.map (·.1) := List.mem_map.2 ⟨_, List.getElem_mem hlt, rfl⟩
  have hpl := part_le hmem
  simp only [Rows.uptoBulk] at hb
  rcases Deep.open_slice Try.underlying26 h2 with ⟨he, -⟩ | ⟨ad, len, cap, m2, n2, D, Pl, he, -, hlc, hcm, hm2, hx2, hel⟩
  · have he2 : Value.slice a3 l3 c3 = .slice none 0 0 := by simpa [cells26] using he
    cases he2
    omega
  · have he2 : Value.slice a3 l3 c3 = .slice (some ad) len cap := by simpa [cells26] using he
    cases he2
    rw [hx2] at hpl
    simp only [Rows.uptoBulk] at hpl
    have hll := len_le ((List.range l3).map D)
    rw [List.length_map, List.length_range] at hll
    omega

set_option maxRecDepth 100000 in
theorem lifted (os : Os) (started : os.Started) (H : Type) (enc : TypeId × Value → H) (F : Stop.Interp) :
    ReturnsInHanded {} Try.checked os 5 .any ((Rows.OpenSpec.upto Rows.exoipcPlaysSpec).pre6 enc Try.prog Try.f5 Rows.exoipcPlaysUptoRow.domain false) (((Rows.OpenSpec.upto Rows.exoipcPlaysSpec).at F).post enc Try.prog Try.f5 false true false false) := by
  refine returnsInHanded_of_cond (C := Try.checked) (s := Rows.OpenSpec.upto Rows.exoipcPlaysSpec) (k := Rows.uptoSmall) rfl own started (by kernel_rfl) Try.func5
    (OpenSpec.witness (enc := enc) (C := Try.checked) (s := Rows.OpenSpec.upto Rows.exoipcPlaysSpec) (k := Rows.uptoSmall) rfl false ⟨#[], #[.slice none 0 0], []⟩ 8 (by kernel_rfl) (by kernel_rfl) (by kernel_rfl)
      (x := ([.nil], [], [])) (by kernel_rfl) rfl (by kernel_rfl)) ?_
  intro W base args ds gs before hval0 hW _ hk _
  have hval : ∀ (j : Nat) t v, Try.f5.params[j]? = some t → args[j]? = some v → Value.okWide Try.prog W .any base t v := hval0
  have hW' := hW
  obtain ⟨p, q, hA0, hV, rfl, hfz, hnd⟩ := hW
  have hA : DataW.TrodAll enc Try.prog W 0 (fun _ => true) true Try.f5.params.toList args.toList ds p := hA0
  rw [Try.params5] at hA hval
  obtain ⟨rfl, rfl⟩ := trodVars_none hV
  obtain ⟨v0, vs0, d0, ds0, p0, q0, hargs, rfl, rfl, h0, r0⟩ := trodAll_cons hA
  obtain ⟨rfl, rfl, rfl⟩ := trodAll_nil r0
  obtain rfl : args = #[v0] := by cases args; simp_all
  obtain ⟨a1, l1, c1, rfl⟩ := okWide_slice Try.underlying38 (hval 0 38 v0 rfl rfl)
  obtain ⟨m1, hf1⟩ := h0
  have hbulk : Rows.uptoBulk d0 ≤ 1048576 := by
    have h := of_decide_eq_true hk
    simp only [List.append_nil, List.cons_append, List.nil_append, Rows.uptoBulkAll] at h
    omega
  have hin1 : SlIn W 4 (Q11s W) a1 l1 c1 := by
    rcases Deep.open_slice Try.underlying38 hf1 with ⟨he, -⟩ | ⟨ad, len, cap, m, n, D, Pl, he, -, hlc, hcm, hm, hx, hel⟩
    · cases he
      exact .inl ⟨rfl, rfl, rfl⟩
    · cases he
      have hd : d0 = _ := congrArg Prod.fst hx
      simp only [hd, Rows.uptoBulk] at hbulk
      refine SlCells.toIn (P := Try.prog) (ok := fun cs => ∃ n x, DataW.trod enc Try.prog W 0 (fun _ => true) true n 44 cs = some x ∧ Rows.uptoBulk x.1 ≤ 1048576) (by decide) (fun cs ⟨n, x, hx, hb⟩ => short hx hb) (.inr ⟨ad, rfl, hlc, hcm, fun i hi => ?_⟩)
      obtain ⟨cs, h1, h2⟩ := hel i (by rw [hm]; simpa using hi)
      rw [cells44] at h1
      refine ⟨cs, h1, n, _, h2, ?_⟩
      by_cases hil : i < l1
      · have := part_le (d := D i) (List.mem_map.2 ⟨i, List.mem_range.2 hil, rfl⟩)
        show Rows.uptoBulk (D i) ≤ _
        omega
      · have := part_le (d := D i) (List.mem_map.2 ⟨i - l1, List.mem_range.2 (show i - l1 < m - l1 by rw [hm]; simp; omega), by rw [show l1 + (i - l1) = i by omega]⟩ : D i ∈ (List.range (m - l1)).map fun j => D (l1 + j))
        show Rows.uptoBulk (D i) ≤ _
        omega
  refine Calls.mono (plays_run W a1 l1 c1 hin1) fun e W' ⟨v, he, hv, hm⟩ => ?_
  subst he
  subst hv
  exact ⟨_, rfl, post_true laid (by kernel_rfl) hW' rfl (by kernel_rfl) Try.underlying4 rfl hm⟩

theorem over : Rows.exoipcPlaysUptoRow.holds Try.pinned (Rows.OpenSpec.upto Rows.exoipcPlaysSpec) :=
  OpenClaim.holds_of_cond 5 Try.f5 rfl rfl rfl rfl rfl rfl rfl ⟨rfl, rfl, rfl, rfl, rfl⟩ rfl rfl rfl rfl rfl (by kernel_rfl) Try.func5 (by kernel_rfl)
    (of_decide_eq_true (by kernel_rfl)) (by unfold Func.isWrapper; first | (rw [if_pos (by decide +kernel)]; kernel_rfl) | (rw [if_neg (by decide +kernel)]; exact ⟨rfl, rfl⟩))
    (fun os started H enc _ F => lifted os started H enc F)

/-- The given statement. -/
theorem proved : Rows.ExoipcPlaysUptoSaid :=
  over
#print axioms proved
end Go.Proofs.Ytidfjfcmkjdpnaa.exoipcPlaysUpto
