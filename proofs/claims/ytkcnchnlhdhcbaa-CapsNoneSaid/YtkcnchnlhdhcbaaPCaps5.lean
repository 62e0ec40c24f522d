/-
  caps: contracts of the program's capabilities: Has, Holders.
-/
import Derived.Test.YtkcnchnlhdhcbaaPCaps4
import Derived.Test.YtkcnchnlhdhcbaaRCaps3
set_option linter.unusedSimpArgs false
namespace Go.Den
open Go

theorem place_cases {w : World} {p : Nat} {s : S8} {ps : List (Option Nat)} {F : List Nat} (h : PT w p ps (ob8 s.L ps) [] F) (hl : ps.length = 780) (hw : W8 s) {i : Nat} (hi : i < 780) :
    (ps[i]? = some none ∧ ∀ c ∈ s.L, ckp c ≠ i) ∨ (∃ c q T, c ∈ s.L ∧ ckp c = i ∧ ps[i]? = some (some q) ∧ w.heap[q]? = some (.cells (nodeC c (parV s.L ps c)) T (0, 0))) := by
  obtain ⟨o, ho⟩ : ∃ o, ps[i]? = some o := ⟨_, List.getElem?_eq_getElem (by omega)⟩
  cases o with
  | none =>
    refine .inl ⟨ho, fun c hc he => ?_⟩
    obtain ⟨q, T, h1, -⟩ := h.has hl hw hc
    rw [he, ho] at h1
    cases h1
  | some q =>
    obtain ⟨arr, T, ha, hb⟩ := h.at_ _ q ho
    unfold ob8 at ha
    cases hf : s.L.find? fun c => ckp c == i with
    | none => rw [hf] at ha; cases ha
    | some c =>
      rw [hf] at ha
      obtain rfl := Option.some.inj ha
      have e1 := List.find?_some hf
      exact .inr ⟨c, q, T, List.mem_of_find?_eq_some hf, by simpa using e1, ho, hb⟩

end Go.Den
namespace Go.Proofs
open Go Go.Den

theorem pnode_run {c : CE} (hx : May8 c.x) {up : Value} {w : World} {q : Nat} {T : TypeId} (hq : w.heap[q]? = some (.cells (nodeC c up) T (0, 0))) (k i r : Int) (hi : (Lit.int .i64 i).wf = true) {b1 b2 b3 : Nat} (h1 : w.cell? ⟨b1, 0, none⟩ = some (.int .i64 k)) (h2 : w.cell? ⟨b2, 0, none⟩ = some (.int .i64 i)) (h3 : w.cell? ⟨b3, 0, none⟩ = some (.int .i64 r)) {K : Value → World → Prop}
    (hK : ∀ w', Mod [] w w' → K (.bool (covers8 c.x k i r)) w') : CallsR Try.prog F_caps_Caps_Has_1 #[.pointer (some ⟨q, 0, none⟩), .pointer (some ⟨b1, 0, none⟩), .pointer (some ⟨b2, 0, none⟩), .pointer (some ⟨b3, 0, none⟩)] w K := by
  apply R_caps_Caps_Has_1_ok
  simp only [R_caps_Caps_Has_1, Option.isNone_some, Bool.not_false, spl_true, nilK_some, addr_add, Nat.zero_add]
  rw [drK_eq]
  have m1 : Mod [] w w.drew := (Mod.refl [] w).drew
  have hq : w.drew.heap[q]? = some (.cells (nodeC c up) T (0, 0)) := hq
  have h1 : w.drew.cell? ⟨b1, 0, none⟩ = some (.int .i64 k) := h1
  have h2 : w.drew.cell? ⟨b2, 0, none⟩ = some (.int .i64 i) := h2
  have h3 : w.drew.cell? ⟨b3, 0, none⟩ = some (.int .i64 r) := h3
  generalize w.drew = w1 at m1 hq h1 h2 h3 ⊢
  refine ⟨c.x.k, c.x.i, c.x.n, c.x.r, ⟨by rw [cell_get hq]; rfl, by rw [cell_get hq]; rfl, by rw [cell_get hq]; rfl, by rw [cell_get hq]; rfl⟩, k, h1, i, h2, r, h3, ?_⟩
  exact pcovers_run hx k i r hi fun w2 m2 => ⟨_, rfl, hK w2 (m1.trans' m2)⟩

theorem phas_run {w : World} {p : Nat} {s : S8} {F : List Nat} (h : CP w p s F) (e k i r : Int) (hi : (Lit.int .i64 i).wf = true) {K : Value → World → Prop} (hK : ∀ w', Mod [] w w' → K (.bool (has8 s.L e k i r)) w') :
    CallsR Try.prog F_caps_Caps_Has #[.pointer (some ⟨p, 0, none⟩), .int .i64 e, .int .i64 k, .int .i64 i, .int .i64 r] w K := by
  apply R_caps_Caps_Has_ok
  simp only [R_caps_Caps_Has, Option.isNone_some, spl_false, nilK_some, addr_add, Nat.zero_add]
  have hlt := h.lt
  refine (Sep.nil (Mod.refl [] w)).new fun b1 w1 s1 m1 hb1 => s1.new fun b2 w2 s2 m2 hb2 => s2.new fun b3 w3 s3 m3 hb3 => ?_
  obtain ⟨hw, ps, h3, hl⟩ := h.keep (s3.mod.at0 hlt)
  refine pis_run e ⟨_, rfl, ?_⟩
  rw [spl_decide]
  refine ⟨fun he => ⟨⟨he.1, he.2⟩, ?_⟩, fun he => ?_⟩
  · simp only [slK, sOK, sM, slA, true_and, Nat.reduceSub, Nat.reduceEqDiff, if_false, Option.map_some, Nat.zero_mul, addr_add, Nat.add_zero, Option.isNone_none, implies_true]
    apply R_slices_ContainsFunc_caps_node_caps_node_ok
    simp only [R_slices_ContainsFunc_caps_node_caps_node]
    apply R_slices_IndexFunc_caps_node_caps_node_ok
    simp only [R_slices_IndexFunc_caps_node_caps_node, nilK_some, addr_add, spl_decide]
    refine ⟨fun n t w' => ∃ j : Nat, t = j ∧ j ≤ 65 ∧ n = 65 - j ∧ (∀ c ∈ s.L, c.env = e → ckp c < e.toNat * 65 + j → covers8 c.x k i r = false) ∧ Mod [] w3 w', ⟨65, 0, rfl, by omega, rfl, fun c hc h1 h2 => ?_, Mod.refl _ _⟩, ?_⟩
    · unfold ckp kp at h2; rw [h1] at h2; omega
    rintro n t - w4 ⟨j, rfl, hj, rfl, hno, hm4⟩
    have h4 := h3.keep (hm4.at0 h3.lt)
    have s4 := s3.mod0 hm4
    refine ⟨fun hlt => ⟨⟨by omega, by omega⟩, ?_⟩, fun hge => ⟨_, rfl, ?_⟩⟩
    · have hb : e.toNat * 65 + j < 780 := by unfold env12 at he; omega
      obtain ⟨o, ho, hcell⟩ := h4.cell (i := e.toNat * 65 + j) (by omega)
      rw [Int.toNat_natCast]
      rcases place_cases h4 hl hw hb with ⟨g1, g2⟩ | ⟨c, q, T, g1, g2, g3, g4⟩
      · rw [ho] at g1
        obtain rfl := Option.some.inj g1
        refine ⟨none, hcell, ?_⟩
        apply R_caps_Caps_Has_1_ok
        simp only [R_caps_Caps_Has_1, Option.isNone_none, Bool.not_true, spl_false]
        rw [drK_eq]
        refine ⟨_, rfl, spl_f rfl ⟨65 - (j + 1), by omega, j + 1, by rw [w64 (by omega) (by omega)]; omega, by omega, rfl, fun c hc h1 h2 => ?_, hm4.drew⟩⟩
        have := g2 c hc
        exact hno c hc h1 (by omega)
      · rw [ho] at g3
        obtain rfl := Option.some.inj g3
        refine ⟨_, hcell, pnode_run (hw.in_ c g1).2.2.2.1 g4 k i r hi (s4.cell 2 rfl rfl) (s4.cell 1 rfl rfl) (s4.cell 0 rfl rfl) fun w5 m5 => ⟨_, rfl, spl_of (fun hcv => ⟨_, rfl, ?_⟩) (fun hcv => ?_)⟩⟩
        · have hce : c.env = e := by
            obtain ⟨a1, a2, a3, -⟩ := hw.in_ c g1
            unfold ckp kp at g2
            unfold env12 at a1 he
            omega
          have e1 : has8 s.L e k i r = true := List.any_eq_true.2 ⟨c, g1, by simp [hce, hcv]⟩
          have := hK w5 (s4.mod.trans' m5)
          rw [decide_eq_true (by omega)]
          rw [e1] at this
          exact ⟨_, rfl, this⟩
        · refine ⟨65 - (j + 1), by omega, j + 1, by rw [w64 (by omega) (by omega)]; omega, by omega, rfl, fun d hd h1 h2 => ?_, hm4.trans' m5⟩
          by_cases hdk : ckp d = e.toNat * 65 + j
          · rw [ckp_inj hw hd g1 (hdk.trans g2.symm)]; exact hcv
          · exact hno d hd h1 (by omega)
    · have e1 : has8 s.L e k i r = false := List.any_eq_false.2 fun c hc => by
        obtain ⟨a1, a2, a3, -⟩ := hw.in_ c hc
        by_cases hce : c.env = e
        · rw [hno c hc hce (by unfold ckp kp; rw [hce]; omega)]; simp
        · simp [hce]
      have := hK w4 s4.mod
      rw [e1] at this
      exact ⟨_, rfl, by simpa using this⟩
  · have e1 : has8 s.L e k i r = false := List.any_eq_false.2 fun c hc => by
      obtain ⟨a1, a2, a3, -⟩ := hw.in_ c hc
      have : c.env ≠ e := fun h => he (h ▸ a1)
      simp [this]
    have := hK w3 s3.mod
    rwa [e1] at this

theorem pholders_run {w : World} {p : Nat} {s : S8} {F : List Nat} (h : CP w p s F) (k i : Int) (hi : (Lit.int .i64 i).wf = true) {K : Value → World → Prop} (hK : ∀ w' a c G, SlB w' a (holders8 s.L k i).length c 1 (i64s (holders8 s.L k i)) G → Beyond w.heap.size G → Mod [] w w' → K (.slice a (holders8 s.L k i).length c) w') :
    CallsR Try.prog F_caps_Caps_Holders #[.pointer (some ⟨p, 0, none⟩), .int .i64 k, .int .i64 i] w K := by
  apply R_caps_Caps_Holders_ok
  simp only [R_caps_Caps_Holders, spl_decide]
  refine ⟨fun n a l c t w' => ∃ (j : Nat) (G : List Nat), t = j ∧ j ≤ 12 ∧ n = 12 - j ∧ l = ((ups j).filter fun e => has8 s.L e k i 0).length ∧ SlB w' a l c 1 (i64s ((ups j).filter fun e => has8 s.L e k i 0)) G ∧ Beyond w.heap.size G ∧ Mod [] w w', ⟨12, 0, [], rfl, by omega, rfl, rfl, SlB.nil w 1, by simp [Beyond], Mod.refl _ _⟩, ?_⟩
  rintro n a l c t - w1 ⟨j, G, rfl, hj, rfl, rfl, hs, hG, hm⟩
  refine ⟨fun hlt => ?_, fun hge => ?_⟩
  · refine ⟨fun a l c w' => ∃ G, l = ((ups (j + 1)).filter fun e => has8 s.L e k i 0).length ∧ SlB w' a l c 1 (i64s ((ups (j + 1)).filter fun e => has8 s.L e k i 0)) G ∧ Beyond w.heap.size G ∧ Mod [] w w', ?_, ?_⟩
    · rintro a l c - w2 ⟨G2, rfl, z1, z2, z3⟩
      exact ⟨12 - (j + 1), by omega, j + 1, G2, by rw [w64 (by omega) (by omega)]; omega, by omega, rfl, rfl, z1, z2, z3⟩
    have eu : ups (j + 1) = ups j ++ [(j : Int)] := ups_succ j
    refine phas_run (h.keep (hm.at0 h.lt)) j k i 0 hi fun w2 m2 => ⟨_, rfl, spl_of (fun hh => ?_) (fun hh => ?_)⟩
    · have ef : (ups (j + 1)).filter (fun e => has8 s.L e k i 0) = (ups j).filter (fun e => has8 s.L e k i 0) ++ [(j : Int)] := by
        rw [eu, List.filter_append]
        simp [hh]
      rw [ef]
      have hs2 := hs.keep (m2.at0 hs.lt)
      have hm2 := hm.trans' m2
      rw [newK_eq]
      have hle : ((ups j).filter fun e => has8 s.L e k i 0).length ≤ 12 := by
        have := List.length_filter_le (fun e => has8 s.L e k i 0) (ups j)
        rw [show (ups j).length = j by simp [ups]] at this
        omega
      refine push_K (w0 := w) slT_int (by decide) hs2 hG hm2 (us := [.int .i64 j]) rfl (by simp [isCell]) (by omega) (by omega) fun A C w3 G3 z1 z2 z3 z4 z5 => ⟨_, _, _, rfl, G3, by simp, by simpa [i64s] using z1, z2, z3⟩
    · have ef : (ups (j + 1)).filter (fun e => has8 s.L e k i 0) = (ups j).filter (fun e => has8 s.L e k i 0) := by
        rw [eu, List.filter_append]
        simp [hh]
      rw [ef]
      exact ⟨G, rfl, hs.keep (m2.at0 hs.lt), hG, hm.trans' m2⟩
  · obtain rfl : j = 12 := by omega
    exact hK w1 a c G hs hG hm

end Go.Proofs
