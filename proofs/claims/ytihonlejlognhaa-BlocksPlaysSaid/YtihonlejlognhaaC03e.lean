/-
  Layer 3: the walk of 'BlocksKeeps'.
-/
import Derived.Test.YtihonlejlognhaaC03d
set_option linter.unusedSimpArgs false
namespace Go.Proofs
open Go Go.Den

theorem keeps_run (w : World) (ap : Bool) (ab an av : Int) (_ : (Lit.int .i64 ab).wf = true) (_ : (Lit.int .i64 an).wf = true) (_ : (Lit.int .u64 av).wf = true)
    (bp : Bool) (bb bn bv : Int) (_ : (Lit.int .i64 bb).wf = true) (_ : (Lit.int .i64 bn).wf = true) (_ : (Lit.int .u64 bv).wf = true) :
    CallsR Try.prog F_januslaw03_BlocksKeeps #[.agg #[.bool ap, .int .i64 ab, .int .i64 an, .int .u64 av], .agg #[.bool bp, .int .i64 bb, .int .i64 bn, .int .u64 bv]] w fun r w' => r = .bool true ∧ Mod [] w w' := by
  apply R_januslaw03_BlocksKeeps_ok
  simp only [R_januslaw03_BlocksKeeps, newK_eq, drK_eq]
  have h9 := alloc_get (.cells #[.bool bp, .int .i64 bb, .int .i64 bn, .int .u64 bv] 24) (alloc_new w (.cells #[.bool ap, .int .i64 ab, .int .i64 an, .int .u64 av] 24))
  have h11 := alloc_new (w.alloc (.cells #[.bool ap, .int .i64 ab, .int .i64 an, .int .u64 av] 24)) (.cells #[.bool bp, .int .i64 bb, .int .i64 bn, .int .u64 bv] 24)
  have m01 : Mod [] w _ := ((Mod.refl [] w).alloc (.cells #[.bool ap, .int .i64 ab, .int .i64 an, .int .u64 av] 24)).alloc (.cells #[.bool bp, .int .i64 bb, .int .i64 bn, .int .u64 bv] 24)
  generalize hw1 : (w.alloc (.cells #[.bool ap, .int .i64 ab, .int .i64 an, .int .u64 av] 24)).alloc (.cells #[.bool bp, .int .i64 bb, .int .i64 bn, .int .u64 bv] 24) = w1 at *
  generalize hb11 : (w.alloc (.cells #[.bool ap, .int .i64 ab, .int .i64 an, .int .u64 av] 24)).heap.size = b11 at *
  generalize hb9 : w.heap.size = b9 at h9 ⊢
  clear hw1 hb11 hb9
  have hlt : ∀ b ∈ [b9, b11], b < w1.heap.size := by
    intro b hb
    simp at hb
    rcases hb with rfl | rfl
    · exact lt_of_get h9
    · exact lt_of_get h11
  have kp : ∀ {w' w'' : World}, Mod [] w1 w' → Mod [] w1 w'' → keepB [b9, b11] w' w'' := fun h h' b hb => (h'.keep b (hlt b hb) (by simp)).trans (h.keep b (hlt b hb) (by simp)).symm
  have rd9 : ∀ {w' : World}, Mod [] w1 w' → w'.heap[b9]? = some (.cells #[.bool ap, .int .i64 ab, .int .i64 an, .int .u64 av] 24) := fun h => h.get h9 (by simp)
  have rd11 : ∀ {w' : World}, Mod [] w1 w' → w'.heap[b11]? = some (.cells #[.bool bp, .int .i64 bb, .int .i64 bn, .int .u64 bv] 24) := fun h => h.get h11 (by simp)
  have fin : ∀ {w' : World}, Mod [] w1 w' → CallsR Try.prog F_januslaw03_awake #[] w' fun v w'' => ∃ r : Bool, v = .bool r ∧ Value.bool r = .bool true ∧ Mod [] w w'' := fun h => awake_run _ fun w2 h2 => ⟨true, rfl, rfl, (m01.trans' h).trans' h2⟩
  refine disk_new 3 w1 (fun h => by omega) (fun k p F w2 hk _ _ hd hm2 hF => ?_)
  obtain rfl : k = 3 := by omega
  refine ⟨_, rfl, ?_⟩
  simp only [Option.isNone_some, spl_false, spl_bne]
  have m2 := hm2.drew
  refine ⟨[b9, b11], by simp, ab, by rw [cell_get (rd9 m2)]; rfl, by simp, av, by rw [cell_get (rd9 m2)]; rfl, ?_⟩
  refine block_run 32 av _ fun w3 a3 c3 G3 hs3 hG3 hm3 => ⟨_, _, _, rfl, kp m2 (m2.trans' hm3), ?_⟩
  have m3 := m2.trans' hm3
  have hltF := hd.lt
  have hd3 := hd.keep (w' := w3) fun b hb => hm3.keep b (hltF b hb) (by simp)
  rw [blockOf_32] at hs3 ⊢
  refine disk_put hd3 (by omega) ab hs3 (fun b hb hF' => absurd (hG3 b hb) (by have := hltF b hF'; show ¬ w2.heap.size ≤ b; omega)) (fun _ => ⟨_, rfl, kp m2 m3, fun _ => fin m3, fun h => absurd h (by decide)⟩) (fun ka w4 hka hka3 _ hd4 hm4 => ?_)
  have m4 : Mod [] w1 w4 := m3.trans hm4 fun b hb hlt => absurd (hF b hb) (by omega)
  refine ⟨_, rfl, kp m2 m4, fun h => absurd rfl h, fun _ => ⟨by simp, bb, by rw [cell_get (rd11 m4)]; rfl, by simp, bv, by rw [cell_get (rd11 m4)]; rfl, ?_⟩⟩
  refine block_run 32 bv _ fun w5 a5 c5 G5 hs5 hG5 hm5 => ⟨_, _, _, rfl, kp m2 (m4.trans' hm5), ?_⟩
  have m5 := m4.trans' hm5
  have hltF4 := hd4.lt
  have hd5 := hd4.keep (w' := w5) fun b hb => hm5.keep b (hltF4 b hb) (by simp)
  rw [blockOf_32] at hs5 ⊢
  refine disk_put hd5 (by omega) bb hs5 (fun b hb hF' => absurd (hG5 b hb) (by have := hltF4 b hF'; omega)) (fun _ => ⟨_, rfl, kp m2 m5, fun _ => fin m5, fun h => absurd h (by decide)⟩) (fun kb w6 hkb hkb3 _ hd6 hm6 => ?_)
  have m6 : Mod [] w1 w6 := m5.trans hm6 fun b hb hlt => absurd (hF b hb) (by omega)
  refine ⟨_, rfl, kp m2 m6, fun h => absurd rfl h, fun _ => ?_⟩
  simp only [List.length_set, List.length_replicate] at hka3 hkb3
  generalize hbs : ((List.replicate 3 (List.replicate 32 (0 : Int))).set ka (blockOf 32 av)).set kb (blockOf 32 bv) = bs at hd6
  refine ⟨fun m i w' => ∃ k : Nat, i = k ∧ k ≤ 3 ∧ m = 3 - k ∧ DiskP w' p bs (k : Int) 2 F ∧ Mod [] w1 w', ⟨3, 0, rfl, by omega, rfl, hd6, m6⟩, ?_⟩
  rintro m i - w7 ⟨k, rfl, hk, rfl, hd7, m7⟩
  refine spl_of (fun h => ?_) (fun _ => fin m7)
  have hk3 : k < 3 := by have := of_decide_eq_true h; omega
  refine disk_get hd7 (by omega) k (fun h => ?_) (fun k' b w8 a8 c8 G8 hkk hb hs8 hG8 hd8 hm8 => ⟨_, _, _, _, rfl, ?_⟩)
  · rw [← hbs] at h; simp at h; omega
  obtain rfl : k' = k := by omega
  have m8 : Mod [] w1 w8 := m7.trans hm8 fun b hb hlt => absurd (hF b hb) (by omega)
  obtain ⟨w9, hr9, hs9, hm9⟩ := makeSlice_run slT_u64 w8 (k := .i64) (k' := .i64) (l := 32) (c := 32) (Nat.le_refl _) (by omega) (by omega)
  refine ⟨_, _, hr9, _, _, _, rfl, ?_⟩
  have m9 := m8.trans' hm9
  have hz : zrow (.int .u64 0) (32 * 1) = u64s (List.replicate 32 0) := by rw [zrow_one rfl]; simp [u64s]
  rw [hz] at hs9
  have hltF8 := hd8.lt
  refine ⟨fun A L C w' => ∃ G, SlB w' A L C 1 (u64s (if (k' : Int) = ab then blockOf 32 av else List.replicate 32 0)) G ∧ Mod [] w8 w', ?_, ⟨ab, by rw [cell_get (rd9 m9)]; rfl, ?_⟩⟩
  · rintro A L C - w10 ⟨G, hsA, hm10⟩
    have m10 := m8.trans' hm10
    refine ⟨fun A L C w' => ∃ G, SlB w' A L C 1 (u64s (if (k' : Int) = bb then blockOf 32 bv else if (k' : Int) = ab then blockOf 32 av else List.replicate 32 0)) G ∧ Mod [] w8 w', ?_, ⟨bb, by rw [cell_get (rd11 m10)]; rfl, ?_⟩⟩
    · rintro A L C - w11 ⟨G, hsA, hm11⟩
      simp only [spl_bne]
      refine ⟨fun h => absurd rfl h, fun _ => words_eq (hs8.mod hm11 (by simp)) hsA (by omega) fun w12 hm12 => ⟨_, rfl, ?_⟩⟩
      have hbe : b = if (k' : Int) = bb then blockOf 32 bv else if (k' : Int) = ab then blockOf 32 av else List.replicate 32 0 := by
        rw [← hbs, List.getElem?_set, List.getElem?_set] at hb
        simp only [List.length_set, List.length_replicate, List.getElem?_replicate] at hb
        by_cases h1 : kb = k'
        · rw [if_pos h1, if_pos hkb3] at hb
          rw [if_pos (by omega)]
          exact (Option.some.inj hb).symm
        · rw [if_neg h1] at hb
          rw [if_neg (by omega)]
          by_cases h2 : ka = k'
          · rw [if_pos h2, if_pos hka3] at hb
            rw [if_pos (by omega)]
            exact (Option.some.inj hb).symm
          · rw [if_neg h2, if_pos hk3] at hb
            rw [if_neg (by omega)]
            exact (Option.some.inj hb).symm
      rw [decide_eq_true hbe, spl_true]
      refine ⟨3 - (k' + 1), by omega, k' + 1, by rw [w64 (by omega) (by omega)]; omega, by omega, rfl, ?_, (m8.trans' hm11).trans' hm12⟩
      exact hd8.keep fun b hb => (hm11.trans' hm12).keep b (hltF8 b hb) (by simp)
    · simp only [spl_beq]
      refine ⟨fun h => ⟨bv, by rw [cell_get (rd11 m10)]; rfl, block_run 32 bv _ fun w11 a11 c11 G11 hs11 hG11 hm11 => ⟨_, _, _, rfl, G11, ?_, hm10.trans' hm11⟩⟩, fun h => ⟨G, ?_, hm10⟩⟩
      · rw [if_pos h]; exact hs11
      · rw [if_neg h]; exact hsA
  · simp only [spl_beq]
    refine ⟨fun h => ⟨av, by rw [cell_get (rd9 m9)]; rfl, block_run 32 av _ fun w11 a11 c11 G11 hs11 hG11 hm11 => ⟨_, _, _, rfl, G11, ?_, hm9.trans' hm11⟩⟩, fun h => ⟨[w8.heap.size], ?_, hm9⟩⟩
    · rw [if_pos h]; exact hs11
    · rw [if_neg h]; exact hs9

end Go.Proofs
