/-
  Layer 10: any deeds.
-/
import Derived.Test.YtjojlahppdgagaaC10d
set_option linter.unusedSimpArgs false
namespace Go.Proofs
open Go Go.Den

theorem createU (s : S10) (e : Int) : (createS s e).U = s.U := by unfold createS; split <;> rfl
theorem killU_len (s : S10) (e : Int) : (killS s e).U.length ≤ s.U.length := by
  unfold killS
  split
  · exact List.length_filter_le _ _
  · exact Nat.le_refl _
theorem sliceU (s : S10) (n e : Int) : (sliceS s n e).U = s.U := by unfold sliceS; split <;> rfl
theorem faultU_len (s : S10) (e a : Int) : (faultS s e a).U.length ≤ s.U.length + 1 := by unfold faultS; split <;> simp
theorem upcallU_len (s : S10) (e : Int) : (upcallS s e).U.length ≤ s.U.length := List.length_filter_le _ _

theorem RP.rows {w : World} {p : Nat} {s : S10} {F : List Nat} (h : RP w p s F) : p < w.heap.size ∧ ∃ a1 l1 c1 G1 a2 l2 c2 G2, w.cell? ⟨p, 0, none⟩ = some (.slice a1 l1 c1) ∧ SlB w a1 l1 c1 1 (i64s s.L) G1 ∧ w.cell? ⟨p, 1, none⟩ = some (.slice a2 l2 c2) ∧ SlB w a2 l2 c2 1 (i64s s.V) G2 := by
  obtain ⟨q1, q2, q3, a1, l1, c1, G1, a2, l2, c2, G2, a3, l3, c3, G3, T, h1, h2, h3, h4, r1, r2, r3, r4, r5, rfl⟩ := h
  exact ⟨lt_of_get h1, a1, l1, c1, G1, a2, l2, c2, G2, by rw [cell_get h1]; rfl, h2, by rw [cell_get h1]; rfl, h3⟩

theorem plays_run (w : World) (n : Int) (hn : (Lit.int .i64 n).wf = true) (a : Option Addr) (l c : Nat) (hin : SlIn w 4 Q_januslaw10_Deed a l c) : CallsR Try.prog F_januslaw10_ExoenvPlays #[.int .i64 n, .slice a l c] w fun v w' => v = .bool true ∧ Mod [] w w' := by
  apply R_januslaw10_ExoenvPlays_ok
  simp only [R_januslaw10_ExoenvPlays, spl_decide, spl_bne, spl_beq, newK_eq, drK_eq]
  refine enew_run w n (fun h => ⟨_, rfl, ?_⟩) fun m p F1 w1 hm hm1 hm64 h1 m1 b1 => ⟨_, rfl, ?_⟩
  · refine rnew_run w n (fun _ => ⟨_, rfl, spl_f rfl ?_⟩) fun m q F2 w2 hm hm1 hm64 h2 m2 b2 => absurd h (by omega)
    refine ⟨fun w' => w' = w, fun _ w' hw => by subst hw; exact fin_run (Mod.refl _ _), fun n i w' => w' = w, ⟨0, rfl⟩, ?_⟩
    rintro n i - w' rfl
    exact ⟨fun _ => ⟨fun _ => spl_f rfl (by first | rfl | trivial), fun _ => (by first | rfl | trivial)⟩, fun _ => (by first | rfl | trivial)⟩
  refine rnew_run w1 n (fun h => absurd h (by omega)) fun m' q F2 w2 hm' hm1' hm64' h2 m2 b2 => ⟨_, rfl, spl_f rfl ?_⟩
  obtain rfl : m' = m := by omega
  simp only [Option.isNone_some, Bool.not_false, spl_true]
  have s1 := ((Sep.nil (Mod.refl [] w)).push (ep p _ F1) m1 h1 b1).push (rp q _ F2) m2 h2 b2
  have hlle := hin.le
  refine ⟨fun w' => Mod [] w w', fun _ w' hm => fin_run hm, ?_⟩
  refine ⟨fun n i w' => ∃ (k : Nat) (s : S10) (F G : List Nat), i = k ∧ k ≤ l ∧ k ≤ 200 ∧ n = l - k ∧ s.U.length ≤ k ∧ Sep w w' [rp q s G, ep p s F], ⟨l, 0, _, F1, F2, rfl, by omega, by omega, rfl, by simp, s1⟩, ?_⟩
  clear s1 h1 m1 b1 h2 m2 b2
  rintro n i - w3 ⟨k, s, F, G, rfl, hk, h200, rfl, hsU, s3⟩
  refine ⟨fun hlt => ⟨fun h3 => ?_, fun _ => s3.mod⟩, fun _ => s3.mod⟩
  have hkl : k < l := by omega
  obtain ⟨ad, cs, rfl, hadlt, ⟨d0, d1, d2, d3, rfl, -⟩, -, hcell⟩ := hin.at hkl
  have cell : ∀ j v, j < 4 → [Value.int .i64 d0, .int .i64 d1, .int .i64 d2, .int .u64 d3][j]? = some v → w3.cell? (Addr.add (Addr.add ad (k * 4)) j) = some v := fun j v hj hv => by
    rw [← hv, ← hcell j hj]
    exact s3.mod.cell (by rw [add_block, add_block]; exact hadlt)
  simp only [nilK_some, Int.toNat_natCast]
  refine ⟨⟨by omega, by omega⟩, d0, d1, d2, d3, ⟨by have := cell 0 _ (by decide) rfl; rwa [add_zero] at this, cell 1 _ (by decide) rfl, cell 2 _ (by decide) rfl, cell 3 _ (by decide) rfl⟩, ?_⟩
  refine s3.stK rfl fun w4 s4 _ => ?_
  generalize w3.heap.size = bd at s4 ⊢
  have s4 : Sep w w4 [blk bd (dc10 d0 d1 d2 d3), rp q s G, ep p s F] := s4
  clear s3 cell hcell
  have c0 : ∀ {u : World}, u.heap[bd]? = some (dc10 d0 d1 d2 d3) → u.cell? ⟨bd, 0, none⟩ = some (.int .i64 d0) := fun h => by rw [cell_get h]; rfl
  have c1 : ∀ {u : World}, u.heap[bd]? = some (dc10 d0 d1 d2 d3) → u.cell? ⟨bd, 1, none⟩ = some (.int .i64 d1) := fun h => by rw [cell_get h]; rfl
  have c2 : ∀ {u : World}, u.heap[bd]? = some (dc10 d0 d1 d2 d3) → u.cell? ⟨bd, 2, none⟩ = some (.int .i64 d2) := fun h => by rw [cell_get h]; rfl
  have c3 : ∀ {u : World}, u.heap[bd]? = some (dc10 d0 d1 d2 d3) → u.cell? ⟨bd, 3, none⟩ = some (.int .u64 d3) := fun h => by rw [cell_get h]; rfl
  refine ⟨fun ok w' => ok = true ∧ ∃ (s : S10) (F G : List Nat), s.U.length ≤ k + 1 ∧ Sep w w' [blk bd (dc10 d0 d1 d2 d3), rp q s G, ep p s F], ?_, d0, c0 (s4.nth 0 rfl), ?_⟩
  · rintro ok - w5 ⟨rfl, s, F, G, hsU, s5⟩
    have s5 := s5.mod0 ((Mod.refl [] w5).drew)
    generalize w5.drew = w5 at s5 ⊢
    obtain ⟨hqlt, a1, l1, c1', G1, a2, l2, c2', G2, k1, k2, k3, k4⟩ := (s5.nth 1 rfl : RP w5 q s G).rows
    have kk : ∀ {u : World}, Mod [] w5 u → keepB [bd, q] w5 u := fun hm x hx => by
      simp only [List.mem_cons, List.not_mem_nil, or_false] at hx
      rcases hx with rfl | rfl
      · exact hm.keep _ (lt_of_get (s5.nth 0 rfl : w5.heap[x]? = some _)) (by simp)
      · exact hm.keep _ hqlt (by simp)
    refine ⟨[bd, q], ?_⟩
    rw [spl_true]
    refine ⟨by simp, d1, c1 (s5.nth 0 rfl), by simp, d1, c1 (s5.nth 0 rfl), ?_⟩
    refine is_run (s5.nth 2 rfl : EP w5 p s F) d1 ⟨_, rfl, kk (Mod.refl _ _), ?_⟩
    refine ris_run (s5.nth 1 rfl : RP w5 q s G) d1 ⟨_, rfl, kk (Mod.refl _ _), spl_f (by simp) ⟨by simp, a1, l1, c1', k1, ?_⟩⟩
    refine live_run (s5.nth 2 rfl : EP w5 p s F) fun A C w6 H hs6 hH6 m6 h12 => ⟨_, _, _, rfl, kk m6, ?_⟩
    refine ints_rd hs6.rd (k2.keep (m6.at0 k2.lt)).rd (by omega) fun w7 m7 => ⟨_, rfl, spl_t (by simp) ⟨kk (m6.trans' m7), ?_⟩⟩
    have m67 := m6.trans' m7
    refine ⟨by simp [add_block], a2, l2, c2', by rw [m67.cell hqlt]; exact k3, ?_⟩
    have s7 := s5.mod0 m67
    refine vector_run (s7.nth 2 rfl : EP w7 p s F) fun A2 C2 w8 H8 hs8 hH8 m8 => ⟨_, _, _, rfl, kk (m67.trans' m8), ?_⟩
    have hV := (s7.nth 2 rfl : EP w7 p s F).2.2.1
    refine ints_rd hs8.rd (k4.keep ((m67.trans' m8).at0 k4.lt)).rd (by omega) fun w9 m9 => ⟨_, rfl, spl_t (by simp) ⟨kk ((m67.trans' m8).trans' m9), ?_⟩⟩
    exact ⟨l - (k + 1), by omega, k + 1, s, F, G, by rw [w64 (by omega) (by omega)]; omega, by omega, by omega, rfl, hsU, ((s7.mod0 m8).mod0 m9).pop⟩
  have s5 := s4.mod0 ((Mod.refl [] w4).drew)
  refine ⟨fun _ => ?_, fun _ => ⟨fun _ => ?_, fun _ => ⟨fun _ => ?_, fun _ => ⟨fun _ => ?_, fun _ => ⟨fun _ => ?_, fun _ => ?_⟩⟩⟩⟩⟩
  · refine ⟨[bd], by simp, d1, c1 (s5.nth 0 rfl), by simp, d1, c1 (s5.nth 0 rfl), ?_⟩
    refine create_run (s5.nth 2 rfl : EP w4.drew p s F) d1 fun w6 F6 h6 m6 o6 => ⟨_, rfl, ?_⟩
    have s6 := s5.step 2 rfl (ep p _ F6) h6 m6 o6
    refine ⟨keepB1 (s5.kept s6 0 0 rfl rfl), ?_⟩
    refine rcreate_run (s6.nth 1 rfl : RP w6 q s G) d1 fun w7 G7 h7 m7 o7 => ⟨_, rfl, ?_⟩
    have s7 := s6.step 1 rfl (rp q _ G7) h7 m7 o7
    exact ⟨keepB1 (s5.kept s7 0 0 rfl rfl), by simp, createS s d1, F6, G7, by rw [createU]; omega, s7⟩
  · refine ⟨[bd], by simp, d1, c1 (s5.nth 0 rfl), by simp, d1, c1 (s5.nth 0 rfl), ?_⟩
    refine kill_run (s5.nth 2 rfl : EP w4.drew p s F) d1 fun w6 F6 h6 m6 o6 => ⟨_, rfl, ?_⟩
    have s6 := s5.step 2 rfl (ep p _ F6) h6 m6 o6
    refine ⟨keepB1 (s5.kept s6 0 0 rfl rfl), ?_⟩
    refine rkill_run (s6.nth 1 rfl : RP w6 q s G) (by omega) d1 fun w7 G7 h7 m7 o7 => ⟨_, rfl, ?_⟩
    have s7 := s6.step 1 rfl (rp q _ G7) h7 m7 o7
    have := killU_len s d1
    exact ⟨keepB1 (s5.kept s7 0 0 rfl rfl), by simp, killS s d1, F6, G7, by omega, s7⟩
  · refine ⟨[bd], by simp, d2, c2 (s5.nth 0 rfl), by simp, d1, c1 (s5.nth 0 rfl), by simp, d2, c2 (s5.nth 0 rfl), by simp, d1, c1 (s5.nth 0 rfl), ?_⟩
    refine slice_run (s5.nth 2 rfl : EP w4.drew p s F) d2 d1 fun w6 h6 m6 => ⟨_, rfl, ?_⟩
    have s6 := s5.turn 2 rfl (ep p _ F) h6 m6
    refine ⟨keepB1 (s5.kept s6 0 0 rfl rfl), ?_⟩
    refine rslice_run (s6.nth 1 rfl : RP w6 q s G) d2 d1 fun w7 h7 m7 => ⟨_, rfl, ?_⟩
    have s7 := s6.turn 1 rfl (rp q _ G) h7 m7
    exact ⟨keepB1 (s5.kept s7 0 0 rfl rfl), by simp, sliceS s d2 d1, F, G, by rw [sliceU]; omega, s7⟩
  · refine ⟨[bd], by simp, d2, c2 (s5.nth 0 rfl), by simp, d2, c2 (s5.nth 0 rfl), ?_⟩
    refine pick_run (s5.nth 2 rfl : EP w4.drew p s F) d2 fun w6 m6 => ⟨_, rfl, ?_⟩
    have s6 := s5.mod0 m6
    refine ⟨keepB1 (s5.kept s6 0 0 rfl rfl), ?_⟩
    exact rpick_run (s6.nth 1 rfl : RP w6 q s G) d2 ⟨_, rfl, keepB1 (s5.kept s6 0 0 rfl rfl), by simp, s, F, G, by omega, s6⟩
  · refine ⟨[bd], by simp, d1, c1 (s5.nth 0 rfl), by simp, d3, c3 (s5.nth 0 rfl), by simp, d1, c1 (s5.nth 0 rfl), by simp, d3, c3 (s5.nth 0 rfl), ?_⟩
    refine fault_run (s5.nth 2 rfl : EP w4.drew p s F) d1 d3 fun w6 h6 m6 => ⟨_, rfl, ?_⟩
    have s6 := s5.turn 2 rfl (ep p _ F) h6 m6
    refine ⟨keepB1 (s5.kept s6 0 0 rfl rfl), ?_⟩
    refine rfault_run (s6.nth 1 rfl : RP w6 q s G) (by omega) d1 d3 fun w7 G7 h7 m7 o7 => ⟨_, rfl, ?_⟩
    have s7 := s6.step 1 rfl (rp q _ G7) h7 m7 o7
    have := faultU_len s d1 d3
    exact ⟨keepB1 (s5.kept s7 0 0 rfl rfl), by simp, faultS s d1 d3, F, G7, by omega, s7⟩
  · refine ⟨d1, c1 (s4.nth 0 rfl), ?_⟩
    refine upcall_run (s4.nth 2 rfl : EP w4 p s F) d1 fun w6 h6 m6 => ⟨_, _, rfl, ?_⟩
    have s6 := s4.turn 2 rfl (ep p _ F) h6 m6
    refine ⟨d1, c1 (s6.nth 0 rfl), ?_⟩
    refine rupcallP_run (s6.nth 1 rfl : RP w6 q s G) (by omega) d1 fun w7 G7 h7 m7 o7 => ⟨_, _, rfl, ?_⟩
    have s7 := s6.step 1 rfl (rp q _ G7) h7 m7 o7
    have := upcallU_len s d1
    exact ⟨fun _ => ⟨by simp, upcallS s d1, F, G7, by omega, s7⟩, fun h => absurd rfl h⟩

end Go.Proofs
