/-
  Layer 10: the examples; environments that are none; upcalls; slices; any deeds.
-/
import Derived.Test.YtjojlahppdgagaaC10c
set_option linter.unusedSimpArgs false
namespace Go.Proofs
open Go Go.Den

theorem awake_run {w : World} {K : Value → World → Prop} (hK : ∀ w', Mod [] w w' → K (.bool true) w') : CallsR Try.prog F_januslaw10_awake #[] w K := by
  apply R_januslaw10_awake_ok
  simp only [R_januslaw10_awake]
  refine enew_run w 2 (fun h => absurd h (by decide)) fun m p F1 w1 hm _ _ h1 m1 b1 => ⟨_, rfl, ?_⟩
  obtain rfl : m = 2 := by omega
  simp only [Option.isNone_some, spl_false]
  have s1 := (Sep.nil (Mod.refl [] w)).push (ep p _ F1) m1 h1 b1
  clear h1 m1 b1
  refine create_run (s1.nth 0 rfl : EP w1 p _ F1) 3 fun w2 F2 h2 m2 o2 => ⟨_, rfl, ?_⟩
  have s2 := s1.step 0 rfl (ep p _ F2) h2 m2 o2
  refine slice_run h2 1 3 fun w3 h3 m3 => ⟨_, rfl, ?_⟩
  have s3 := s2.turn 0 rfl (ep p _ F2) h3 m3
  refine pick_run h3 5 fun w4 m4 => ⟨_, rfl, ?_⟩
  have s4 := s3.mod0 m4
  refine pick_run (s4.nth 0 rfl : EP w4 p _ F2) 0 fun w5 m5 => ⟨_, rfl, ?_⟩
  have s5 := s4.mod0 m5
  refine fault_run (s5.nth 0 rfl : EP w5 p _ F2) 3 9 fun w6 h6 m6 => ⟨_, rfl, ?_⟩
  have s6 := s5.turn 0 rfl (ep p _ F2) h6 m6
  refine fault_run h6 3 9 fun w7 h7 m7 => ⟨_, rfl, ?_⟩
  have s7 := s6.turn 0 rfl (ep p _ F2) h7 m7
  refine upcall_run h7 3 fun w8 h8 m8 => ⟨_, _, rfl, ?_⟩
  have s8 := s7.turn 0 rfl (ep p _ F2) h8 m8
  refine kill_run h8 3 fun w9 F9 h9 m9 o9 => ⟨_, rfl, ?_⟩
  have s9 := s8.step 0 rfl (ep p _ F9) h9 m9 o9
  refine spl_t (by decide) (spl_t (by decide) (spl_t (by decide) (spl_t (by decide) (spl_t (by decide) (spl_t (by decide) (spl_t (by decide) (spl_t (by decide) (spl_t (by decide) ?_))))))))
  refine pick_run h9 1 fun w10 m10 => ⟨_, rfl, spl_t (by decide) ?_⟩
  have s10 := s9.mod0 m10
  refine pick_run (s10.nth 0 rfl : EP w10 p _ F9) (-1) fun w11 m11 => ⟨_, rfl, ?_⟩
  have := hK w11 (s10.mod0 m11).mod
  exact this

theorem fin_run {w w1 : World} (hm : Mod [] w w1) : CallsR Try.prog F_januslaw10_awake #[] w1 fun v w' => ∃ r, v = .bool r ∧ Value.bool r = .bool true ∧ Mod [] w w' :=
  awake_run fun w' hm' => ⟨_, rfl, rfl, hm.trans' hm'⟩

theorem none_run (w : World) (d0 d1 d2 d3 : Int) (h0 : (Lit.int .i64 d0).wf = true) (h1 : (Lit.int .i64 d1).wf = true) (h2 : (Lit.int .i64 d2).wf = true) (h3 : (Lit.int .u64 d3).wf = true) : CallsR Try.prog F_januslaw10_ExoenvNone #[.agg #[.int .i64 d0, .int .i64 d1, .int .i64 d2, .int .u64 d3]] w fun v w' => v = .bool true ∧ Mod [] w w' := by
  apply R_januslaw10_ExoenvNone_ok
  simp only [R_januslaw10_ExoenvNone, newK_eq]
  have s1 := (Sep.nil (Mod.refl [] w)).alloc (.cells #[.int .i64 d0, .int .i64 d1, .int .i64 d2, .int .u64 d3] 34)
  generalize w.alloc (.cells #[.int .i64 d0, .int .i64 d1, .int .i64 d2, .int .u64 d3] 34) = w1 at s1 ⊢
  generalize w.heap.size = b at s1 ⊢
  have hb : w1.heap[b]? = some _ := s1.nth 0 rfl
  have c1 : w1.cell? ⟨b, 1, none⟩ = some (.int .i64 d1) := by rw [cell_get hb]; rfl
  have c2 : w1.cell? ⟨b, 2, none⟩ = some (.int .i64 d2) := by rw [cell_get hb]; rfl
  have c3 : w1.cell? ⟨b, 3, none⟩ = some (.int .u64 d3) := by rw [cell_get hb]; rfl
  have at0 : ∀ {u : World} {e : Int} {K : Value → World → Prop}, K (.pointer none) u → CallsR Try.prog F_exoenv_Envs_at #[.pointer none, .int .i64 e] u K := fun h => by
    apply R_exoenv_Envs_at_ok
    simp only [R_exoenv_Envs_at, Option.isNone_none, spl_true]
    exact h
  have is0 : ∀ {u : World} {e : Int} {K : Value → World → Prop}, K (.bool false) u → CallsR Try.prog F_exoenv_Envs_Is #[.pointer none, .int .i64 e] u K := fun h => by
    apply R_exoenv_Envs_Is_ok
    simp only [R_exoenv_Envs_Is]
    exact at0 ⟨_, rfl, h⟩
  refine ⟨d1, c1, ?_⟩
  apply R_exoenv_Envs_Upcall_ok
  simp only [R_exoenv_Envs_Upcall]
  refine at0 ⟨_, rfl, spl_t rfl ⟨_, _, rfl, d1, c1, ?_⟩⟩
  apply R_exoenv_Envs_Create_ok
  simp only [R_exoenv_Envs_Create, Option.isNone_none, spl_true]
  refine ⟨_, rfl, spl_t rfl ⟨d1, c1, ?_⟩⟩
  apply R_exoenv_Envs_Kill_ok
  simp only [R_exoenv_Envs_Kill, Option.isNone_none, spl_true]
  refine ⟨_, rfl, spl_t rfl ?_⟩
  apply R_exoenv_Envs_Live_ok
  simp only [R_exoenv_Envs_Live, newK_eq, spl_decide]
  refine ⟨fun n A L C t w' => ∃ j : Nat, t = j ∧ j ≤ 12 ∧ n = 12 - j ∧ A = none ∧ L = 0 ∧ C = 0 ∧ w' = w1, ⟨12, 0, rfl, by omega, rfl, rfl, rfl, rfl, rfl⟩, ?_⟩
  rintro n A L C t - w2 ⟨j, rfl, hj, rfl, rfl, rfl, rfl, rfl⟩
  refine ⟨fun hlt => ⟨fun A L C w' => A = none ∧ L = 0 ∧ C = 0 ∧ w' = w2, ?_, ?_⟩, fun hge => ?_⟩
  · rintro A L C - w' ⟨rfl, rfl, rfl, rfl⟩
    exact ⟨12 - (j + 1), by omega, j + 1, by rw [w64 (by omega) (by omega)]; omega, by omega, rfl, rfl, rfl, rfl, by first | rfl | trivial⟩
  · refine is0 ⟨_, rfl, ?_⟩
    rw [spl_false]
    exact ⟨rfl, rfl, rfl, rfl⟩
  refine ⟨_, _, _, rfl, spl_t rfl ⟨d1, c1, is0 ⟨_, rfl, ?_⟩⟩⟩
  rw [spl_false]
  refine ⟨d2, c2, d1, c1, ?_⟩
  apply R_exoenv_Envs_Slice_ok
  simp only [R_exoenv_Envs_Slice, Option.isNone_none, spl_true]
  refine ⟨fun _ => False, fun _ _ h => h.elim, _, rfl, spl_t rfl ?_⟩
  apply R_exoenv_Envs_Vector_ok
  simp only [R_exoenv_Envs_Vector, Option.isNone_none, spl_true]
  refine ⟨_, _, _, rfl, spl_t rfl ⟨d2, c2, ?_⟩⟩
  apply R_exoenv_Envs_Pick_ok
  simp only [R_exoenv_Envs_Pick, Option.isNone_none, spl_true]
  refine ⟨_, rfl, spl_t rfl ⟨d1, c1, d3, c3, ?_⟩⟩
  apply R_exoenv_Envs_Fault_ok
  simp only [R_exoenv_Envs_Fault, Option.isNone_none, spl_true]
  refine ⟨_, rfl, spl_t rfl ?_⟩
  exact spl_f rfl (fin_run s1.mod)

theorem upcalls_run (w : World) (e : Int) (he : (Lit.int .i64 e).wf = true) (a : Int) (ha : (Lit.int .u64 a).wf = true) (kl : Bool) : CallsR Try.prog F_januslaw10_ExoenvUpcalls #[.int .i64 e, .int .u64 a, .bool kl] w fun v w' => v = .bool true ∧ Mod [] w w' := by
  apply R_januslaw10_ExoenvUpcalls_ok
  simp only [R_januslaw10_ExoenvUpcalls, spl_decide, spl_bne, spl_beq]
  refine enew_run w 1 (fun h => absurd h (by decide)) fun m p F1 w1 hm _ _ h1 m1 b1 => ⟨_, rfl, ?_⟩
  obtain rfl : m = 1 := by omega
  simp only [Option.isNone_some, spl_false]
  have s1 := (Sep.nil (Mod.refl [] w)).push (ep p _ F1) m1 h1 b1
  clear h1 m1 b1
  obtain ⟨s, hs⟩ : ∃ s : S10, s = ⟨[], List.replicate 1 (-1), []⟩ := ⟨_, rfl⟩
  rw [← hs] at s1
  have hL : s.L = [] := by rw [hs]
  have hU : s.U = [] := by rw [hs]
  refine create_run (s1.nth 0 rfl : EP w1 p s F1) e fun w2 F2 h2 m2 o2 => ⟨_, rfl, fun hne => ?_, fun heq => ?_⟩
  · have s2 := s1.step 0 rfl (ep p _ F2) h2 m2 o2
    have hout : ¬ in12 e := fun hin => hne (by unfold createE; rw [if_neg (by simp [hin]), hL, if_neg (by simp)])
    have hS : createS s e = s := by unfold createS; rw [if_neg hne]
    rw [hS] at s2
    have hF : faultE s e = 106 := by unfold faultE; rw [if_pos (by rw [hL]; simp)]
    have go : CallsR Try.prog F_exoenv_Envs_Fault #[.pointer (some ⟨p, 0, none⟩), .int .i64 e, .int .u64 a] w2 fun v10 w11 => ∃ r12 : Int, v10 = .int .i64 r12 ∧ ((r12 = 106 → CallsR Try.prog F_januslaw10_awake #[] w11 fun v13 w14 => ∃ r15 : Bool, v13 = .bool r15 ∧ Value.bool r15 = Value.bool true ∧ Mod [] w w14) ∧ (r12 ≠ 106 → Value.bool false = Value.bool true ∧ Mod [] w w11)) := by
      refine fault_run (s2.nth 0 rfl : EP w2 p s F2) e a fun w3 h3 m3 => ⟨_, rfl, fun _ => fin_run (s2.turn 0 rfl (ep p _ F2) h3 m3).mod, fun h => absurd hF h⟩
    refine ⟨fun _ => go, fun hge => ⟨fun _ => go, fun hlt => ?_⟩⟩
    exact absurd ⟨by omega, by omega⟩ hout
  · have hin : in12 e := by
      unfold createE at heq
      split at heq
      · cases heq
      · rename_i hh; exact Decidable.not_not.1 hh
    have s2 := s1.step 0 rfl (ep p _ F2) h2 m2 o2
    have hS : createS s e = ⟨[e], s.V, []⟩ := by unfold createS; rw [if_pos heq, hL, hU]; rfl
    rw [hS] at s2 h2
    have hF : faultE ⟨[e], s.V, []⟩ e = 0 := by simp [faultE, upV]
    refine fault_run h2 e a fun w3 h3 m3 => ⟨_, rfl, fun h => absurd hF h, fun _ => ?_⟩
    have s3 := s2.turn 0 rfl (ep p _ F2) h3 m3
    have hS3 : faultS ⟨[e], s.V, []⟩ e a = ⟨[e], s.V, [(e, a)]⟩ := by unfold faultS; rw [if_pos hF]; rfl
    rw [hS3] at s3 h3
    cases kl with
    | true =>
      rw [spl_true]
      refine kill_run h3 e fun w4 F4 h4 m4 o4 => ⟨_, rfl, ?_⟩
      have s4 := s3.step 0 rfl (ep p _ F4) h4 m4 o4
      have hS4 : killS ⟨[e], s.V, [(e, a)]⟩ e = ⟨[], s.V.map (fun x => if x = e then -1 else x), []⟩ := by simp [killS, ridL, upD]
      rw [hS4] at s4 h4
      have hE4 : killE ⟨[e], s.V, [(e, a)]⟩ e = 0 := by simp [killE]
      rw [hE4]
      refine create_run h4 e fun w5 F5 h5 m5 o5 => ⟨_, rfl, ?_⟩
      have s5 := s4.step 0 rfl (ep p _ F5) h5 m5 o5
      have hE5 : createE ⟨[], s.V.map (fun x => if x = e then -1 else x), []⟩ e = 0 := by simp [createE, hin]
      have hS5 : createS ⟨[], s.V.map (fun x => if x = e then -1 else x), []⟩ e = ⟨[e], s.V.map (fun x => if x = e then -1 else x), []⟩ := by unfold createS; rw [if_pos hE5]; rfl
      rw [hS5] at s5 h5
      rw [hE5]
      refine upcall_run h5 e fun w6 h6 m6 => ⟨_, _, rfl, fun _ => ⟨fun _ => ?_, fun h => absurd rfl h⟩, fun h => absurd rfl h⟩
      have s6 := s5.turn 0 rfl (ep p _ F5) h6 m6
      exact spl_f rfl (fin_run s6.mod)
    | false =>
      rw [spl_false]
      refine upcall_run h3 e fun w4 h4 m4 => ⟨_, _, rfl, ?_⟩
      have s4 := s3.turn 0 rfl (ep p _ F2) h4 m4
      have hS4 : upcallS ⟨[e], s.V, [(e, a)]⟩ e = ⟨[e], s.V, []⟩ := by simp [upcallS, upD]
      have hV4 : upV [(e, a)] e = (a, true) := by simp [upV]
      rw [hS4] at s4 h4
      rw [hV4]
      refine upcall_run h4 e fun w5 h5 m5 => ⟨_, _, rfl, ?_⟩
      have s5 := s4.turn 0 rfl (ep p _ F2) h5 m5
      exact ⟨fun _ => spl_t rfl (spl_f rfl (fin_run s5.mod)), fun h => absurd rfl h⟩

theorem pick_at {s : S10} {j N : Nat} (hN : s.V.length = N) (hj : j < N) : pickV s j = (s.V[j]?).getD 0 ∧ pickV s ((j : Int) + N) = (s.V[j]?).getD 0 := by
  have h1 : (j : Int).emod N = j := Int.emod_eq_of_lt (by omega) (by omega)
  have h2 : ((j : Int) + N).emod N = j := by
    have : ((j : Int) + N) % N = (j : Int) % N := Int.add_emod_right _ _
    exact this.trans h1
  constructor
  · rw [pickV, hN, h1, Int.toNat_natCast]
  · rw [pickV, hN, h2, Int.toNat_natCast]

def dc10 (d0 d1 d2 d3 : Int) : Obj := .cells [.int .i64 d0, .int .i64 d1, .int .i64 d2, .int .u64 d3].toArray 34 (0, 0)

theorem slices_run (w : World) (n : Int) (hn : (Lit.int .i64 n).wf = true) (a : Option Addr) (l c : Nat) (hin : SlIn w 4 Q_januslaw10_Deed a l c) : CallsR Try.prog F_januslaw10_ExoenvSlices #[.int .i64 n, .slice a l c] w fun v w' => v = .bool true ∧ Mod [] w w' := by
  apply R_januslaw10_ExoenvSlices_ok
  simp only [R_januslaw10_ExoenvSlices, spl_decide, spl_bne, spl_beq, newK_eq, drK_eq]
  obtain ⟨N, hN, hN1, hN8⟩ : ∃ N : Nat, (if (if 64 < n then 64 else n) > 1 then if 64 < n then 64 else n else 1) = (N : Int) ∧ 1 ≤ N ∧ N ≤ 64 :=
    ⟨(if (if 64 < n then 64 else n) > 1 then if 64 < n then 64 else n else 1).toNat, by split <;> split <;> omega, by split <;> split <;> omega, by split <;> split <;> omega⟩
  rw [hN]
  refine enew_run w N (fun h => absurd h (by omega)) fun m p F1 w1 hm _ _ h1 m1 b1 => ⟨_, rfl, ?_⟩
  obtain rfl : m = N := by omega
  simp only [Option.isNone_some, spl_false]
  have s1 := (Sep.nil (Mod.refl [] w)).push (ep p _ F1) m1 h1 b1
  have hlle := hin.le
  refine ⟨fun w' => Mod [] w w', fun _ w' hm => fin_run hm, ?_⟩
  refine ⟨fun n i w' => ∃ (k : Nat) (s : S10) (F : List Nat), i = k ∧ k ≤ l ∧ k ≤ 200 ∧ n = l - k ∧ s.V.length = m ∧ Sep w w' [ep p s F], ⟨l, 0, _, F1, rfl, by omega, by omega, rfl, by simp, s1⟩, ?_⟩
  clear s1 h1 m1 b1
  rintro n i - w3 ⟨k, s, F, rfl, hk, h200, rfl, hsV, s3⟩
  refine ⟨fun hlt => ⟨fun h3 => ?_, fun _ => s3.mod⟩, fun _ => s3.mod⟩
  have hkl : k < l := by omega
  obtain ⟨ad, cs, rfl, hadlt, ⟨d0, d1, d2, d3, rfl, -⟩, -, hcell⟩ := hin.at hkl
  have cell : ∀ j v, j < 4 → [Value.int .i64 d0, .int .i64 d1, .int .i64 d2, .int .u64 d3][j]? = some v → w3.cell? (Addr.add (Addr.add ad (k * 4)) j) = some v := fun j v hj hv => by
    rw [← hv, ← hcell j hj]
    exact s3.mod.cell (by rw [add_block, add_block]; exact hadlt)
  simp only [nilK_some, Int.toNat_natCast]
  refine ⟨⟨by omega, by omega⟩, d0, d1, d2, d3, ⟨by have := cell 0 _ (by decide) rfl; rwa [add_zero] at this, cell 1 _ (by decide) rfl, cell 2 _ (by decide) rfl, cell 3 _ (by decide) rfl⟩, ?_⟩
  refine s3.stK rfl fun w4 s4 _ => ?_
  generalize w3.heap.size = bd at s4 ⊢
  have s4 : Sep w w4 [blk bd (dc10 d0 d1 d2 d3), ep p s F] := s4
  clear s3 cell hcell
  have c0 : ∀ {u : World}, u.heap[bd]? = some (dc10 d0 d1 d2 d3) → u.cell? ⟨bd, 0, none⟩ = some (.int .i64 d0) := fun h => by rw [cell_get h]; rfl
  have c1 : ∀ {u : World}, u.heap[bd]? = some (dc10 d0 d1 d2 d3) → u.cell? ⟨bd, 1, none⟩ = some (.int .i64 d1) := fun h => by rw [cell_get h]; rfl
  have c2 : ∀ {u : World}, u.heap[bd]? = some (dc10 d0 d1 d2 d3) → u.cell? ⟨bd, 2, none⟩ = some (.int .i64 d2) := fun h => by rw [cell_get h]; rfl
  refine ⟨fun w' => ∃ (s : S10) (F : List Nat), s.V.length = m ∧ Sep w w' [ep p s F], ?_, d0, c0 (s4.nth 0 rfl), fun _ => ?_, fun _ => ⟨fun _ => ?_, fun _ => ⟨fun _ => ?_, fun _ => ⟨s, F, hsV, s4.pop⟩⟩⟩⟩
  · rintro - w5 ⟨s, F, hsV, s5⟩
    refine vector_run (s5.nth 0 rfl : EP w5 p s F) fun A C w6 G hs6 hG6 m6 => ⟨_, _, _, rfl, fun h => absurd (by rw [hsV]) h, fun _ => ?_⟩
    have s6 := s5.push (sl A s.V.length C 1 (i64s s.V) G) m6 hs6 hG6
    refine ⟨fun n i w' => ∃ j : Nat, i = j ∧ j ≤ m ∧ n = m - j ∧ Sep w w' [sl A s.V.length C 1 (i64s s.V) G, ep p s F], ⟨m, 0, rfl, by omega, rfl, s6⟩, ?_⟩
    clear s6 hs6
    rintro n i - w7 ⟨j, rfl, hj, rfl, s7⟩
    refine ⟨fun hlt => ⟨fun w' => Sep w w' [sl A s.V.length C 1 (i64s s.V) G, ep p s F], ?_, ?_⟩, fun hge => ⟨l - (k + 1), by omega, k + 1, s, F, by rw [w64 (by omega) (by omega)]; omega, by omega, by omega, rfl, hsV, s7.pop⟩⟩
    · rintro - w' s8
      exact ⟨m - (j + 1), by omega, j + 1, by rw [w64 (by omega) (by omega)]; omega, by omega, rfl, s8⟩
    have s8 := s7.mod0 ((Mod.refl [] w7).drew)
    generalize w7.drew = w8 at s8 ⊢
    have hs8 : SlB w8 A s.V.length C 1 (i64s s.V) G := s8.nth 0 rfl
    obtain ⟨ad, x, rfl, hx, hc, rfl, hlt8⟩ := hs8.rd.i64at (k := j) (by omega)
    have rd : ∀ {u : World}, Mod [] w8 u → u.cell? (Addr.add ad j) = some (.int .i64 x) := fun hm => by rw [hm.cell (by rw [add_block]; exact hlt8)]; exact hc
    have kp : ∀ {u : World}, Mod [] w8 u → keepB [ad.block] w8 u := fun hm => keepB1 (hm.keep _ hlt8 (by simp))
    obtain ⟨e1, e2⟩ := pick_at hsV (j := j) (by omega)
    rw [hx] at e1 e2
    simp only [Option.getD_some] at e1 e2
    have hW := (s8.nth 1 rfl : EP w8 p s F).1
    have hxv := hW.v x (List.mem_of_getElem? hx)
    simp only [nilK_some, Int.toNat_natCast]
    rw [w64 (by omega) (by omega)]
    refine ⟨[ad.block], ⟨by omega, by omega⟩, by simp [add_block], x, hc, fun hne => ⟨⟨by omega, by omega⟩, by simp [add_block], x, hc, ?_⟩, fun heq => ⟨⟨by omega, by omega⟩, by simp [add_block], x, hc, ?_⟩⟩
    · refine is_run (s8.nth 1 rfl : EP w8 p s F) x ⟨_, rfl, ?_⟩
      refine spl_t (decide_eq_true (hxv.resolve_left hne)) ⟨kp (Mod.refl _ _), ⟨by omega, by omega⟩, by simp [add_block], x, hc, ?_⟩
      refine pick_run (s8.nth 1 rfl : EP w8 p s F) j fun w9 m9 => ⟨_, rfl, kp m9, fun h => absurd e1 h, fun _ => ⟨⟨by omega, by omega⟩, by simp [add_block], x, rd m9, ?_⟩⟩
      have s9 := s8.mod0 m9
      refine pick_run (s9.nth 1 rfl : EP w9 p s F) (j + m) fun w10 m10 => ⟨_, rfl, kp (m9.trans' m10), fun h => absurd e2 h, fun _ => s9.mod0 m10⟩
    · refine pick_run (s8.nth 1 rfl : EP w8 p s F) j fun w9 m9 => ⟨_, rfl, kp m9, fun h => absurd e1 h, fun _ => ⟨⟨by omega, by omega⟩, by simp [add_block], x, rd m9, ?_⟩⟩
      have s9 := s8.mod0 m9
      refine pick_run (s9.nth 1 rfl : EP w9 p s F) (j + m) fun w10 m10 => ⟨_, rfl, kp (m9.trans' m10), fun h => absurd e2 h, fun _ => s9.mod0 m10⟩
  · refine ⟨d1, c1 (s4.nth 0 rfl), ?_⟩
    refine create_run (s4.nth 1 rfl : EP w4 p s F) d1 fun w5 F5 h5 m5 o5 => ⟨_, rfl, createS s d1, F5, by rw [createV]; exact hsV, (s4.step 1 rfl (ep p _ F5) h5 m5 o5).pop⟩
  · refine ⟨d1, c1 (s4.nth 0 rfl), ?_⟩
    refine kill_run (s4.nth 1 rfl : EP w4 p s F) d1 fun w5 F5 h5 m5 o5 => ⟨_, rfl, killS s d1, F5, by rw [killV_len]; exact hsV, (s4.step 1 rfl (ep p _ F5) h5 m5 o5).pop⟩
  · refine ⟨d2, c2 (s4.nth 0 rfl), d1, c1 (s4.nth 0 rfl), ?_⟩
    refine slice_run (s4.nth 1 rfl : EP w4 p s F) d2 d1 fun w5 h5 m5 => ⟨_, rfl, sliceS s d2 d1, F, by rw [sliceV_len]; exact hsV, (s4.turn 1 rfl (ep p _ F) h5 m5).pop⟩

end Go.Proofs
