/-
  Layer 24: the example; a lock that is none; any deeds.
-/
import Derived.Test.YtciclhpbkbcdpaaC24c
set_option linter.unusedSimpArgs false
namespace Go.Proofs
open Go Go.Den

theorem awake_run {w : World} {K : Value → World → Prop} (hK : ∀ w', Mod [] w w' → K (.bool true) w') : CallsR Try.prog F_januslaw24_awake #[] w K := by
  apply R_januslaw24_awake_ok
  simp only [R_januslaw24_awake]
  refine new_run w fun p F1 w1 h1 m1 b1 => ⟨_, rfl, ?_⟩
  simp only [Option.isNone_some, spl_false]
  have s1 := (Sep.nil (Mod.refl [] w)).push (lk p _ F1) m1 h1 b1
  refine ask_run h1 (by decide) 1 fun w2 F2 h2 m2 o2 => ⟨_, rfl, ?_⟩
  have s2 := s1.step 0 rfl (lk p _ F2) h2 m2 o2
  refine ask_run h2 (by decide) 2 fun w3 F3 h3 m3 o3 => ⟨_, rfl, ?_⟩
  have s3 := s2.step 0 rfl (lk p _ F3) h3 m3 o3
  refine ask_run h3 (by decide) 2 fun w4 F4 h4 m4 o4 => ⟨_, rfl, ?_⟩
  have s4 := s3.step 0 rfl (lk p _ F4) h4 m4 o4
  refine leave_run h4 (by decide) 1 fun w5 F5 h5 m5 o5 => ⟨_, _, rfl, ?_⟩
  have s5 := s4.step 0 rfl (lk p _ F5) h5 m5 o5
  refine leave_run h5 (by decide) 1 fun w6 F6 h6 m6 o6 => ⟨_, _, rfl, ?_⟩
  have s6 := s5.step 0 rfl (lk p _ F6) h6 m6 o6
  refine spl_t (by decide) (spl_f (by decide) (spl_f (by decide) (spl_t (by decide) (spl_t (by decide) (spl_t (by decide) ?_)))))
  refine holder_run h6 ⟨_, rfl, spl_t (by decide) ?_⟩
  refine queue_run h6 (by decide) fun A C w7 H _ _ m7 => ⟨_, _, _, rfl, ?_⟩
  exact hK w7 (s6.mod.trans' m7)

theorem none_run (w : World) (d e : Int) (hd : (Lit.int .i64 d).wf = true) (he : (Lit.int .i64 e).wf = true) : CallsR Try.prog F_januslaw24_LocksNone #[.agg #[.int .i64 d, .int .i64 e]] w fun v w' => v = .bool true ∧ Mod [] w w' := by
  apply R_januslaw24_LocksNone_ok
  simp only [R_januslaw24_LocksNone, newK_eq]
  have s1 := (Sep.nil (Mod.refl [] w)).alloc (.cells #[.int .i64 d, .int .i64 e] 39)
  generalize w.alloc (.cells #[.int .i64 d, .int .i64 e] 39) = w1 at s1 ⊢
  generalize w.heap.size = b at s1 ⊢
  have hb : w1.heap[b]? = some _ := s1.nth 0 rfl
  have c1 : w1.cell? ⟨b, 1, none⟩ = some (.int .i64 e) := by rw [cell_get hb]; rfl
  refine ⟨e, c1, ?_⟩
  apply R_locks_Lock_Leave_ok
  simp only [R_locks_Lock_Leave, Option.isNone_none, spl_true]
  refine ⟨_, _, rfl, e, c1, ?_⟩
  apply R_locks_Lock_Gone_ok
  simp only [R_locks_Lock_Gone, Option.isNone_none, spl_true, newK_eq]
  have s2 := s1.alloc (.cells #[.int .i64 e] 3)
  generalize w1.alloc (.cells #[.int .i64 e] 3) = w2 at s2 ⊢
  have hb2 : w2.heap[b]? = some _ := s2.nth 1 rfl
  refine ⟨by trivial, e, by rw [cell_get hb2]; rfl, ?_⟩
  apply R_locks_Lock_Ask_ok
  simp only [R_locks_Lock_Ask, Option.isNone_none, spl_true]
  refine ⟨fun _ => False, fun _ _ h => h.elim, _, rfl, ?_⟩
  rw [spl_false]
  apply R_locks_Lock_Holder_ok
  simp only [R_locks_Lock_Holder, Option.isNone_none, spl_true]
  refine ⟨_, rfl, spl_t rfl (spl_t rfl ?_)⟩
  apply R_locks_Lock_Queue_ok
  simp only [R_locks_Lock_Queue, Option.isNone_none, spl_true]
  refine ⟨_, _, _, rfl, spl_t rfl ?_⟩
  exact awake_run fun w' hm => ⟨_, rfl, rfl, s2.mod.trans' hm⟩

theorem askS_len (s : LS) (e : Int) : (askS s e).2.length ≤ s.2.length + 1 := by
  unfold askS
  split
  · omega
  · split
    · simp
    · split
      · simp
      · omega
theorem leaveS_len (s : LS) (e : Int) : (leaveS s e).2.length ≤ s.2.length := by
  unfold leaveS
  split
  · omega
  · split
    · simp
    · rename_i h; rw [h]; simp
theorem goneS_len (s : LS) (e : Int) : (goneS s e).2.length ≤ s.2.length := by
  have h1 := leaveS_len (s.1, rid s.2 e) e
  exact Nat.le_trans h1 (rid_len s.2 e)

theorem RfP.cells {w : World} {p : Nat} {s : LS} {F : List Nat} (h : RfP w p s F) : w.cell? ⟨p, 0, none⟩ = some (.int .i64 s.1) ∧ p < w.heap.size ∧ ∃ a l c G, w.cell? ⟨p, 1, none⟩ = some (.slice a l c) ∧ SlB w a l c 1 (i64s s.2) G := by
  obtain ⟨a, l, c, G, T, h1, h2, h3, rfl⟩ := h
  exact ⟨by rw [cell_get h1]; rfl, lt_of_get h1, a, l, c, G, by rw [cell_get h1]; rfl, h2⟩

theorem plays_run (w : World) (a : Option Addr) (l c : Nat) (hin : SlIn w 2 Q_januslaw24_Deed a l c) : CallsR Try.prog F_januslaw24_LocksPlays #[.slice a l c] w fun v w' => v = .bool true ∧ Mod [] w w' := by
  apply R_januslaw24_LocksPlays_ok
  simp only [R_januslaw24_LocksPlays, newK_eq, drK_eq]
  refine new_run w fun p F1 w1 h1 m1 b1 => ⟨_, rfl, ?_⟩
  refine rnew_run w1 fun q F2 w2 h2 m2 b2 => ⟨_, rfl, ?_⟩
  simp only [Option.isNone_some, spl_false, spl_decide, spl_bne, spl_beq]
  have s1 : Sep w w2 [rf q (-1, []) F2, lk p (-1, []) F1] := ((Sep.nil (Mod.refl [] w)).push (lk p _ F1) m1 h1 b1).push (rf q _ F2) m2 h2 b2
  have hlle := hin.le
  refine ⟨fun w' => Mod [] w w', fun _ w' hm => awake_run fun w'' hm' => ⟨_, rfl, rfl, hm.trans' hm'⟩, ?_⟩
  refine ⟨fun n i w' => ∃ (k : Nat) (s : LS) (F G : List Nat), i = k ∧ k ≤ l ∧ k ≤ 300 ∧ n = l - k ∧ s.2.length ≤ k ∧ Sep w w' [rf q s G, lk p s F], ⟨l, 0, (-1, []), F1, F2, rfl, by omega, by omega, rfl, by simp, s1⟩, ?_⟩
  clear s1 h1 h2 m1 m2 b1 b2
  rintro n i - w3 ⟨k, s, F, G, rfl, hk, h300, rfl, hsl, s3⟩
  refine ⟨fun hlt => ⟨fun h3 => ?_, fun _ => s3.mod⟩, fun _ => s3.mod⟩
  have hkl : k < l := by omega
  obtain ⟨ad, cs, rfl, hadlt, ⟨f0, f1, rfl, wf0, wf1⟩, -, hcell⟩ := hin.at hkl
  have cell : ∀ j v, j < 2 → [Value.int .i64 f0, Value.int .i64 f1][j]? = some v → w3.cell? (Addr.add (Addr.add ad (k * 2)) j) = some v := fun j v hj hv => by
    rw [← hv, ← hcell j hj]
    exact s3.mod.cell (by rw [add_block, add_block]; exact hadlt)
  simp only [nilK_some, Int.toNat_natCast]
  refine ⟨⟨by omega, by omega⟩, f0, f1, ⟨by have := cell 0 _ (by decide) rfl; rwa [add_zero] at this, cell 1 _ (by decide) rfl⟩, ?_⟩
  refine s3.stK rfl fun w4 s4 _ => ?_
  generalize w3.heap.size = bd at s4 ⊢
  clear s3 cell hcell
  have c0 : ∀ {u : World}, u.heap[bd]? = some (.cells [Value.int .i64 f0, Value.int .i64 f1].toArray 39 (0, 0)) → u.cell? ⟨bd, 0, none⟩ = some (.int .i64 f0) := fun h => by rw [cell_get h]; rfl
  have c1 : ∀ {u : World}, u.heap[bd]? = some (.cells [Value.int .i64 f0, Value.int .i64 f1].toArray 39 (0, 0)) → u.cell? ⟨bd, 1, none⟩ = some (.int .i64 f1) := fun h => by rw [cell_get h]; rfl
  refine ⟨fun ok w' => ok = true ∧ ∃ (s : LS) (F G : List Nat), s.2.length ≤ k + 1 ∧ Sep w w' [rf q s G, lk p s F], ?_, f0, c0 (s4.nth 0 rfl), fun _ => ?_, fun _ => ⟨fun _ => ?_, fun _ => ?_⟩⟩
  · rintro ok - w5 ⟨rfl, s, F, G, hsl5, s5⟩
    have s5 := s5.mod0 ((Mod.refl [] w5).drew)
    obtain ⟨q0, qlt, a2, l2, c2, G2, q1, hs2⟩ := (s5.nth 0 rfl : RfP w5.drew q s G).cells
    refine ⟨[q], ?_⟩
    rw [spl_true]
    refine ⟨by simp, s.1, q0, ?_⟩
    refine holder_run (s5.nth 1 rfl : LkP w5.drew p s F) ⟨_, rfl, fun x hx => rfl, fun h => absurd rfl h, fun _ => ⟨by simp, a2, l2, c2, q1, ?_⟩⟩
    refine queue_run (s5.nth 1 rfl : LkP w5.drew p s F) (by omega) fun A C w6 H hs6 hH m6 => ⟨_, _, _, rfl, keepB1 (m6.keep q qlt (by simp)), ?_⟩
    refine ints_rd hs6.rd (hs2.keep (m6.at0 hs2.lt)).rd (by omega) fun w7 m7 => ⟨_, rfl, ?_⟩
    have s7 := (s5.mod0 m6).mod0 m7
    refine spl_t (by simp) ⟨keepB1 ((m6.trans' m7).keep q qlt (by simp)), l - (k + 1), by omega, k + 1, s, F, G, by rw [w64 (by omega) (by omega)]; omega, by omega, by omega, rfl, hsl5, s7⟩
  · have s5 := s4.mod0 ((Mod.refl [] w4).drew)
    refine ⟨[bd], by simp, f1, c1 (s5.nth 0 rfl), by simp, f1, c1 (s5.nth 0 rfl), ?_⟩
    refine ask_run (s5.nth 2 rfl : LkP w4.drew p s F) (by omega) f1 fun w6 F6 h6 m6 o6 => ⟨_, rfl, ?_⟩
    have s6 := s5.step 2 rfl (lk p _ F6) h6 m6 o6
    refine ⟨keepB1 (s5.kept s6 0 0 rfl rfl), ?_⟩
    refine rask_run (s6.nth 1 rfl : RfP w6 q s G) (by omega) f1 fun w7 G7 h7 m7 o7 => ⟨_, rfl, ?_⟩
    have s7 := s6.step 1 rfl (rf q _ G7) h7 m7 o7
    have := askS_len s f1
    exact ⟨keepB1 (s5.kept s7 0 0 rfl rfl), by simp, askS s f1, F6, G7, by omega, s7.pop⟩
  · refine ⟨f1, c1 (s4.nth 0 rfl), ?_⟩
    refine leave_run (s4.nth 2 rfl : LkP w4 p s F) (by omega) f1 fun w6 F6 h6 m6 o6 => ⟨_, _, rfl, ?_⟩
    have s6 := s4.step 2 rfl (lk p _ F6) h6 m6 o6
    refine ⟨f1, c1 (s6.nth 0 rfl), ?_⟩
    refine rleave_run (s6.nth 1 rfl : RfP w6 q s G) (by omega) f1 fun w7 G7 h7 m7 o7 => ⟨_, _, rfl, ?_⟩
    have s7 := s6.step 1 rfl (rf q _ G7) h7 m7 o7
    have := leaveS_len s f1
    exact ⟨fun _ => ⟨by simp, leaveS s f1, F6, G7, by omega, s7.pop⟩, fun h => absurd rfl h⟩
  · refine ⟨f1, c1 (s4.nth 0 rfl), ?_⟩
    refine gone_run (s4.nth 2 rfl : LkP w4 p s F) (by omega) f1 fun w6 F6 h6 m6 o6 => ⟨rfl, ?_⟩
    have s6 := s4.step 2 rfl (lk p _ F6) h6 m6 o6
    refine ⟨f1, c1 (s6.nth 0 rfl), ?_⟩
    refine rgone_run (s6.nth 1 rfl : RfP w6 q s G) (by omega) f1 fun w7 G7 h7 m7 o7 => ⟨rfl, ?_⟩
    have s7 := s6.step 1 rfl (rf q _ G7) h7 m7 o7
    have := goneS_len s f1
    exact ⟨rfl, goneS s f1, F6, G7, by omega, s7.pop⟩

end Go.Proofs
