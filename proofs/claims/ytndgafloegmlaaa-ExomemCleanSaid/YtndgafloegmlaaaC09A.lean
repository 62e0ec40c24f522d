/-
  Layer 9: what all its statements use: a deed with both kernels; awake.
  Layer 9: kernels that are none; shared frames; one holder; all gone.
-/
import Derived.Test.YtndgafloegmlaaaP9A
import Derived.Test.YtndgafloegmlaaaDenB
set_option linter.unusedSimpArgs false
namespace Go.Proofs
open Go Go.Den

theorem do_run {w0 w : World} {p q : Nat} {s : S9} {F G : List Nat} {y : Part} {rest : List Part} (hs : Sep w0 w (y :: krPart q s G :: kpPart p s F :: rest)) (hS : Small s.c) (d0 d1 d2 d3 d4 : Int) (d5 : Bool) (d6 d7 : Int) (h6 : 0 ≤ d6) {K : Value → World → Prop}
    (hK : ∀ w' F' G', Sep w0 w' (y :: krPart q (do9 s ⟨d0, d1, d2, d3, d4, d5, d6, d7⟩) G' :: kpPart p (do9 s ⟨d0, d1, d2, d3, d4, d5, d6, d7⟩) F' :: rest) → K (.bool true) w') :
    CallsR Try.prog F_januslaw09_do #[.pointer (some ⟨p, 0, none⟩), .pointer (some ⟨q, 0, none⟩), .agg #[.int .i64 d0, .int .i64 d1, .int .i64 d2, .int .i64 d3, .int .i64 d4, .bool d5, .int .u64 d6, .int .u64 d7]] w K := by
  apply R_januslaw09_do_ok
  simp only [R_januslaw09_do, spl_beq, nilK_some, addr_add, Nat.zero_add]
  refine hs.new fun b w1 s1 m1 hb => ⟨d0, s1.cell 0 rfl rfl, fun e0 => ?_, fun n0 => ⟨fun e1 => ?_, fun n1 => ⟨fun e2 => ?_, fun n2 => ⟨fun e3 => ?_, fun n3 => ⟨fun e4 => ?_, fun n4 => ⟨fun e5 => ?_, fun n5 => ⟨fun e6 => ?_, fun n6 => ⟨fun e7 => ?_, fun n7 => ⟨fun e8 => ?_, fun n8 => ⟨fun e9 => ?_, fun n9 => ⟨fun e10 => ?_, fun n10 => ?_⟩⟩⟩⟩⟩⟩⟩⟩⟩⟩⟩
  · have eS : do9 s ⟨d0, d1, d2, d3, d4, d5, d6, d7⟩ = allocS s d1 := by simp [do9, e0]
    rw [eS] at hK
    refine ⟨d1, s1.cell 0 rfl rfl, ?_⟩
    refine kp_alloc (s1.nth 3 rfl : KP w1 p s F) d1 fun w2 F2 h2 m2 o2 => ⟨_, _, rfl, ?_⟩
    have s2 := s1.step 3 rfl (kpPart p _ F2) h2 m2 o2
    refine ⟨d1, s2.cell 0 rfl rfl, ?_⟩
    refine kr_alloc (s2.nth 2 rfl : KR w2 q s G) hS d1 fun w3 G3 h3 m3 o3 => ⟨_, _, rfl, fun _ => ?_, fun h => absurd rfl h⟩
    have s3 := s2.step 2 rfl (krPart q _ G3) h3 m3 o3
    rw [beq_self_eq_true]
    exact hK w3 F2 G3 s3.pop
  · have eS : do9 s ⟨d0, d1, d2, d3, d4, d5, d6, d7⟩ = grantS s d1 d2 d3 d4 := by simp [do9, e1]
    rw [eS] at hK
    refine ⟨d1, s1.cell 0 rfl rfl, d2, s1.cell 0 rfl rfl, d3, s1.cell 0 rfl rfl, d4, s1.cell 0 rfl rfl, ?_⟩
    refine kp_grant (s1.nth 3 rfl : KP w1 p s F) d1 d2 d3 d4 fun w2 F2 h2 m2 o2 => ⟨_, _, rfl, ?_⟩
    have s2 := s1.step 3 rfl (kpPart p _ F2) h2 m2 o2
    rw [drK_eq]
    have s2 := s2.mod0 ((Mod.refl [] w2).drew)
    generalize w2.drew = w2 at s2 ⊢
    obtain ⟨pc, hpc, hgo⟩ := kr_grant (s2.nth 2 rfl : KR w2 q s G) hS d1 d2 d3 d4 (K := fun v40 w41 => ∃ (rr042 rr143 : Int), v40 = .tuple #[.int .i64 rr042, .int .i64 rr143] ∧ (((giveV8 s.c d1 d2 d3 d4).1 = rr042 → K (.bool ((giveV8 s.c d1 d2 d3 d4).2 == rr143)) w41) ∧ ((giveV8 s.c d1 d2 d3 d4).1 ≠ rr042 → K (.bool false) w41))) fun w3 G3 h3 m3 o3 => ⟨_, _, rfl, fun _ => by rw [beq_self_eq_true]; exact hK w3 F2 G3 (s2.step 2 rfl (krPart q _ G3) h3 m3 o3).pop, fun h => absurd rfl h⟩
    exact ⟨[q, b], by simp, _, hpc, by simp, d1, s2.cell 0 rfl rfl, by simp, d2, s2.cell 0 rfl rfl, by simp, d3, s2.cell 0 rfl rfl, by simp, d4, s2.cell 0 rfl rfl, hgo⟩
  · have eS : do9 s ⟨d0, d1, d2, d3, d4, d5, d6, d7⟩ = freeS s d1 d2 := by simp [do9, e2]
    rw [eS] at hK
    rw [drK_eq]
    have s1 := s1.mod0 ((Mod.refl [] w1).drew)
    generalize w1.drew = w1 at s1 ⊢
    refine ⟨[b], by simp, d1, s1.cell 0 rfl rfl, by simp, d2, s1.cell 0 rfl rfl, by simp, d1, s1.cell 0 rfl rfl, by simp, d2, s1.cell 0 rfl rfl, ?_⟩
    refine kp_free (s1.nth 3 rfl : KP w1 p s F) d1 d2 fun w2 F2 h2 m2 o2 => ⟨_, rfl, ?_⟩
    have s2 := s1.step 3 rfl (kpPart p _ F2) h2 m2 o2
    refine ⟨keepB1 (s1.kept s2 0 0 rfl rfl), ?_⟩
    refine kr_free (s2.nth 2 rfl : KR w2 q s G) hS d1 d2 fun w3 G3 h3 m3 o3 => ⟨_, rfl, ?_⟩
    have s3 := s2.step 2 rfl (krPart q _ G3) h3 m3 o3
    rw [beq_self_eq_true]
    exact hK w3 F2 G3 s3.pop
  · have eS : do9 s ⟨d0, d1, d2, d3, d4, d5, d6, d7⟩ = revS s d1 d2 := by simp [do9, e3]
    rw [eS] at hK
    rw [drK_eq]
    have s1 := s1.mod0 ((Mod.refl [] w1).drew)
    generalize w1.drew = w1 at s1 ⊢
    refine ⟨[b], by simp, d1, s1.cell 0 rfl rfl, by simp, d2, s1.cell 0 rfl rfl, by simp, d1, s1.cell 0 rfl rfl, by simp, d2, s1.cell 0 rfl rfl, ?_⟩
    refine kp_revoke (s1.nth 3 rfl : KP w1 p s F) d1 d2 fun w2 F2 h2 m2 o2 => ⟨_, rfl, ?_⟩
    have s2 := s1.step 3 rfl (kpPart p _ F2) h2 m2 o2
    refine ⟨keepB1 (s1.kept s2 0 0 rfl rfl), ?_⟩
    refine kr_revoke (s2.nth 2 rfl : KR w2 q s G) hS d1 d2 fun w3 G3 h3 m3 o3 => ⟨_, rfl, ?_⟩
    have s3 := s2.step 2 rfl (krPart q _ G3) h3 m3 o3
    rw [beq_self_eq_true]
    exact hK w3 F2 G3 s3.pop
  · have eS : do9 s ⟨d0, d1, d2, d3, d4, d5, d6, d7⟩ = mapS s d1 d4 d2 d5 := by simp [do9, e4]
    rw [eS] at hK
    rw [drK_eq]
    have s1 := s1.mod0 ((Mod.refl [] w1).drew)
    generalize w1.drew = w1 at s1 ⊢
    refine ⟨[b], by simp, d1, s1.cell 0 rfl rfl, by simp, d4, s1.cell 0 rfl rfl, by simp, d2, s1.cell 0 rfl rfl, by simp, d5, s1.cell 0 rfl rfl, by simp, d1, s1.cell 0 rfl rfl, by simp, d4, s1.cell 0 rfl rfl, by simp, d2, s1.cell 0 rfl rfl, by simp, d5, s1.cell 0 rfl rfl, ?_⟩
    refine kp_map (s1.nth 3 rfl : KP w1 p s F) d1 d4 d2 d5 fun w2 h2 m2 => ⟨_, rfl, ?_⟩
    have s2 := s1.turn 3 rfl (kpPart p _ F) h2 m2
    refine ⟨keepB1 (s1.kept s2 0 0 rfl rfl), ?_⟩
    refine kr_map (s2.nth 2 rfl : KR w2 q s G) hS d1 d4 d2 d5 fun w3 h3 m3 => ⟨_, rfl, ?_⟩
    have s3 := s2.turn 2 rfl (krPart q _ G) h3 m3
    rw [beq_self_eq_true]
    exact hK w3 F G s3.pop
  · have eS : do9 s ⟨d0, d1, d2, d3, d4, d5, d6, d7⟩ = unmapS s d1 d4 := by simp [do9, e5]
    rw [eS] at hK
    rw [drK_eq]
    have s1 := s1.mod0 ((Mod.refl [] w1).drew)
    generalize w1.drew = w1 at s1 ⊢
    refine ⟨[b], by simp, d1, s1.cell 0 rfl rfl, by simp, d4, s1.cell 0 rfl rfl, by simp, d1, s1.cell 0 rfl rfl, by simp, d4, s1.cell 0 rfl rfl, ?_⟩
    refine kp_unmap (s1.nth 3 rfl : KP w1 p s F) d1 d4 fun w2 h2 m2 => ⟨_, rfl, ?_⟩
    have s2 := s1.turn 3 rfl (kpPart p _ F) h2 m2
    refine ⟨keepB1 (s1.kept s2 0 0 rfl rfl), ?_⟩
    refine kr_unmap (s2.nth 2 rfl : KR w2 q s G) d1 d4 fun w3 h3 m3 => ⟨_, rfl, ?_⟩
    have s3 := s2.turn 2 rfl (krPart q _ G) h3 m3
    rw [beq_self_eq_true]
    exact hK w3 F G s3.pop
  · have eS : do9 s ⟨d0, d1, d2, d3, d4, d5, d6, d7⟩ = s := by simp [do9, e6]
    rw [eS] at hK
    refine ⟨d1, s1.cell 0 rfl rfl, d6, s1.cell 0 rfl rfl, ?_⟩
    refine kp_load (s1.nth 3 rfl : KP w1 p s F) d1 h6 fun w2 m2 => ⟨_, _, rfl, ?_⟩
    have s2 := s1.mod0 m2
    refine ⟨d1, s2.cell 0 rfl rfl, d6, s2.cell 0 rfl rfl, ?_⟩
    refine kr_load (s2.nth 2 rfl : KR w2 q s G) d1 h6 fun w3 m3 => ⟨_, _, rfl, fun _ => ?_, fun h => absurd rfl h⟩
    have s3 := s2.mod0 m3
    rw [beq_self_eq_true]
    exact hK w3 F G s3.pop
  · have eS : do9 s ⟨d0, d1, d2, d3, d4, d5, d6, d7⟩ = storeS s d1 d6 d7 := by simp [do9, e7]
    rw [eS] at hK
    rw [drK_eq]
    have s1 := s1.mod0 ((Mod.refl [] w1).drew)
    generalize w1.drew = w1 at s1 ⊢
    refine ⟨[b], by simp, d1, s1.cell 0 rfl rfl, by simp, d6, s1.cell 0 rfl rfl, by simp, d7, s1.cell 0 rfl rfl, by simp, d1, s1.cell 0 rfl rfl, by simp, d6, s1.cell 0 rfl rfl, by simp, d7, s1.cell 0 rfl rfl, ?_⟩
    refine kp_store (s1.nth 3 rfl : KP w1 p s F) d1 h6 d7 fun w2 h2 m2 => ⟨_, rfl, ?_⟩
    have s2 := s1.turn 3 rfl (kpPart p _ F) h2 m2
    refine ⟨keepB1 (s1.kept s2 0 0 rfl rfl), ?_⟩
    refine kr_store (s2.nth 2 rfl : KR w2 q s G) d1 h6 d7 fun w3 h3 m3 => ⟨_, rfl, ?_⟩
    have s3 := s2.turn 2 rfl (krPart q _ G) h3 m3
    rw [beq_self_eq_true]
    exact hK w3 F G s3.pop
  · have eS : do9 s ⟨d0, d1, d2, d3, d4, d5, d6, d7⟩ = copyS s d1 d2 d4 := by simp [do9, e8]
    rw [eS] at hK
    rw [drK_eq]
    have s1 := s1.mod0 ((Mod.refl [] w1).drew)
    generalize w1.drew = w1 at s1 ⊢
    refine ⟨[b], by simp, d1, s1.cell 0 rfl rfl, by simp, d2, s1.cell 0 rfl rfl, by simp, d4, s1.cell 0 rfl rfl, by simp, d1, s1.cell 0 rfl rfl, by simp, d2, s1.cell 0 rfl rfl, by simp, d4, s1.cell 0 rfl rfl, ?_⟩
    refine kp_copy (s1.nth 3 rfl : KP w1 p s F) d1 d2 d4 fun w2 h2 m2 => ⟨_, rfl, ?_⟩
    have s2 := s1.turn 3 rfl (kpPart p _ F) h2 m2
    refine ⟨keepB1 (s1.kept s2 0 0 rfl rfl), ?_⟩
    refine kr_copy (s2.nth 2 rfl : KR w2 q s G) hS d1 d2 d4 fun w3 h3 m3 => ⟨_, rfl, ?_⟩
    have s3 := s2.turn 2 rfl (krPart q _ G) h3 m3
    rw [beq_self_eq_true]
    exact hK w3 F G s3.pop
  · have eS : do9 s ⟨d0, d1, d2, d3, d4, d5, d6, d7⟩ = s := by simp [do9, e9]
    rw [eS] at hK
    refine ⟨d1, s1.cell 0 rfl rfl, d2, s1.cell 0 rfl rfl, d4, s1.cell 0 rfl rfl, ?_⟩
    refine kp_read (s1.nth 3 rfl : KP w1 p s F) d1 d2 d4 fun w2 m2 => ⟨_, _, rfl, ?_⟩
    have s2 := s1.mod0 m2
    refine ⟨d1, s2.cell 0 rfl rfl, d2, s2.cell 0 rfl rfl, d4, s2.cell 0 rfl rfl, ?_⟩
    refine kr_read (s2.nth 2 rfl : KR w2 q s G) hS d1 d2 d4 fun w3 m3 => ⟨_, _, rfl, fun _ => ?_, fun h => absurd rfl h⟩
    have s3 := s2.mod0 m3
    rw [beq_self_eq_true]
    exact hK w3 F G s3.pop
  · have eS : do9 s ⟨d0, d1, d2, d3, d4, d5, d6, d7⟩ = writeS s d1 d2 d4 d7 := by simp [do9, e10]
    rw [eS] at hK
    rw [drK_eq]
    have s1 := s1.mod0 ((Mod.refl [] w1).drew)
    generalize w1.drew = w1 at s1 ⊢
    refine ⟨[b], by simp, d1, s1.cell 0 rfl rfl, by simp, d2, s1.cell 0 rfl rfl, by simp, d4, s1.cell 0 rfl rfl, by simp, d7, s1.cell 0 rfl rfl, by simp, d1, s1.cell 0 rfl rfl, by simp, d2, s1.cell 0 rfl rfl, by simp, d4, s1.cell 0 rfl rfl, by simp, d7, s1.cell 0 rfl rfl, ?_⟩
    refine kp_write (s1.nth 3 rfl : KP w1 p s F) d1 d2 d4 d7 fun w2 h2 m2 => ⟨_, rfl, ?_⟩
    have s2 := s1.turn 3 rfl (kpPart p _ F) h2 m2
    refine ⟨keepB1 (s1.kept s2 0 0 rfl rfl), ?_⟩
    refine kr_write (s2.nth 2 rfl : KR w2 q s G) hS d1 d2 d4 d7 fun w3 h3 m3 => ⟨_, rfl, ?_⟩
    have s3 := s2.turn 2 rfl (krPart q _ G) h3 m3
    rw [beq_self_eq_true]
    exact hK w3 F G s3.pop
  · have eS : do9 s ⟨d0, d1, d2, d3, d4, d5, d6, d7⟩ = goneS s d1 := by simp [do9, n0, n1, n2, n3, n4, n5, n6, n7, n8, n9, n10]
    rw [eS] at hK
    refine ⟨d1, s1.cell 0 rfl rfl, ?_⟩
    refine kp_gone (s1.nth 3 rfl : KP w1 p s F) d1 fun w2 F2 h2 m2 o2 => ⟨rfl, ?_⟩
    have s2 := s1.step 3 rfl (kpPart p _ F2) h2 m2 o2
    refine ⟨d1, s2.cell 0 rfl rfl, ?_⟩
    refine kr_gone (s2.nth 2 rfl : KR w2 q s G) hS d1 fun w3 G3 h3 m3 o3 => ⟨rfl, ?_⟩
    have s3 := s2.step 2 rfl (krPart q _ G3) h3 m3 o3
    exact hK w3 F2 G3 s3.pop

def w1_ : S9 := allocS (init9 3) 1
def w2_ : S9 := mapS w1_ 1 0 1 true
def w3_ : S9 := storeS w2_ 1 3 9
def w4_ : S9 := grantS w3_ 1 1 2 1
def w5_ : S9 := mapS w4_ 2 0 1 true
def w6_ : S9 := mapS w5_ 2 0 1 false
def w7_ : S9 := revS w6_ 1 1
theorem aw_a : allocV (init9 3) 1 = (1, 0) := by kernel_rfl
theorem aw_m : mapV w1_ 1 0 1 true = 0 := by kernel_rfl
theorem aw_s : storeV w2_ 1 3 = 0 := by kernel_rfl
theorem aw_l : loadV w3_ 1 3 = (9, 0) := by kernel_rfl
theorem aw_g : giveV8 w3_.c 1 1 2 1 = (1, 0) := by kernel_rfl
theorem aw_n : mapV w4_ 2 0 1 true = 104 := by kernel_rfl
theorem aw_o : mapV w5_ 2 0 1 false = 0 := by kernel_rfl
theorem aw_p : loadV w6_ 2 3 = (9, 0) := by kernel_rfl
theorem aw_r : (revokeV8 w6_.c 1 1).2 = 0 := by kernel_rfl
theorem aw_t : loadV w7_ 2 3 = (0, 102) := by kernel_rfl
theorem aw_z : left9 w7_ = 2 := by kernel_rfl

theorem awake_run {w : World} {K : Value → World → Prop} (hK : ∀ w', Mod [] w w' → K (.bool true) w') : CallsR Try.prog F_januslaw09_awake #[] w K := by
  apply R_januslaw09_awake_ok
  simp only [R_januslaw09_awake]
  refine kp_new 3 w (fun h => by omega) fun k p F1 u1 hk _ _ h1 m1 b1 => ⟨_, rfl, spl_f rfl ?_⟩
  obtain rfl : k = 3 := by omega
  have s1 := (Sep.nil (Mod.refl [] w)).push (kpPart p _ F1) m1 h1 b1
  refine kp_alloc (s1.nth 0 rfl : KP u1 p _ F1) 1 fun u2 F2 h2 m2 o2 => ⟨_, _, rfl, ?_⟩
  have s2 := s1.step 0 rfl (kpPart p w1_ F2) h2 m2 o2
  refine kp_map (s2.nth 0 rfl : KP u2 p w1_ F2) 1 0 1 true fun u3 h3 m3 => ⟨_, rfl, ?_⟩
  have s3 := s2.turn 0 rfl (kpPart p w2_ F2) h3 m3
  refine kp_store (s3.nth 0 rfl : KP u3 p w2_ F2) 1 (by decide) 9 fun u4 h4 m4 => ⟨_, rfl, ?_⟩
  have s4 := s3.turn 0 rfl (kpPart p w3_ F2) h4 m4
  refine kp_load (s4.nth 0 rfl : KP u4 p w3_ F2) 1 (by decide) fun u5 m5 => ⟨_, _, rfl, ?_⟩
  have s5 := s4.mod0 m5
  refine kp_grant (s5.nth 0 rfl : KP u5 p w3_ F2) 1 1 2 1 fun u6 F6 h6 m6 o6 => ⟨_, _, rfl, ?_⟩
  have s6 := s5.step 0 rfl (kpPart p w4_ F6) h6 m6 o6
  refine kp_map (s6.nth 0 rfl : KP u6 p w4_ F6) 2 0 1 true fun u7 h7 m7 => ⟨_, rfl, ?_⟩
  have s7 := s6.turn 0 rfl (kpPart p w5_ F6) h7 m7
  refine kp_map (s7.nth 0 rfl : KP u7 p w5_ F6) 2 0 1 false fun u8 h8 m8 => ⟨_, rfl, ?_⟩
  have s8 := s7.turn 0 rfl (kpPart p w6_ F6) h8 m8
  refine kp_load (s8.nth 0 rfl : KP u8 p w6_ F6) 2 (by decide) fun u9 m9 => ⟨_, _, rfl, ?_⟩
  have s9 := s8.mod0 m9
  refine kp_revoke (s9.nth 0 rfl : KP u9 p w6_ F6) 1 1 fun u10 F10 h10 m10 o10 => ⟨_, rfl, ?_⟩
  have s10 := s9.step 0 rfl (kpPart p w7_ F10) h10 m10 o10
  refine kp_load (s10.nth 0 rfl : KP u10 p w7_ F10) 2 (by decide) fun u11 m11 => ⟨_, _, rfl, ?_⟩
  have s11 := s10.mod0 m11
  rw [aw_a, aw_m, aw_s, aw_l, aw_g, aw_n, aw_o, aw_p, aw_r, aw_t]
  refine spl_t rfl (spl_t rfl (spl_t rfl (spl_t rfl (spl_t rfl (spl_t rfl (spl_t rfl (spl_t rfl (spl_t rfl (spl_t rfl (spl_t rfl (spl_t rfl (spl_t rfl (spl_t rfl ?_)))))))))))))
  refine kp_left (s11.nth 0 rfl : KP u11 p w7_ F10) fun u12 m12 => ⟨_, rfl, ?_⟩
  rw [aw_z]
  exact hK u12 (s11.mod0 m12).mod

theorem fin_run {w0 w : World} (h : Mod [] w0 w) : CallsR Try.prog F_januslaw09_awake #[] w fun v w' => ∃ r : Bool, v = .bool r ∧ (Value.bool r = .bool true ∧ Mod [] w0 w') :=
  awake_run fun w' m => ⟨true, rfl, rfl, h.trans' m⟩

end Go.Proofs

set_option linter.unusedSimpArgs false
namespace Go.Proofs
open Go Go.Den

theorem ntable (e : Int) {w : World} {K : Value → World → Prop} (hK : K (.pointer none) w) : CallsR Try.prog F_exomem_Kernel_table #[.pointer none, .int .i64 e] w K := by
  apply R_exomem_Kernel_table_ok
  unfold R_exomem_Kernel_table
  exact spl_t rfl hK
theorem nat_ (k : Int) {w : World} {K : Value → World → Prop} (hK : ∀ w', Mod [] w w' → K (.tuple #[.agg #[.int .i64 0, .bool false], .bool false]) w') : CallsR Try.prog F_mmu_Table_At #[.pointer none, .int .i64 k] w K := by
  apply R_mmu_Table_At_ok
  simp only [R_mmu_Table_At, Option.isNone_none, spl_true]
  exact (Sep.nil (Mod.refl [] w)).new fun b w1 s1 m1 hb => s1.st0 0 rfl rfl fun w2 s2 m2 => ⟨_, _, ⟨s2.cell 0 rfl rfl, s2.cell 0 rfl rfl⟩, hK w2 s2.mod⟩
theorem npage (e k : Int) {w : World} {K : Value → World → Prop} (hK : ∀ w', Mod [] w w' → K (.tuple #[.agg #[.int .i64 0, .bool false], .bool false]) w') : CallsR Try.prog F_exomem_Kernel_Page #[.pointer none, .int .i64 e, .int .i64 k] w K := by
  apply R_exomem_Kernel_Page_ok
  simp only [R_exomem_Kernel_Page]
  refine (Sep.nil (Mod.refl [] w)).new fun b w1 s1 m1 hb => ntable e ⟨_, rfl, nat_ k fun w2 m2 => ⟨_, _, _, rfl, ?_⟩⟩
  have s2 := s1.mod0 m2
  exact s2.st0 0 rfl rfl fun w3 s3 m3 => ⟨_, _, ⟨s3.cell 0 rfl rfl, s3.cell 0 rfl rfl⟩, hK w3 s3.mod⟩

theorem none_run (w : World) (d0 d1 d2 d3 d4 : Int) (d5 : Bool) (d6 d7 : Int) (_ : (Lit.int .i64 d0).wf = true) (_ : (Lit.int .i64 d1).wf = true) (_ : (Lit.int .i64 d2).wf = true) (_ : (Lit.int .i64 d3).wf = true) (_ : (Lit.int .i64 d4).wf = true) (_ : (Lit.int .u64 d6).wf = true) (_ : (Lit.int .u64 d7).wf = true) :
    CallsR Try.prog F_januslaw09_ExomemNone #[.agg #[.int .i64 d0, .int .i64 d1, .int .i64 d2, .int .i64 d3, .int .i64 d4, .bool d5, .int .u64 d6, .int .u64 d7]] w fun v w' => v = .bool true ∧ Mod [] w w' := by
  apply R_januslaw09_ExomemNone_ok
  simp only [R_januslaw09_ExomemNone, spl_beq]
  refine (Sep.nil (Mod.refl [] w)).new fun b w1 s1 m1 hb => ⟨_, s1.cell 0 rfl rfl, ?_⟩
  apply R_exomem_Kernel_Alloc_ok
  unfold R_exomem_Kernel_Alloc
  refine ntable _ ⟨_, rfl, spl_t rfl ⟨_, _, rfl, _, s1.cell 0 rfl rfl, _, s1.cell 0 rfl rfl, _, s1.cell 0 rfl rfl, _, s1.cell 0 rfl rfl, ?_⟩⟩
  apply R_exomem_Kernel_Grant_ok
  unfold R_exomem_Kernel_Grant
  refine spl_t rfl ⟨_, _, rfl, _, s1.cell 0 rfl rfl, _, s1.cell 0 rfl rfl, ?_⟩
  apply R_exomem_Kernel_Load_ok
  unfold R_exomem_Kernel_Load
  refine ntable _ ⟨_, rfl, spl_t rfl ⟨_, _, rfl, _, s1.cell 0 rfl rfl, _, s1.cell 0 rfl rfl, _, s1.cell 0 rfl rfl, ?_⟩⟩
  apply R_exomem_Kernel_Read_ok
  unfold R_exomem_Kernel_Read
  refine spl_t rfl ⟨_, _, rfl, _, s1.cell 0 rfl rfl, _, s1.cell 0 rfl rfl, ?_⟩
  refine npage _ _ fun w2 m2 => ⟨_, _, _, rfl, ?_⟩
  have s2 := s1.mod0 m2
  refine s2.new fun b3 w3 s3 m3 hb3 => s3.st0 0 rfl rfl fun w4 s4 m4 => ⟨_, s4.cell 1 rfl rfl, ?_⟩
  apply R_exomem_Kernel_Gone_ok
  unfold R_exomem_Kernel_Gone
  refine spl_f rfl ⟨rfl, ?_⟩
  refine ⟨fun b w' => b = true ∧ w' = w4, ?_, fun _ => ⟨fun _ => ⟨fun _ => ⟨fun _ => ⟨rfl, rfl⟩, fun h => absurd rfl h⟩, fun h => absurd rfl h⟩, fun h => absurd rfl h⟩, fun h => absurd rfl h⟩
  rintro b - w' ⟨rfl, rfl⟩
  have c : ∀ {j : Nat} {v : Value}, (#[.int .i64 d0, .int .i64 d1, .int .i64 d2, .int .i64 d3, .int .i64 d4, .bool d5, .int .u64 d6, .int .u64 d7] : Array Value)[j]? = some v → w'.cell? ⟨_, j, none⟩ = some v := fun h => s4.cell 1 rfl h
  refine spl_t rfl ⟨_, s4.cell 1 rfl rfl, _, s4.cell 1 rfl rfl, ?_⟩
  apply R_exomem_Kernel_Free_ok
  unfold R_exomem_Kernel_Free
  refine spl_t rfl ⟨_, rfl, fun _ => ⟨_, s4.cell 1 rfl rfl, _, s4.cell 1 rfl rfl, ?_⟩, fun h => absurd rfl h⟩
  apply R_exomem_Kernel_Revoke_ok
  unfold R_exomem_Kernel_Revoke
  refine spl_t rfl ⟨_, rfl, fun _ => ⟨_, s4.cell 1 rfl rfl, _, s4.cell 1 rfl rfl, _, s4.cell 1 rfl rfl, _, s4.cell 1 rfl rfl, ?_⟩, fun h => absurd rfl h⟩
  apply R_exomem_Kernel_Map_ok
  unfold R_exomem_Kernel_Map
  refine ntable _ ⟨_, rfl, spl_t rfl ⟨_, rfl, fun _ => ⟨_, s4.cell 1 rfl rfl, _, s4.cell 1 rfl rfl, ?_⟩, fun h => absurd rfl h⟩⟩
  apply R_exomem_Kernel_Unmap_ok
  unfold R_exomem_Kernel_Unmap
  refine ntable _ ⟨_, rfl, spl_t rfl ⟨_, rfl, fun _ => ⟨_, s4.cell 1 rfl rfl, _, s4.cell 1 rfl rfl, _, s4.cell 1 rfl rfl, ?_⟩, fun h => absurd rfl h⟩⟩
  apply R_exomem_Kernel_Store_ok
  unfold R_exomem_Kernel_Store
  refine ntable _ ⟨_, rfl, spl_t rfl ⟨_, rfl, fun _ => ⟨_, s4.cell 1 rfl rfl, _, s4.cell 1 rfl rfl, _, s4.cell 1 rfl rfl, ?_⟩, fun h => absurd rfl h⟩⟩
  apply R_exomem_Kernel_Copy_ok
  unfold R_exomem_Kernel_Copy
  refine spl_t rfl ⟨_, rfl, fun _ => ⟨_, s4.cell 1 rfl rfl, _, s4.cell 1 rfl rfl, _, s4.cell 1 rfl rfl, _, s4.cell 1 rfl rfl, ?_⟩, fun h => absurd rfl h⟩
  apply R_exomem_Kernel_Write_ok
  unfold R_exomem_Kernel_Write
  refine spl_t rfl ⟨_, rfl, fun _ => ?_, fun h => absurd rfl h⟩
  apply R_exomem_Kernel_Left_ok
  unfold R_exomem_Kernel_Left
  refine spl_t rfl ⟨_, rfl, fun _ => ⟨_, s4.cell 1 rfl rfl, _, s4.cell 1 rfl rfl, ?_⟩, fun h => absurd rfl h⟩
  apply R_exomem_Kernel_Refs_ok
  unfold R_exomem_Kernel_Refs
  refine spl_t rfl ⟨_, rfl, fun _ => ⟨_, s4.cell 1 rfl rfl, _, s4.cell 1 rfl rfl, ?_⟩, fun h => absurd rfl h⟩
  apply R_exomem_Kernel_Slot_ok
  unfold R_exomem_Kernel_Slot
  exact spl_t rfl ⟨_, rfl, fun _ => fin_run s4.mod, fun h => absurd rfl h⟩

def z32 : List Int := List.replicate 32 0
def gd1 : S9 := ⟨List.replicate 6 z32, ⟨[⟨1, 0, 0, 1, ⟨1, 0, 1, 7⟩⟩], 1⟩, fun _ _ => none⟩
def gd2 (v : Int) : S9 := ⟨(List.replicate 6 z32).set 0 (z32.set 7 v), ⟨[⟨1, 0, 0, 1, ⟨1, 0, 1, 7⟩⟩], 1⟩, fun _ _ => none⟩
theorem gd_a : allocS (init9 6) 0 = gd1 ∧ allocV (init9 6) 0 = (1, 0) := ⟨by kernel_rfl, by kernel_rfl⟩
theorem gd_w (v : Int) : writeS gd1 0 1 7 v = gd2 v ∧ writeV gd1 0 1 7 = 0 := ⟨by kernel_rfl, by kernel_rfl⟩
theorem gd_hold (v : Int) : Hold (z32.set 7 v) (gd2 v) :=
  ⟨⟨⟨1, 0, 0, 1, ⟨1, 0, 1, 7⟩⟩, by simp [gd2], rfl, rfl, rfl, rfl, fun c hc hne => absurd (by simpa [gd2] using hc) hne⟩, fun e _ _ p x h => (by cases h), by kernel_rfl⟩

theorem guards_run (w : World) (a : Option Addr) (l c : Nat) (hin : SlIn w 8 Q_januslaw09_Deed a l c) (v : Int) (_hv : (Lit.int .u64 v).wf = true) : CallsR Try.prog F_januslaw09_ExomemGuards #[.slice a l c, .int .u64 v] w fun v w' => v = .bool true ∧ Mod [] w w' := by
  apply R_januslaw09_ExomemGuards_ok
  simp only [R_januslaw09_ExomemGuards, spl_decide, spl_bne, spl_beq]
  refine kp_new 6 w (fun h => by omega) fun k p F1 w1 hk _ _ h1 m1 b1 => ⟨_, rfl, spl_f rfl ?_⟩
  obtain rfl : k = 6 := by omega
  have s1 := (Sep.nil (Mod.refl [] w)).push (kpPart p _ F1) m1 h1 b1
  refine kp_alloc (s1.nth 0 rfl : KP w1 p _ F1) 0 fun w2 F2 h2 m2 o2 => ⟨_, _, rfl, ?_⟩
  rw [gd_a.1] at h2
  rw [gd_a.2]
  have s2 := s1.step 0 rfl (kpPart p _ F2) h2 m2 o2
  refine ⟨fun h => absurd rfl h, fun _ => ?_⟩
  refine kp_write (s2.nth 0 rfl : KP w2 p _ F2) 0 1 7 v fun w3 h3 m3 => ⟨_, rfl, ?_⟩
  rw [(gd_w v).1] at h3
  rw [(gd_w v).2]
  have s3 := s2.turn 0 rfl (kpPart p _ F2) h3 m3
  refine ⟨fun h => absurd rfl h, fun _ => ?_⟩
  refine kr_new 6 w3 (fun h => by omega) fun k q G1 w4 hk _ _ h4 m4 b4 => ⟨_, rfl, ?_⟩
  obtain rfl : k = 6 := by omega
  have s4 := s3.push (krPart q _ G1) m4 h4 b4
  refine kr_alloc (s4.nth 0 rfl : KR w4 q _ G1) ⟨by decide, by decide⟩ 0 fun w5 G5 h5 m5 o5 => ⟨_, _, rfl, ?_⟩
  rw [gd_a.1] at h5
  have s5 := s4.step 0 rfl (krPart q _ G5) h5 m5 o5
  refine kr_write (s5.nth 0 rfl : KR w5 q _ G5) ⟨by decide, by decide⟩ 0 1 7 v fun w6 h6 m6 => ⟨_, rfl, ?_⟩
  rw [(gd_w v).1] at h6
  have s6 := s5.turn 0 rfl (krPart q _ G5) h6 m6
  refine ⟨fun w' => Mod [] w w', fun _ w' hm => fin_run hm, ?_⟩
  have hlle := hin.le
  refine ⟨fun n i w' => ∃ (k : Nat) (s : S9) (F G : List Nat), i = k ∧ k ≤ l ∧ k ≤ 100 ∧ n = l - k ∧ s.c.L.length ≤ k + 1 ∧ s.c.last ≤ k + 1 ∧ Hold (z32.set 7 v) s ∧ Sep w w' [krPart q s G, kpPart p s F], ⟨l, 0, gd2 v, F2, G5, rfl, by omega, by omega, rfl, by simp [gd2], by simp [gd2], gd_hold v, s6⟩, ?_⟩
  clear s1 s2 s3 s4 s5 s6 h1 h2 h3 h4 h5 h6 m1 m2 m3 m4 m5 m6 b1 b4 o2 o5
  rintro n i - w3 ⟨k, s, F, G, rfl, hk, hk1, rfl, hsL, hsl, hH, s3⟩
  refine ⟨fun hlt => ⟨fun h100 => ?_, fun _ => s3.mod⟩, fun _ => s3.mod⟩
  have hkl : k < l := by omega
  obtain ⟨ad, cs, rfl, hadlt, ⟨d0, d1, d2, d3, d4, d5, d6, d7, rfl, f0, f1, f2, f3, f4, f6, f7⟩, -, hcell⟩ := hin.at hkl
  have cell : ∀ j v, j < 8 → [Value.int .i64 d0, .int .i64 d1, .int .i64 d2, .int .i64 d3, .int .i64 d4, .bool d5, .int .u64 d6, .int .u64 d7][j]? = some v → w3.cell? (Addr.add (Addr.add ad (k * 8)) j) = some v := fun j v hj hv => by
    rw [← hv, ← hcell j hj]
    exact s3.mod.cell (by rw [add_block, add_block]; exact hadlt)
  simp only [nilK_some, Int.toNat_natCast]
  refine ⟨fun w' => ∃ (s : S9) (F G : List Nat), s.c.L.length ≤ k + 2 ∧ s.c.last ≤ k + 2 ∧ Hold (z32.set 7 v) s ∧ Sep w w' [krPart q s G, kpPart p s F], ?_, ⟨by omega, by omega⟩, d1, cell 1 _ (by decide) rfl, fun hne => ?_, fun _ => ⟨s, F, G, by omega, by omega, hH, s3⟩⟩
  · rintro - w4 ⟨s, F, G, hsL, hsl, hH, s4⟩
    have hw8 := (s4.nth 1 rfl : KP w4 p s F).w8
    refine ⟨fun n i w' => ∃ j : Nat, i = j ∧ j ≤ 32 ∧ n = 32 - j ∧ Sep w w' [krPart q s G, kpPart p s F], ⟨32, 0, rfl, by omega, rfl, s4⟩, ?_⟩
    rintro n i - w5 ⟨j, rfl, hj, rfl, s5⟩
    refine ⟨fun hlt => ?_, fun hge => ⟨l - (k + 1), by omega, k + 1, s, F, G, by rw [w64 (by omega) (by omega)]; omega, by omega, by omega, rfl, by omega, by omega, hH, s5⟩⟩
    refine ⟨fun w' => Sep w w' [krPart q s G, kpPart p s F], fun _ w' s' => ⟨32 - (j + 1), by omega, j + 1, by rw [w64 (by omega) (by omega)]; omega, by omega, rfl, s'⟩, ?_⟩
    refine kp_read (s5.nth 1 rfl : KP w5 p s F) 0 1 j fun w6 m6 => ⟨_, _, rfl, ?_⟩
    rw [hH.read hw8 (by simp [z32]) (by omega)]
    have s6 := s5.mod0 m6
    have hz : ∀ i : Nat, i < 32 → i ≠ 7 → ((z32.set 7 v)[i]?).getD 0 = 0 := fun i hi hne => by rw [List.getElem?_set, if_neg (Ne.symm hne)]; unfold z32; rw [List.getElem?_replicate, if_pos hi]; rfl
    have h7v : ((z32.set 7 v)[7]?).getD 0 = v := by simp [z32]
    refine ⟨fun h => absurd rfl h, fun _ => ⟨fun h7 => ⟨fun h => ?_, fun _ => ⟨fun h => absurd h7 h, fun _ => s6⟩⟩, fun h7 => ⟨fun _ => ⟨fun h => ?_, fun _ => s6⟩, fun h => absurd h h7⟩⟩⟩
    · have : j = 7 := by omega
      subst this
      exact absurd h7v h
    · exact absurd (hz j (by omega) (by omega)) h
  · refine ⟨⟨by omega, by omega⟩, d0, d1, d2, d3, d4, d5, d6, d7, ⟨by have := cell 0 _ (by decide) rfl; rwa [add_zero] at this, cell 1 _ (by decide) rfl, cell 2 _ (by decide) rfl, cell 3 _ (by decide) rfl, cell 4 _ (by decide) rfl, cell 5 _ (by decide) rfl, cell 6 _ (by decide) rfl, cell 7 _ (by decide) rfl⟩, ?_⟩
    have hw8 := (s3.nth 1 rfl : KP w3 p s F).w8
    have s3' := s3.push (sl none 0 0 1 [] []) (Mod.refl [] w3) (SlB.nil w3 1) (by simp [sl, Beyond])
    have hlen := do9_len s ⟨d0, d1, d2, d3, d4, d5, d6, d7⟩
    refine do_run s3' ⟨by omega, by omega⟩ d0 d1 d2 d3 d4 d5 d6 d7 (u64_bounds f6).1 fun w4 F4 G4 s4 => ⟨_, rfl, _, F4, G4, by have := hlen.1; omega, by have := hlen.2; omega, hH.do_ hw8 hne, s4.pop⟩

theorem clean_run (w : World) (a : Option Addr) (l c : Nat) (hin : SlIn w 8 Q_januslaw09_Deed a l c) : CallsR Try.prog F_januslaw09_ExomemClean #[.slice a l c] w fun v w' => v = .bool true ∧ Mod [] w w' := by
  apply R_januslaw09_ExomemClean_ok
  simp only [R_januslaw09_ExomemClean, spl_decide, spl_bne, spl_beq]
  refine kp_new 4 w (fun h => by omega) fun k p F1 w1 hk _ _ h1 m1 b1 => ⟨_, rfl, ?_⟩
  obtain rfl : k = 4 := by omega
  have s1 := (Sep.nil (Mod.refl [] w)).push (kpPart p _ F1) m1 h1 b1
  refine kr_new 4 w1 (fun h => by omega) fun k q G1 w2 hk _ _ h2 m2 b2 => ⟨_, rfl, spl_f rfl ?_⟩
  obtain rfl : k = 4 := by omega
  have s2 := s1.push (krPart q _ G1) m2 h2 b2
  have hlle := hin.le
  refine ⟨fun w' => ∃ (s : S9) (F : List Nat), s.m.length = 4 ∧ Sep w w' [kpPart p s F], ?_, ?_⟩
  · rintro - w3 ⟨s, F, hm4, s3⟩
    have hw8 := (s3.nth 0 rfl : KP w3 p s F).w8
    refine ⟨fun n e w' => ∃ (j : Nat) (F : List Nat), e = j ∧ j ≤ 12 ∧ n = 12 - j ∧ Sep w w' [kpPart p (allGone s j) F], ⟨12, 0, F, rfl, by omega, rfl, s3⟩, ?_⟩
    rintro n e - w4 ⟨j, F4, rfl, hj, rfl, s4⟩
    refine ⟨fun hlt => ?_, fun hge => ?_⟩
    · refine kp_gone (s4.nth 0 rfl : KP w4 p _ F4) j fun w5 F5 h5 m5 o5 => ⟨rfl, 12 - (j + 1), by omega, j + 1, F5, by rw [w64 (by omega) (by omega)]; omega, by omega, rfl, ?_⟩
      have e1 : allGone s (j + 1) = goneS (allGone s j) (j : Nat) := by rw [allGone]
      rw [e1]
      exact s4.step 0 rfl (kpPart p _ F5) h5 m5 o5
    · obtain rfl : j = 12 := by omega
      have hnil := allGone_nil hw8
      have hlen : (allGone s 12).m.length = 4 := by rw [allGone_m]; exact hm4
      generalize allGone s 12 = s' at s4 hnil hlen
      have hcl := cl_nil hnil
      refine kp_left (s4.nth 0 rfl : KP w4 p _ F4) fun w5 m5 => ⟨_, rfl, fun h => ?_, fun _ => ?_⟩
      · rw [cl_left hcl hlen] at h; exact absurd rfl h
      have s5 := s4.mod0 m5
      refine ⟨fun n i w' => ∃ (j : Nat) (s : S9) (F : List Nat), i = j ∧ j ≤ 4 ∧ n = 4 - j ∧ s.c = cl s'.c.last j ∧ s.m.length = 4 ∧ Sep w w' [kpPart p s F], ⟨4, 0, s', F4, rfl, by omega, rfl, hcl, hlen, s5⟩, ?_⟩
      rintro n i - w6 ⟨j, s6', F6, rfl, hj, rfl, hc6, hm6, s6⟩
      obtain ⟨g1, g2⟩ := cl_alloc hc6 hm6 hj
      refine ⟨fun hlt => ?_, fun hge => ?_⟩
      · obtain ⟨e1, e2, e3, e4⟩ := g1 (by omega)
        refine kp_alloc (s6.nth 0 rfl : KP w6 p _ F6) 5 fun w7 F7 h7 m7 o7 => ⟨_, _, rfl, ?_⟩
        have s7 := s6.step 0 rfl (kpPart p _ F7) h7 m7 o7
        rw [e3]
        refine ⟨fun h => absurd rfl h, fun _ => ?_⟩
        refine ⟨fun n i w' => ∃ d : Nat, i = d ∧ d ≤ 32 ∧ n = 32 - d ∧ Sep w w' [kpPart p (allocS s6' 5) F7], ⟨32, 0, rfl, by omega, rfl, s7⟩, ?_⟩
        rintro n i - w8 ⟨d, rfl, hd, rfl, s8⟩
        refine ⟨fun hlt2 => ?_, fun hge2 => ⟨4 - (j + 1), by omega, j + 1, _, F7, by rw [w64 (by omega) (by omega)]; omega, by omega, rfl, e1, e2, s8⟩⟩
        refine kp_read (s8.nth 0 rfl : KP w8 p _ F7) 5 _ d fun w9 m9 => ⟨_, _, rfl, ?_⟩
        rw [e4 d (by omega)]
        exact ⟨fun h => absurd rfl h, fun _ => ⟨fun h => absurd rfl h, fun _ => ⟨32 - (d + 1), by omega, d + 1, by rw [w64 (by omega) (by omega)]; omega, by omega, rfl, s8.mod0 m9⟩⟩⟩
      · refine kp_alloc (s6.nth 0 rfl : KP w6 p _ F6) 5 fun w7 F7 h7 m7 o7 => ⟨_, _, rfl, ?_⟩
        have s7 := s6.step 0 rfl (kpPart p _ F7) h7 m7 o7
        rw [g2 (by omega)]
        exact ⟨fun _ => fin_run s7.mod, fun h => absurd rfl h⟩
  refine ⟨fun n i w' => ∃ (k : Nat) (s : S9) (F G : List Nat), i = k ∧ k ≤ l ∧ k ≤ 100 ∧ n = l - k ∧ s.c.L.length ≤ k ∧ s.c.last ≤ k ∧ s.m.length = 4 ∧ Sep w w' [krPart q s G, kpPart p s F], ⟨l, 0, init9 4, F1, G1, rfl, by omega, by omega, rfl, by simp [init9], by simp [init9], by simp [init9], s2⟩, ?_⟩
  clear s1 s2 h1 h2 m1 m2 b1 b2
  rintro n i - w3 ⟨k, s, F, G, rfl, hk, hk1, rfl, hsL, hsl, hm4, s3⟩
  refine ⟨fun hlt => ⟨fun h100 => ?_, fun _ => ⟨s, F, hm4, s3.pop⟩⟩, fun _ => ⟨s, F, hm4, s3.pop⟩⟩
  have hkl : k < l := by omega
  obtain ⟨ad, cs, rfl, hadlt, ⟨d0, d1, d2, d3, d4, d5, d6, d7, rfl, f0, f1, f2, f3, f4, f6, f7⟩, -, hcell⟩ := hin.at hkl
  have cell : ∀ j v, j < 8 → [Value.int .i64 d0, .int .i64 d1, .int .i64 d2, .int .i64 d3, .int .i64 d4, .bool d5, .int .u64 d6, .int .u64 d7][j]? = some v → w3.cell? (Addr.add (Addr.add ad (k * 8)) j) = some v := fun j v hj hv => by
    rw [← hv, ← hcell j hj]
    exact s3.mod.cell (by rw [add_block, add_block]; exact hadlt)
  simp only [nilK_some, Int.toNat_natCast]
  refine ⟨⟨by omega, by omega⟩, d0, d1, d2, d3, d4, d5, d6, d7, ⟨by have := cell 0 _ (by decide) rfl; rwa [add_zero] at this, cell 1 _ (by decide) rfl, cell 2 _ (by decide) rfl, cell 3 _ (by decide) rfl, cell 4 _ (by decide) rfl, cell 5 _ (by decide) rfl, cell 6 _ (by decide) rfl, cell 7 _ (by decide) rfl⟩, ?_⟩
  have s3' := s3.push (sl none 0 0 1 [] []) (Mod.refl [] w3) (SlB.nil w3 1) (by simp [sl, Beyond])
  have hlen := do9_len s ⟨d0, d1, d2, d3, d4, d5, d6, d7⟩
  refine do_run s3' ⟨by omega, by omega⟩ d0 d1 d2 d3 d4 d5 d6 d7 (u64_bounds f6).1 fun w4 F4 G4 s4 => ⟨_, rfl, l - (k + 1), by omega, k + 1, _, F4, G4, by rw [w64 (by omega) (by omega)]; omega, by omega, by omega, rfl, by have := hlen.1; omega, by have := hlen.2; omega, by rw [do9_m]; exact hm4, s4.pop⟩

/-! ### Shared frames -/
def sh1 : S9 := ⟨List.replicate 2 z32, ⟨[⟨1, 0, 1, 1, ⟨1, 0, 1, 7⟩⟩], 1⟩, fun _ _ => none⟩
def sh2 (r : Int) : S9 := ⟨List.replicate 2 z32, ⟨[⟨1, 0, 1, 1, ⟨1, 0, 1, 7⟩⟩, ⟨2, 1, 2, 1, ⟨1, 0, 1, r⟩⟩], 2⟩, fun _ _ => none⟩
theorem sh_a : allocS (init9 2) 1 = sh1 ∧ allocV (init9 2) 1 = (1, 0) := ⟨by kernel_rfl, by kernel_rfl⟩
theorem sh_bad {r : Int} (h : r < 1 ∨ 7 < r) : giveV8 sh1.c 1 1 2 r = (0, 104) := by
  have hl : look8 sh1.c.L 1 1 = some ⟨1, 0, 1, 1, ⟨1, 0, 1, 7⟩⟩ := by kernel_rfl
  unfold giveV8
  rw [hl]
  simp only
  rw [if_neg]
  rintro ⟨-, h1, h2, -⟩
  omega
theorem sh_give : ∀ r : Fin 8, r.val ≠ 0 → giveV8 sh1.c 1 1 2 (r.val : Int) = (1, 0) ∧ (giveS8 sh1.c 1 1 2 (r.val : Int)).L = (sh2 (r.val : Int)).c.L ∧ (giveS8 sh1.c 1 1 2 (r.val : Int)).last = 2 := by decide +kernel
theorem sh_caps (r : Int) : (cap9 (sh2 r).c 1 1 2) = (0, true) ∧ (cap9 (sh2 r).c 2 1 1) = (0, hasR r 1) ∧ cap9 (sh2 r).c 2 1 2 = (0, hasR r 2) ∧ cap9 (sh2 r).c 2 1 3 = (0, hasR r 3) := ⟨by kernel_rfl, by kernel_rfl, by kernel_rfl, by kernel_rfl⟩
theorem sh_bits : ∀ r : Fin 8, hasR (r.val : Int) 1 = (ibits .and .i64 (r.val : Int) 1 != 0) ∧ hasR (r.val : Int) 2 = (ibits .and .i64 (r.val : Int) 2 != 0) ∧ hasR (r.val : Int) 3 = ((ibits .and .i64 (r.val : Int) 1 != 0) && (ibits .and .i64 (r.val : Int) 2 != 0)) := by decide +kernel

theorem shares_run (w : World) (r : Int) (_hr : (Lit.int .i64 r).wf = true) (wd : Int) (hwd : (Lit.int .i64 wd).wf = true) (v : Int) (_hv : (Lit.int .u64 v).wf = true) : CallsR Try.prog F_januslaw09_ExomemShares #[.int .i64 r, .int .i64 wd, .int .u64 v] w fun v w' => v = .bool true ∧ Mod [] w w' := by
  apply R_januslaw09_ExomemShares_ok
  simp only [R_januslaw09_ExomemShares, spl_decide]
  refine kp_new 2 w (fun h => by omega) fun k p F1 w1 hk _ _ h1 m1 b1 => ⟨_, rfl, spl_f rfl ?_⟩
  obtain rfl : k = 2 := by omega
  have s1 := (Sep.nil (Mod.refl [] w)).push (kpPart p _ F1) m1 h1 b1
  refine kp_alloc (s1.nth 0 rfl : KP w1 p _ F1) 1 fun w2 F2 h2 m2 o2 => ⟨_, _, rfl, ?_⟩
  rw [sh_a.1] at h2
  rw [sh_a.2]
  have s2 := s1.step 0 rfl (kpPart p _ F2) h2 m2 o2
  refine kp_grant (s2.nth 0 rfl : KP w2 p _ F2) 1 1 2 r fun w3 F3 h3 m3 o3 => ⟨_, _, rfl, spl_f rfl ?_⟩
  have s3 := s2.step 0 rfl (kpPart p _ F3) h3 m3 o3
  refine ⟨fun hlo => ?_, fun hlo => ⟨fun hhi => ?_, fun hhi => ⟨by decide, by decide, ?_⟩⟩⟩
  · rw [sh_bad (.inl hlo)]
    exact spl_t rfl (fin_run s3.mod)
  · rw [sh_bad (.inr hhi)]
    exact spl_t rfl (fin_run s3.mod)
  obtain ⟨rf, hrf⟩ : ∃ rf : Fin 8, r = (rf.val : Int) := ⟨⟨r.toNat, by omega⟩, by simp only; omega⟩
  obtain ⟨e1, e2, e3⟩ := sh_give rf (by omega)
  obtain ⟨c1, c2, c3⟩ := sh_bits rf
  rw [← hrf] at e1 e2 e3 c1 c2 c3
  have eS : grantS sh1 1 1 2 r = sh2 r := by
    unfold grantS sh2
    have : giveS8 sh1.c 1 1 2 r = ⟨[⟨1, 0, 1, 1, ⟨1, 0, 1, 7⟩⟩, ⟨2, 1, 2, 1, ⟨1, 0, 1, r⟩⟩], 2⟩ := by
      cases hg : giveS8 sh1.c 1 1 2 r with
      | mk L last => rw [hg] at e2 e3; simp only at e2 e3; rw [e2, e3]; rfl
    rw [this]
    rfl
  rw [eS] at h3 s3
  rw [e1]
  clear hlo hhi
  obtain ⟨d1, d2, d3, d4⟩ := sh_caps r
  obtain ⟨j, hj, hj32⟩ : ∃ j : Nat, Int.tmod (IntKind.i64.wrap (Int.tmod wd 32 + 32)) 32 = (j : Int) ∧ j < 32 := by
    have h1 : -32 < Int.tmod wd 32 := Int.lt_tmod_of_pos _ (by decide)
    have h2 : Int.tmod wd 32 < 32 := Int.tmod_lt_of_pos _ (by decide)
    rw [w64 (by omega) (by omega), Int.tmod_eq_emod_of_nonneg (by omega)]
    exact ⟨((Int.tmod wd 32 + 32) % 32).toNat, by omega, by omega⟩
  rw [hj]
  clear hj hwd
  have hb : (sh2 r).m[0]? = some z32 := by kernel_rfl
  have hz : z32.length = 32 := by simp [z32]
  refine kp_write (s3.nth 0 rfl : KP w3 p _ F3) 1 1 j v fun w4 h4 m4 => ⟨_, rfl, ?_⟩
  have s4 := s3.turn 0 rfl (kpPart p _ F3) h4 m4
  have eW : writeS (sh2 r) 1 1 j v = ⟨(sh2 r).m.set 0 (z32.set j v), (sh2 r).c, (sh2 r).t⟩ := by
    unfold writeS
    rw [d1, if_pos rfl]
    have := (wr_of (k := 0) hb hj32 v).1
    simp only [Int.natCast_zero] at this
    simp only [this]
  have vW : writeV (sh2 r) 1 1 j = 0 := by
    unfold writeV
    rw [d1, if_pos rfl]
    exact (wr_of (k := 0) hb hj32 v).2
  rw [eW] at h4 s4
  rw [vW]
  obtain ⟨s5, hs5⟩ : ∃ s5 : S9, s5 = ⟨(sh2 r).m.set 0 (z32.set j v), (sh2 r).c, (sh2 r).t⟩ := ⟨_, rfl⟩
  rw [← hs5] at h4 s4
  have hc5 : s5.c = (sh2 r).c := by rw [hs5]
  have hb5 : s5.m[0]? = some (z32.set j v) := by
    rw [hs5]
    simp only
    rw [List.getElem?_set, if_pos rfl, if_pos (by simp [sh2])]
  refine kp_read (s4.nth 0 rfl : KP w4 p s5 F3) 2 1 j fun w5 m5 => ⟨_, _, rfl, ?_⟩
  have s5' := s4.mod0 m5
  have vR : readV s5 2 1 j = if hasR r 1 then (v, 0) else (0, 104) := by
    unfold readV
    rw [hc5, d2]
    simp only
    split
    · exact rdV_of (k := 0) hb5 (by rw [List.getElem?_set, if_pos rfl, if_pos (by omega)]) hj32
    · rfl
  refine kp_write (s5'.nth 0 rfl : KP w5 p s5 F3) 2 1 j (IntKind.u64.wrap (v + 1)) fun w6 h6 m6 => ⟨_, rfl, ?_⟩
  have s6 := s5'.turn 0 rfl (kpPart p _ F3) h6 m6
  have vV : writeV s5 2 1 j = if hasR r 2 then 0 else 104 := by
    unfold writeV
    rw [hc5, d3]
    simp only
    split
    · exact (wr_of (k := 0) hb5 hj32 v).2
    · rfl
  have hc6 : (writeS s5 2 1 j (IntKind.u64.wrap (v + 1))).c = (sh2 r).c := by
    rw [← hc5]
    unfold writeS
    split <;> rfl
  generalize writeS s5 2 1 j (IntKind.u64.wrap (v + 1)) = s7 at h6 s6 hc6
  refine kp_map (s6.nth 0 rfl : KP w6 p s7 F3) 2 1 1 true fun w7 h7 m7 => ⟨_, rfl, ?_⟩
  have s8 := s6.turn 0 rfl (kpPart p _ F3) h7 m7
  have hin : env12 2 ∧ in4 1 := ⟨by decide, by decide⟩
  have vM : mapV s7 2 1 1 true = if hasR r 3 then 0 else 104 := by
    unfold mapV
    rw [if_pos hin, hc6]
    show (if (cap9 (sh2 r).c 2 1 3).2 = true then _ else _) = _
    rw [d4]
    simp only
    split <;> rfl
  have hc8 : (mapS s7 2 1 1 true).c = (sh2 r).c := by
    rw [← hc6]
    unfold mapS
    split <;> rfl
  generalize mapS s7 2 1 1 true = s9 at h7 s8 hc8
  refine kp_map (s8.nth 0 rfl : KP w7 p s9 F3) 2 1 1 false fun w8 h8 m8 => ⟨_, rfl, ?_⟩
  have s10 := s8.turn 0 rfl (kpPart p _ F3) h8 m8
  have vN : mapV s9 2 1 1 false = if hasR r 1 then 0 else 104 := by
    unfold mapV
    rw [if_pos hin, hc8]
    show (if (cap9 (sh2 r).c 2 1 1).2 = true then _ else _) = _
    rw [d2]
    simp only
    split <;> rfl
  rw [vR, vV, vM, vN, c1, c2, c3]
  have fin := fin_run s10.mod
  generalize (ibits .and .i64 r 1 != 0) = R
  generalize (ibits .and .i64 r 2 != 0) = W
  cases R <;> cases W <;> simpa using fin

end Go.Proofs
