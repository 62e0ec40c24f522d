/-
  Layer 9: what all its statements use: a deed with both kernels; awake.
  exomem: contracts of both kernels: how many refer to a frame; a frame's slot; pages; how many frames are left.
  Layer 9: any deeds.
-/
import Derived.Test.YtndgafloegmlaaaGreatP9A
import Derived.Test.YtndgafloegmlaaaGreatDenB
set_option linter.unusedSimpArgs false
namespace Go.Proofs
open Go Go.Den

theorem do_run {w0 w : World} {p q : Nat} {s : S9} {F G : List Nat} {y : Part} {rest : List Part} (hs : Sep w0 w (y :: krPart q s G :: kpPart p s F :: rest)) (hS : Small s.c) (d0 d1 d2 d3 d4 : Int) (d5 : Bool) (d6 d7 : Int) (h6 : 0 ≤ d6) {K : Value → World → Prop}
    (hK : ∀ w' F' G', Sep w0 w' (y :: krPart q (do9 s ⟨d0, d1, d2, d3, d4, d5, d6, d7⟩) G' :: kpPart p (do9 s ⟨d0, d1, d2, d3, d4, d5, d6, d7⟩) F' :: rest) → K (.bool true) w') :
    CallsR Tryz.prog F_januslaw09_do #[.pointer (some ⟨p, 0, none⟩), .pointer (some ⟨q, 0, none⟩), .agg #[.int .i64 d0, .int .i64 d1, .int .i64 d2, .int .i64 d3, .int .i64 d4, .bool d5, .int .u64 d6, .int .u64 d7]] w K := by
  apply R_januslaw09_do_ok
  simp only [R_januslaw09_do, spl_beq, nilK_some, addr_add, Nat.zero_add]
  refine hs.new fun b w1 s1 m1 hb => ⟨d0, s1.cell 0 rfl rfl, fun e0 => ?_, fun n0 => ⟨fun e1 => ?_, fun n1 => ⟨fun e2 => ?_, fun n2 => ⟨fun e3 => ?_, fun n3 => ⟨fun e4 => ?_, fun n4 => ⟨fun e5 => ?_, fun n5 => ⟨fun e6 => ?_, fun n6 => ⟨fun e7 => ?_, fun n7 => ⟨fun e8 => ?_, fun n8 => ⟨fun e9 => ?_, fun n9 => ⟨fun e10 => ?_, fun n10 => ?_⟩⟩⟩⟩⟩⟩⟩⟩⟩⟩⟩
  · have eS : do9 s ⟨d0, d1, d2, d3, d4, d5, d6, d7⟩ = allocS s d1 := by simp [do9, e0]
    rw [eS] at hK
    refine ⟨d1, s1.cell 0 rfl rfl, ?_⟩
    refine kp_alloc (s1.nth 3 rfl : KP w1 p s F) d1 fun w2 F2 h2 m2 o2 => ⟨_, _, rfl, ?_⟩
    have s2 := s1.step 3 rfl (kpPart p _ F2) h2 m2 o2
    refine ⟨d1, s2.cell 0 rfl rfl, ?_⟩
    refine kr_alloc (s2.nth 2 rfl : KR w2 q s G) hS d1 fun w3 G3 h3 m3 o3 => ⟨_, _, rfl, fun _ => ?_, fun h => absurd rfl h⟩
    have s3 := s2.step 2 rfl (krPart q _ G3) h3 m3 o3
    rw [beq_self_eq_true]
    exact hK w3 F2 G3 s3.pop
  · have eS : do9 s ⟨d0, d1, d2, d3, d4, d5, d6, d7⟩ = grantS s d1 d2 d3 d4 := by simp [do9, e1]
    rw [eS] at hK
    refine ⟨d1, s1.cell 0 rfl rfl, d2, s1.cell 0 rfl rfl, d3, s1.cell 0 rfl rfl, d4, s1.cell 0 rfl rfl, ?_⟩
    refine kp_grant (s1.nth 3 rfl : KP w1 p s F) d1 d2 d3 d4 fun w2 F2 h2 m2 o2 => ⟨_, _, rfl, ?_⟩
    have s2 := s1.step 3 rfl (kpPart p _ F2) h2 m2 o2
    rw [drK_eq]
    have s2 := s2.mod0 ((Mod.refl [] w2).drew)
    generalize w2.drew = w2 at s2 ⊢
    obtain ⟨pc, hpc, hgo⟩ := kr_grant (s2.nth 2 rfl : KR w2 q s G) hS d1 d2 d3 d4 (K := fun v40 w41 => ∃ (rr042 rr143 : Int), v40 = .tuple #[.int .i64 rr042, .int .i64 rr143] ∧ (((giveV8 s.c d1 d2 d3 d4).1 = rr042 → K (.bool ((giveV8 s.c d1 d2 d3 d4).2 == rr143)) w41) ∧ ((giveV8 s.c d1 d2 d3 d4).1 ≠ rr042 → K (.bool false) w41))) fun w3 G3 h3 m3 o3 => ⟨_, _, rfl, fun _ => by rw [beq_self_eq_true]; exact hK w3 F2 G3 (s2.step 2 rfl (krPart q _ G3) h3 m3 o3).pop, fun h => absurd rfl h⟩
    exact ⟨[q, b], by simp, _, hpc, by simp, d1, s2.cell 0 rfl rfl, by simp, d2, s2.cell 0 rfl rfl, by simp, d3, s2.cell 0 rfl rfl, by simp, d4, s2.cell 0 rfl rfl, hgo⟩
  · have eS : do9 s ⟨d0, d1, d2, d3, d4, d5, d6, d7⟩ = freeS s d1 d2 := by simp [do9, e2]
    rw [eS] at hK
    rw [drK_eq]
    have s1 := s1.mod0 ((Mod.refl [] w1).drew)
    generalize w1.drew = w1 at s1 ⊢
    refine ⟨[b], by simp, d1, s1.cell 0 rfl rfl, by simp, d2, s1.cell 0 rfl rfl, by simp, d1, s1.cell 0 rfl rfl, by simp, d2, s1.cell 0 rfl rfl, ?_⟩
    refine kp_free (s1.nth 3 rfl : KP w1 p s F) d1 d2 fun w2 F2 h2 m2 o2 => ⟨_, rfl, ?_⟩
    have s2 := s1.step 3 rfl (kpPart p _ F2) h2 m2 o2
    refine ⟨keepB1 (s1.kept s2 0 0 rfl rfl), ?_⟩
    refine kr_free (s2.nth 2 rfl : KR w2 q s G) hS d1 d2 fun w3 G3 h3 m3 o3 => ⟨_, rfl, ?_⟩
    have s3 := s2.step 2 rfl (krPart q _ G3) h3 m3 o3
    rw [beq_self_eq_true]
    exact hK w3 F2 G3 s3.pop
  · have eS : do9 s ⟨d0, d1, d2, d3, d4, d5, d6, d7⟩ = revS s d1 d2 := by simp [do9, e3]
    rw [eS] at hK
    rw [drK_eq]
    have s1 := s1.mod0 ((Mod.refl [] w1).drew)
    generalize w1.drew = w1 at s1 ⊢
    refine ⟨[b], by simp, d1, s1.cell 0 rfl rfl, by simp, d2, s1.cell 0 rfl rfl, by simp, d1, s1.cell 0 rfl rfl, by simp, d2, s1.cell 0 rfl rfl, ?_⟩
    refine kp_revoke (s1.nth 3 rfl : KP w1 p s F) d1 d2 fun w2 F2 h2 m2 o2 => ⟨_, rfl, ?_⟩
    have s2 := s1.step 3 rfl (kpPart p _ F2) h2 m2 o2
    refine ⟨keepB1 (s1.kept s2 0 0 rfl rfl), ?_⟩
    refine kr_revoke (s2.nth 2 rfl : KR w2 q s G) hS d1 d2 fun w3 G3 h3 m3 o3 => ⟨_, rfl, ?_⟩
    have s3 := s2.step 2 rfl (krPart q _ G3) h3 m3 o3
    rw [beq_self_eq_true]
    exact hK w3 F2 G3 s3.pop
  · have eS : do9 s ⟨d0, d1, d2, d3, d4, d5, d6, d7⟩ = mapS s d1 d4 d2 d5 := by simp [do9, e4]
    rw [eS] at hK
    rw [drK_eq]
    have s1 := s1.mod0 ((Mod.refl [] w1).drew)
    generalize w1.drew = w1 at s1 ⊢
    refine ⟨[b], by simp, d1, s1.cell 0 rfl rfl, by simp, d4, s1.cell 0 rfl rfl, by simp, d2, s1.cell 0 rfl rfl, by simp, d5, s1.cell 0 rfl rfl, by simp, d1, s1.cell 0 rfl rfl, by simp, d4, s1.cell 0 rfl rfl, by simp, d2, s1.cell 0 rfl rfl, by simp, d5, s1.cell 0 rfl rfl, ?_⟩
    refine kp_map (s1.nth 3 rfl : KP w1 p s F) d1 d4 d2 d5 fun w2 h2 m2 => ⟨_, rfl, ?_⟩
    have s2 := s1.turn 3 rfl (kpPart p _ F) h2 m2
    refine ⟨keepB1 (s1.kept s2 0 0 rfl rfl), ?_⟩
    refine kr_map (s2.nth 2 rfl : KR w2 q s G) hS d1 d4 d2 d5 fun w3 h3 m3 => ⟨_, rfl, ?_⟩
    have s3 := s2.turn 2 rfl (krPart q _ G) h3 m3
    rw [beq_self_eq_true]
    exact hK w3 F G s3.pop
  · have eS : do9 s ⟨d0, d1, d2, d3, d4, d5, d6, d7⟩ = unmapS s d1 d4 := by simp [do9, e5]
    rw [eS] at hK
    rw [drK_eq]
    have s1 := s1.mod0 ((Mod.refl [] w1).drew)
    generalize w1.drew = w1 at s1 ⊢
    refine ⟨[b], by simp, d1, s1.cell 0 rfl rfl, by simp, d4, s1.cell 0 rfl rfl, by simp, d1, s1.cell 0 rfl rfl, by simp, d4, s1.cell 0 rfl rfl, ?_⟩
    refine kp_unmap (s1.nth 3 rfl : KP w1 p s F) d1 d4 fun w2 h2 m2 => ⟨_, rfl, ?_⟩
    have s2 := s1.turn 3 rfl (kpPart p _ F) h2 m2
    refine ⟨keepB1 (s1.kept s2 0 0 rfl rfl), ?_⟩
    refine kr_unmap (s2.nth 2 rfl : KR w2 q s G) d1 d4 fun w3 h3 m3 => ⟨_, rfl, ?_⟩
    have s3 := s2.turn 2 rfl (krPart q _ G) h3 m3
    rw [beq_self_eq_true]
    exact hK w3 F G s3.pop
  · have eS : do9 s ⟨d0, d1, d2, d3, d4, d5, d6, d7⟩ = s := by simp [do9, e6]
    rw [eS] at hK
    refine ⟨d1, s1.cell 0 rfl rfl, d6, s1.cell 0 rfl rfl, ?_⟩
    refine kp_load (s1.nth 3 rfl : KP w1 p s F) d1 h6 fun w2 m2 => ⟨_, _, rfl, ?_⟩
    have s2 := s1.mod0 m2
    refine ⟨d1, s2.cell 0 rfl rfl, d6, s2.cell 0 rfl rfl, ?_⟩
    refine kr_load (s2.nth 2 rfl : KR w2 q s G) d1 h6 fun w3 m3 => ⟨_, _, rfl, fun _ => ?_, fun h => absurd rfl h⟩
    have s3 := s2.mod0 m3
    rw [beq_self_eq_true]
    exact hK w3 F G s3.pop
  · have eS : do9 s ⟨d0, d1, d2, d3, d4, d5, d6, d7⟩ = storeS s d1 d6 d7 := by simp [do9, e7]
    rw [eS] at hK
    rw [drK_eq]
    have s1 := s1.mod0 ((Mod.refl [] w1).drew)
    generalize w1.drew = w1 at s1 ⊢
    refine ⟨[b], by simp, d1, s1.cell 0 rfl rfl, by simp, d6, s1.cell 0 rfl rfl, by simp, d7, s1.cell 0 rfl rfl, by simp, d1, s1.cell 0 rfl rfl, by simp, d6, s1.cell 0 rfl rfl, by simp, d7, s1.cell 0 rfl rfl, ?_⟩
    refine kp_store (s1.nth 3 rfl : KP w1 p s F) d1 h6 d7 fun w2 h2 m2 => ⟨_, rfl, ?_⟩
    have s2 := s1.turn 3 rfl (kpPart p _ F) h2 m2
    refine ⟨keepB1 (s1.kept s2 0 0 rfl rfl), ?_⟩
    refine kr_store (s2.nth 2 rfl : KR w2 q s G) d1 h6 d7 fun w3 h3 m3 => ⟨_, rfl, ?_⟩
    have s3 := s2.turn 2 rfl (krPart q _ G) h3 m3
    rw [beq_self_eq_true]
    exact hK w3 F G s3.pop
  · have eS : do9 s ⟨d0, d1, d2, d3, d4, d5, d6, d7⟩ = copyS s d1 d2 d4 := by simp [do9, e8]
    rw [eS] at hK
    rw [drK_eq]
    have s1 := s1.mod0 ((Mod.refl [] w1).drew)
    generalize w1.drew = w1 at s1 ⊢
    refine ⟨[b], by simp, d1, s1.cell 0 rfl rfl, by simp, d2, s1.cell 0 rfl rfl, by simp, d4, s1.cell 0 rfl rfl, by simp, d1, s1.cell 0 rfl rfl, by simp, d2, s1.cell 0 rfl rfl, by simp, d4, s1.cell 0 rfl rfl, ?_⟩
    refine kp_copy (s1.nth 3 rfl : KP w1 p s F) d1 d2 d4 fun w2 h2 m2 => ⟨_, rfl, ?_⟩
    have s2 := s1.turn 3 rfl (kpPart p _ F) h2 m2
    refine ⟨keepB1 (s1.kept s2 0 0 rfl rfl), ?_⟩
    refine kr_copy (s2.nth 2 rfl : KR w2 q s G) hS d1 d2 d4 fun w3 h3 m3 => ⟨_, rfl, ?_⟩
    have s3 := s2.turn 2 rfl (krPart q _ G) h3 m3
    rw [beq_self_eq_true]
    exact hK w3 F G s3.pop
  · have eS : do9 s ⟨d0, d1, d2, d3, d4, d5, d6, d7⟩ = s := by simp [do9, e9]
    rw [eS] at hK
    refine ⟨d1, s1.cell 0 rfl rfl, d2, s1.cell 0 rfl rfl, d4, s1.cell 0 rfl rfl, ?_⟩
    refine kp_read (s1.nth 3 rfl : KP w1 p s F) d1 d2 d4 fun w2 m2 => ⟨_, _, rfl, ?_⟩
    have s2 := s1.mod0 m2
    refine ⟨d1, s2.cell 0 rfl rfl, d2, s2.cell 0 rfl rfl, d4, s2.cell 0 rfl rfl, ?_⟩
    refine kr_read (s2.nth 2 rfl : KR w2 q s G) hS d1 d2 d4 fun w3 m3 => ⟨_, _, rfl, fun _ => ?_, fun h => absurd rfl h⟩
    have s3 := s2.mod0 m3
    rw [beq_self_eq_true]
    exact hK w3 F G s3.pop
  · have eS : do9 s ⟨d0, d1, d2, d3, d4, d5, d6, d7⟩ = writeS s d1 d2 d4 d7 := by simp [do9, e10]
    rw [eS] at hK
    rw [drK_eq]
    have s1 := s1.mod0 ((Mod.refl [] w1).drew)
    generalize w1.drew = w1 at s1 ⊢
    refine ⟨[b], by simp, d1, s1.cell 0 rfl rfl, by simp, d2, s1.cell 0 rfl rfl, by simp, d4, s1.cell 0 rfl rfl, by simp, d7, s1.cell 0 rfl rfl, by simp, d1, s1.cell 0 rfl rfl, by simp, d2, s1.cell 0 rfl rfl, by simp, d4, s1.cell 0 rfl rfl, by simp, d7, s1.cell 0 rfl rfl, ?_⟩
    refine kp_write (s1.nth 3 rfl : KP w1 p s F) d1 d2 d4 d7 fun w2 h2 m2 => ⟨_, rfl, ?_⟩
    have s2 := s1.turn 3 rfl (kpPart p _ F) h2 m2
    refine ⟨keepB1 (s1.kept s2 0 0 rfl rfl), ?_⟩
    refine kr_write (s2.nth 2 rfl : KR w2 q s G) hS d1 d2 d4 d7 fun w3 h3 m3 => ⟨_, rfl, ?_⟩
    have s3 := s2.turn 2 rfl (krPart q _ G) h3 m3
    rw [beq_self_eq_true]
    exact hK w3 F G s3.pop
  · have eS : do9 s ⟨d0, d1, d2, d3, d4, d5, d6, d7⟩ = goneS s d1 := by simp [do9, n0, n1, n2, n3, n4, n5, n6, n7, n8, n9, n10]
    rw [eS] at hK
    refine ⟨d1, s1.cell 0 rfl rfl, ?_⟩
    refine kp_gone (s1.nth 3 rfl : KP w1 p s F) d1 fun w2 F2 h2 m2 o2 => ⟨rfl, ?_⟩
    have s2 := s1.step 3 rfl (kpPart p _ F2) h2 m2 o2
    refine ⟨d1, s2.cell 0 rfl rfl, ?_⟩
    refine kr_gone (s2.nth 2 rfl : KR w2 q s G) hS d1 fun w3 G3 h3 m3 o3 => ⟨rfl, ?_⟩
    have s3 := s2.step 2 rfl (krPart q _ G3) h3 m3 o3
    exact hK w3 F2 G3 s3.pop

def w1_ : S9 := allocS (init9 3) 1
def w2_ : S9 := mapS w1_ 1 0 1 true
def w3_ : S9 := storeS w2_ 1 3 9
def w4_ : S9 := grantS w3_ 1 1 2 1
def w5_ : S9 := mapS w4_ 2 0 1 true
def w6_ : S9 := mapS w5_ 2 0 1 false
def w7_ : S9 := revS w6_ 1 1
theorem aw_a : allocV (init9 3) 1 = (1, 0) := by kernel_rfl
theorem aw_m : mapV w1_ 1 0 1 true = 0 := by kernel_rfl
theorem aw_s : storeV w2_ 1 3 = 0 := by kernel_rfl
theorem aw_l : loadV w3_ 1 3 = (9, 0) := by kernel_rfl
theorem aw_g : giveV8 w3_.c 1 1 2 1 = (1, 0) := by kernel_rfl
theorem aw_n : mapV w4_ 2 0 1 true = 104 := by kernel_rfl
theorem aw_o : mapV w5_ 2 0 1 false = 0 := by kernel_rfl
theorem aw_p : loadV w6_ 2 3 = (9, 0) := by kernel_rfl
theorem aw_r : (revokeV8 w6_.c 1 1).2 = 0 := by kernel_rfl
theorem aw_t : loadV w7_ 2 3 = (0, 102) := by kernel_rfl
theorem aw_z : left9 w7_ = 2 := by kernel_rfl

theorem awake_run {w : World} {K : Value → World → Prop} (hK : ∀ w', Mod [] w w' → K (.bool true) w') : CallsR Tryz.prog F_januslaw09_awake #[] w K := by
  apply R_januslaw09_awake_ok
  simp only [R_januslaw09_awake]
  refine kp_new 3 w (fun h => by omega) fun k p F1 u1 hk _ _ h1 m1 b1 => ⟨_, rfl, spl_f rfl ?_⟩
  obtain rfl : k = 3 := by omega
  have s1 := (Sep.nil (Mod.refl [] w)).push (kpPart p _ F1) m1 h1 b1
  refine kp_alloc (s1.nth 0 rfl : KP u1 p _ F1) 1 fun u2 F2 h2 m2 o2 => ⟨_, _, rfl, ?_⟩
  have s2 := s1.step 0 rfl (kpPart p w1_ F2) h2 m2 o2
  refine kp_map (s2.nth 0 rfl : KP u2 p w1_ F2) 1 0 1 true fun u3 h3 m3 => ⟨_, rfl, ?_⟩
  have s3 := s2.turn 0 rfl (kpPart p w2_ F2) h3 m3
  refine kp_store (s3.nth 0 rfl : KP u3 p w2_ F2) 1 (by decide) 9 fun u4 h4 m4 => ⟨_, rfl, ?_⟩
  have s4 := s3.turn 0 rfl (kpPart p w3_ F2) h4 m4
  refine kp_load (s4.nth 0 rfl : KP u4 p w3_ F2) 1 (by decide) fun u5 m5 => ⟨_, _, rfl, ?_⟩
  have s5 := s4.mod0 m5
  refine kp_grant (s5.nth 0 rfl : KP u5 p w3_ F2) 1 1 2 1 fun u6 F6 h6 m6 o6 => ⟨_, _, rfl, ?_⟩
  have s6 := s5.step 0 rfl (kpPart p w4_ F6) h6 m6 o6
  refine kp_map (s6.nth 0 rfl : KP u6 p w4_ F6) 2 0 1 true fun u7 h7 m7 => ⟨_, rfl, ?_⟩
  have s7 := s6.turn 0 rfl (kpPart p w5_ F6) h7 m7
  refine kp_map (s7.nth 0 rfl : KP u7 p w5_ F6) 2 0 1 false fun u8 h8 m8 => ⟨_, rfl, ?_⟩
  have s8 := s7.turn 0 rfl (kpPart p w6_ F6) h8 m8
  refine kp_load (s8.nth 0 rfl : KP u8 p w6_ F6) 2 (by decide) fun u9 m9 => ⟨_, _, rfl, ?_⟩
  have s9 := s8.mod0 m9
  refine kp_revoke (s9.nth 0 rfl : KP u9 p w6_ F6) 1 1 fun u10 F10 h10 m10 o10 => ⟨_, rfl, ?_⟩
  have s10 := s9.step 0 rfl (kpPart p w7_ F10) h10 m10 o10
  refine kp_load (s10.nth 0 rfl : KP u10 p w7_ F10) 2 (by decide) fun u11 m11 => ⟨_, _, rfl, ?_⟩
  have s11 := s10.mod0 m11
  rw [aw_a, aw_m, aw_s, aw_l, aw_g, aw_n, aw_o, aw_p, aw_r, aw_t]
  refine spl_t rfl (spl_t rfl (spl_t rfl (spl_t rfl (spl_t rfl (spl_t rfl (spl_t rfl (spl_t rfl (spl_t rfl (spl_t rfl (spl_t rfl (spl_t rfl (spl_t rfl (spl_t rfl ?_)))))))))))))
  refine kp_left (s11.nth 0 rfl : KP u11 p w7_ F10) fun u12 m12 => ⟨_, rfl, ?_⟩
  rw [aw_z]
  exact hK u12 (s11.mod0 m12).mod

theorem fin_run {w0 w : World} (h : Mod [] w0 w) : CallsR Tryz.prog F_januslaw09_awake #[] w fun v w' => ∃ r : Bool, v = .bool r ∧ (Value.bool r = .bool true ∧ Mod [] w0 w') :=
  awake_run fun w' m => ⟨true, rfl, rfl, h.trans' m⟩

end Go.Proofs

set_option linter.unusedSimpArgs false
namespace Go.Proofs
open Go Go.Den

/-- Those ahead of place 'j' that are so. -/
def cnt (L : List CE) (P : CE → Bool) (j : Nat) : Nat := (L.filter fun c => P c && decide (ckp c < j)).length
theorem cnt_succ (P : CE → Bool) (j : Nat) : ∀ {L : List CE}, L.Pairwise (fun a b => ckp a ≠ ckp b) → cnt L P (j + 1) = cnt L P j + (match L.find? fun c => ckp c == j with | some c => if P c then 1 else 0 | none => 0)
  | [], _ => rfl
  | a :: L, h => by
    obtain ⟨h1, h2⟩ := List.pairwise_cons.1 h
    have ih := cnt_succ P j h2
    unfold cnt at ih ⊢
    rw [List.filter_cons, List.filter_cons, List.find?_cons]
    by_cases he : ckp a = j
    · have hnf : L.find? (fun c => ckp c == j) = none := List.find?_eq_none.2 fun c hc => by have := h1 c hc; simp; omega
      rw [hnf] at ih
      simp only [Nat.add_zero] at ih
      simp only [he, beq_self_eq_true, Nat.lt_succ_self, decide_true, Bool.and_true, Nat.lt_irrefl, decide_false, Bool.and_false, Bool.false_eq_true, if_false]
      split
      · rw [List.length_cons, ih]
      · rw [ih, Nat.add_zero]
    · have e1 : (ckp a == j) = false := by simpa using he
      simp only [e1]
      have e2 : decide (ckp a < j + 1) = decide (ckp a < j) := decide_eq_decide.2 (by omega)
      rw [e2]
      split
      · rw [List.length_cons, List.length_cons, ih]; omega
      · exact ih
theorem ckp_pair {s : S8} (hw : W8 s) : s.L.Pairwise fun a b => ckp a ≠ ckp b := by
  refine List.Pairwise.imp_of_mem (fun {a b} ha hb hab he => ?_) hw.no
  have := ckp_inj hw ha hb he
  rw [this] at hab
  omega
theorem cnt_zero (L : List CE) (P : CE → Bool) : cnt L P 0 = 0 := by
  unfold cnt
  rw [List.filter_eq_nil_iff.2 fun c _ => by simp]
  rfl
theorem cnt_end {s : S8} (hw : W8 s) (P : CE → Bool) : cnt s.L P 780 = (s.L.filter P).length := by
  unfold cnt
  rw [List.filter_congr fun c hc => by rw [decide_eq_true (ckp_lt hw hc), Bool.and_true]]
theorem cnt_row {s : S8} (hw : W8 s) (P : CE → Bool) (e : Nat) : cnt s.L P (e * 65 + 1) = cnt s.L P (e * 65) := by
  rw [cnt_succ P _ (ckp_pair hw)]
  have : s.L.find? (fun c => ckp c == e * 65) = none := List.find?_eq_none.2 fun c hc => by
    obtain ⟨h1, h2, h3, -⟩ := hw.in_ c hc
    unfold env12 at h1
    simp only [beq_iff_eq, ckp, kp]
    omega
  rw [this]
  rfl
theorem cnt_at {s : S8} (hw : W8 s) (P : CE → Bool) {e j : Nat} (he : e < 12) (hj : 1 ≤ j) (hj2 : j ≤ 64) : cnt s.L P (e * 65 + (j + 1)) = cnt s.L P (e * 65 + j) + (match look8 s.L e j with | some c => if P c then 1 else 0 | none => 0) := by
  have := cnt_succ P (e * 65 + j) (ckp_pair hw)
  rw [← Nat.add_assoc, this]
  have e1 := find_kp hw (e := (e : Int)) (sl := (j : Int)) ⟨by omega, by omega⟩ ⟨by omega, by omega⟩
  rw [show kp (e : Int) (j : Int) = e * 65 + j by unfold kp; simp] at e1
  rw [e1]

section
variable {w : World} {p : Nat} {s : S9} {F : List Nat}

theorem kp_page (h : KP w p s F) (e q : Int) {K : Value → World → Prop} (hK : ∀ w', Mod [] w w' → K (.tuple #[.agg #[.int .i64 (pz (pageT s e q)).1, .bool (pz (pageT s e q)).2], .bool (pageT s e q).isSome]) w') :
    CallsR Tryz.prog F_exomem_Kernel_Page #[.pointer (some ⟨p, 0, none⟩), .int .i64 e, .int .i64 q] w K := by
  obtain ⟨hT, A, h1, rfl⟩ := h
  apply R_exomem_Kernel_Page_ok
  simp only [R_exomem_Kernel_Page]
  refine (Sep.nil (Mod.refl [] w)).new fun b w1 s1 m1 hb => ?_
  have h2 := h1.mod0 m1
  unfold pageT at hK
  refine ktable_run h2 e (fun he => ⟨_, rfl, ?_⟩) (fun he => ⟨_, rfl, ?_⟩)
  · rw [if_neg he] at hK
    apply R_mmu_Table_At_ok
    simp only [R_mmu_Table_At, Option.isNone_none, spl_true]
    refine s1.new fun b2 w2 s2 m2 hb2 => s2.st0 0 rfl rfl fun w3 s3 m3 => ⟨_, _, ⟨s3.cell 0 rfl rfl, s3.cell 0 rfl rfl⟩, _, _, _, rfl, ?_⟩
    exact s3.st0 1 rfl rfl fun w4 s4 m4 => ⟨_, _, ⟨s4.cell 1 rfl rfl, s4.cell 1 rfl rfl⟩, hK w4 s4.mod⟩
  · rw [if_pos he] at hK
    refine mmu_at (ktbl h2 (by unfold env12 at he; omega)) q fun w2 m2 => ⟨_, _, _, rfl, ?_⟩
    have s2 := s1.mod0 m2
    exact s2.st0 0 rfl rfl fun w3 s3 m3 => ⟨_, _, ⟨s3.cell 0 rfl rfl, s3.cell 0 rfl rfl⟩, hK w3 s3.mod⟩

theorem kp_slot (h : KP w p s F) (e f : Int) {K : Value → World → Prop} (hK : ∀ w', Mod [] w w' → K (.int .i64 (slotV s e f)) w') :
    CallsR Tryz.prog F_exomem_Kernel_Slot #[.pointer (some ⟨p, 0, none⟩), .int .i64 e, .int .i64 f] w K := by
  obtain ⟨hT, A, h1, rfl⟩ := h
  apply R_exomem_Kernel_Slot_ok
  simp only [R_exomem_Kernel_Slot, Option.isNone_some, spl_false, nilK_some, addr_add, Nat.zero_add, spl_decide]
  refine ⟨fun n t w' => ∃ j : Nat, t = j ∧ 1 ≤ j ∧ j ≤ 65 ∧ n = 65 - j ∧ slotV s e f = slotIn s e f j (65 - j) ∧ Mod [] w w', ⟨64, 1, rfl, by omega, by omega, rfl, rfl, Mod.refl _ _⟩, ?_⟩
  rintro n t - w1 ⟨j, rfl, hj1, hj, rfl, hs, m1⟩
  refine ⟨fun hlt => ?_, fun hge => ?_⟩
  · have ej : 65 - j = 65 - (j + 1) + 1 := by omega
    rw [ej, slotIn] at hs
    refine ⟨fun w' => isSlot s e f j = false ∧ Mod [] w w', fun _ w' hw' => ⟨65 - (j + 1), by omega, j + 1, by rw [w64 (by omega) (by omega)]; omega, by omega, by omega, rfl, by rw [hs, hw'.1]; rfl, hw'.2⟩, ?_⟩
    have h2 := h1.mod0 m1
    refine ⟨_, kc1 h2, pget_run (kcp h2) e j fun w2 m2 => ⟨_, _, _, _, _, rfl, ?_⟩⟩
    refine (Sep.nil (m1.trans' m2)).new fun b w3 s3 m3 hb => s3.st0 0 rfl rfl fun w4 s4 m4 => ?_
    unfold isSlot at hs ⊢
    refine spl_of (fun ht => ⟨_, s4.cell 0 rfl rfl, spl_of (fun he => ?_) (fun he => ⟨by rw [ht, Bool.true_and]; exact he, s4.mod⟩)⟩) (fun hf => ⟨by rw [hf]; rfl, s4.mod⟩)
    rw [ht, Bool.true_and, he] at hs
    have := hK w4 s4.mod
    rw [hs] at this
    exact this
  · obtain rfl : j = 65 := by omega
    have := hK w1 m1
    rw [hs] at this
    exact this

theorem kp_refs (h : KP w p s F) (e sl : Int) {K : Value → World → Prop} (hK : ∀ w', Mod [] w w' → K (.int .i64 (refsV s e sl : Nat)) w') (hS : Small s.c) :
    CallsR Tryz.prog F_exomem_Kernel_Refs #[.pointer (some ⟨p, 0, none⟩), .int .i64 e, .int .i64 sl] w K := by
  have hw8 := h.w8
  obtain ⟨hT, A, h1, rfl⟩ := h
  apply R_exomem_Kernel_Refs_ok
  simp only [R_exomem_Kernel_Refs, Option.isNone_some, spl_false, nilK_some, addr_add, Nat.zero_add, spl_decide]
  refine ⟨_, kc1 h1, pget_run (kcp h1) e sl fun w1 m1 => ⟨_, _, _, _, _, rfl, ?_⟩⟩
  refine (Sep.nil m1).new fun b w2 s2 m2 hb => s2.st0 0 rfl rfl fun w3 s3 m3 => ?_
  unfold refsV at hK
  obtain ⟨id, hid⟩ : ∃ id, id = (getV8 s.c.L e sl).1.i := ⟨_, rfl⟩
  rw [← hid] at hK
  have hle : ∀ j, cnt s.c.L (fun c => c.x.i == id) j ≤ 10000 := fun j => by
    have h1 := List.length_filter_le (fun c => (c.x.i == id) && decide (ckp c < j)) s.c.L
    have h2 := hS.1
    exact Nat.le_trans h1 (by omega)
  refine spl_of (fun ht => ?_) (fun hf => ?_)
  · rw [if_pos ht] at hK
    refine ⟨fun n x t w' => ∃ j : Nat, t = j ∧ j ≤ 12 ∧ n = 12 - j ∧ x = (cnt s.c.L (fun c => c.x.i == id) (j * 65) : Nat) ∧ Mod [] w3 w', ⟨12, 0, rfl, by omega, rfl, by rw [Nat.zero_mul, cnt_zero]; rfl, Mod.refl _ _⟩, ?_⟩
    rintro n x t - w4 ⟨j, rfl, hj, rfl, rfl, m4⟩
    refine ⟨fun hlt => ?_, fun hge => ?_⟩
    · refine ⟨fun n x t w' => ∃ i : Nat, t = i ∧ 1 ≤ i ∧ i ≤ 65 ∧ n = 65 - i ∧ x = (cnt s.c.L (fun c => c.x.i == id) (j * 65 + i) : Nat) ∧ Mod [] w3 w', ⟨64, 1, rfl, by omega, by omega, rfl, by rw [cnt_row hw8], m4⟩, ?_⟩
      rintro n x t - w5 ⟨i, rfl, hi1, hi, rfl, rfl, m5⟩
      refine ⟨fun hlt2 => ?_, fun hge2 => ⟨12 - (j + 1), by omega, j + 1, by rw [w64 (by omega) (by omega)]; omega, by omega, rfl, by rw [show i = 65 by omega, show (j + 1) * 65 = j * 65 + 65 by omega], m5⟩⟩
      refine ⟨fun x w' => x = (cnt s.c.L (fun c => c.x.i == id) (j * 65 + (i + 1)) : Nat) ∧ Mod [] w3 w', ?_, ?_⟩
      · rintro x - w' ⟨rfl, m'⟩
        exact ⟨65 - (i + 1), by omega, i + 1, by rw [w64 (by omega) (by omega)]; omega, by omega, by omega, rfl, rfl, m'⟩
      have h5 := h1.mod0 (s3.mod.trans' m5)
      rw [cnt_at hw8 _ (by omega) hi1 (by omega)]
      have hle2 := hle (j * 65 + i)
      refine ⟨_, kc1 h5, pget_run (kcp h5) j i fun w6 m6 => ⟨_, _, _, _, _, rfl, ?_⟩⟩
      have s6 := (s3.mod0 m5).mod0 m6
      refine s6.new fun b2 w7 s7 m7 hb2 => s7.st0 0 rfl rfl fun w8 s8 m8 => ?_
      have m38 : Mod [] w3 w8 := by
        refine ((m5.trans' m6).trans' m7).trans m8 fun x hx hlt => ?_
        simp only [List.mem_singleton] at hx
        subst hx
        have := (m5.trans' m6).size
        omega
      unfold getV8 at s8 ⊢
      cases hl : look8 s.c.L j i with
      | none => exact spl_f rfl ⟨by simp, m38⟩
      | some c =>
        rw [hl] at s8
        refine spl_t rfl ⟨_, s8.cell 0 rfl rfl, id, by rw [hid]; exact s8.cell 1 rfl rfl, spl_of (fun he => ⟨?_, m38⟩) (fun he => ⟨?_, m38⟩)⟩
        · rw [w64 (by omega) (by omega)]
          simp only [he, if_true]
          omega
        · simp only [he]
          simp
    · obtain rfl : j = 12 := by omega
      rw [show 12 * 65 = 780 from rfl, cnt_end hw8]
      exact hK w4 (s3.mod.trans' m4)
  · rw [if_neg (by rw [hf]; simp)] at hK
    exact hK w3 s3.mod

theorem kr_left (h : KR w p s F) (hS : Small s.c) {K : Value → World → Prop} (hK : ∀ w', Mod [] w w' → K (.int .i64 (left9 s : Nat)) w') : CallsR Tryz.prog F_janusref09_Kernel_Left #[.pointer (some ⟨p, 0, none⟩)] w K := by
  obtain ⟨hT, A, h1, hR, rfl⟩ := h
  apply R_janusref09_Kernel_Left_ok
  simp only [R_janusref09_Kernel_Left, nilK_some, addr_add, Nat.zero_add, spl_decide]
  have hle : s.m.length ≤ 1024 := by obtain ⟨_, _, _, _, _, _, _, _, _, _, _, _, _, _, h5⟩ := rmem h1; exact h5
  refine ⟨fun n x t w' => ∃ j : Nat, t = j ∧ j ≤ s.m.length ∧ n = s.m.length - j ∧ x = (((List.range j).filter fun f => free9 s.c (f : Nat)).length : Nat) ∧ Mod [] w w', ⟨s.m.length, 0, rfl, by omega, rfl, rfl, Mod.refl _ _⟩, ?_⟩
  rintro n x t - w1 ⟨j, rfl, hj, rfl, rfl, m1⟩
  have hb := List.length_filter_le (fun f => free9 s.c (f : Nat)) (List.range j)
  rw [List.length_range] at hb
  have h2 := h1.mod0 m1
  obtain ⟨Tm, am, cm, hpm⟩ := memr_ptr (rmem h2)
  refine ⟨_, rc0 h2 hR, ?_⟩
  rw [nilK_some]
  refine ⟨_, _, _, by rw [cell_get hpm]; rfl, fun hlt => ⟨fun x w' => x = (((List.range (j + 1)).filter fun f => free9 s.c (f : Nat)).length : Nat) ∧ Mod [] w w', ?_, ?_⟩, fun hge => ?_⟩
  · rintro x - w' ⟨rfl, m'⟩
    exact ⟨s.m.length - (j + 1), by omega, j + 1, by rw [w64 (by omega) (by omega)]; omega, by omega, rfl, rfl, m'⟩
  · refine ⟨_, rc1 h2 hR, holders8_run (rcr h2) (by have := hS.1; omega) 1 j (wf64_of (by omega) (by omega)) fun a c w2 G hs hG m2 _ => ⟨_, _, _, rfl, ?_⟩⟩
    have e1 : ((((holders8 s.c.L 1 j).length : Nat) : Int) == 0) = free9 s.c (j : Nat) := by
      unfold free9
      cases holders8 s.c.L 1 j with
      | nil => rfl
      | cons x l => simp; omega
    rw [e1]
    refine spl_of (fun ht => ⟨?_, m1.trans' m2⟩) (fun hf => ⟨?_, m1.trans' m2⟩)
    · rw [List.range_succ, List.filter_append, w64 (by omega) (by omega)]
      simp [ht]
    · rw [List.range_succ, List.filter_append]
      simp [hf]
  · obtain rfl : j = s.m.length := by omega
    exact hK w1 m1

theorem kr_page (h : KR w p s F) (e q : Int) {K : Value → World → Prop} (hK : ∀ w', Mod [] w w' → K (.tuple #[.agg #[.int .i64 (pz (pageT s e q)).1, .bool (pz (pageT s e q)).2], .bool (pageT s e q).isSome]) w') :
    CallsR Tryz.prog F_janusref09_Kernel_Page #[.pointer (some ⟨p, 0, none⟩), .int .i64 e, .int .i64 q] w K := by
  obtain ⟨hT, A, h1, hR, rfl⟩ := h
  apply R_janusref09_Kernel_Page_ok
  simp only [R_janusref09_Kernel_Page, nilK_some, addr_add, Nat.zero_add]
  refine (Sep.nil (Mod.refl [] w)).new fun b w1 s1 m1 hb => ?_
  have h2 := h1.mod0 m1
  unfold pageT at hK
  refine env8_run e ⟨_, rfl, ?_⟩
  rw [spl_decide]
  refine ⟨fun he => ?_, fun he => ?_⟩
  · rw [if_pos he] at hK
    refine ⟨⟨he.1, he.2⟩, tblr_at (rblk h2) (hR.t _ (by unfold env12 at he; omega)) q fun w2 m2 => ⟨_, _, _, rfl, ?_⟩⟩
    have s2 := s1.mod0 m2
    exact s2.st0 0 rfl rfl fun w3 s3 m3 => ⟨_, _, ⟨s3.cell 0 rfl rfl, s3.cell 0 rfl rfl⟩, hK w3 s3.mod⟩
  · rw [if_neg he] at hK
    exact s1.st0 0 rfl rfl fun w3 s3 m3 => ⟨_, _, ⟨s3.cell 0 rfl rfl, s3.cell 0 rfl rfl⟩, hK w3 s3.mod⟩

theorem kr_slot (h : KR w p s F) (hS : Small s.c) (e f : Int) {K : Value → World → Prop} (hK : ∀ w', Mod [] w w' → K (.int .i64 (slotV s e f)) w') :
    CallsR Tryz.prog F_janusref09_Kernel_Slot #[.pointer (some ⟨p, 0, none⟩), .int .i64 e, .int .i64 f] w K := by
  obtain ⟨hT, A, h1, hR, rfl⟩ := h
  apply R_janusref09_Kernel_Slot_ok
  simp only [R_janusref09_Kernel_Slot, nilK_some, addr_add, Nat.zero_add, spl_decide]
  refine ⟨fun n t w' => ∃ j : Nat, t = j ∧ 1 ≤ j ∧ j ≤ 65 ∧ n = 65 - j ∧ slotV s e f = slotIn s e f j (65 - j) ∧ Mod [] w w', ⟨64, 1, rfl, by omega, by omega, rfl, rfl, Mod.refl _ _⟩, ?_⟩
  rintro n t - w1 ⟨j, rfl, hj1, hj, rfl, hs, m1⟩
  refine ⟨fun hlt => ?_, fun hge => ?_⟩
  · have ej : 65 - j = 65 - (j + 1) + 1 := by omega
    rw [ej, slotIn] at hs
    refine ⟨fun w' => isSlot s e f j = false ∧ Mod [] w w', fun _ w' hw' => ⟨65 - (j + 1), by omega, j + 1, by rw [w64 (by omega) (by omega)]; omega, by omega, by omega, rfl, by rw [hs, hw'.1]; rfl, hw'.2⟩, ?_⟩
    have h2 := h1.mod0 m1
    refine ⟨_, rc1 h2 hR, get8_run (rcr h2) (by have := hS.1; omega) e j fun w2 m2 => ⟨_, _, _, _, _, rfl, ?_⟩⟩
    refine (Sep.nil (m1.trans' m2)).new fun b w3 s3 m3 hb => s3.st0 0 rfl rfl fun w4 s4 m4 => ?_
    unfold isSlot at hs ⊢
    refine spl_of (fun ht => ⟨_, s4.cell 0 rfl rfl, spl_of (fun he => ?_) (fun he => ⟨by rw [ht, Bool.true_and]; exact he, s4.mod⟩)⟩) (fun hf => ⟨by rw [hf]; rfl, s4.mod⟩)
    rw [ht, Bool.true_and, he] at hs
    have := hK w4 s4.mod
    rw [hs] at this
    exact this
  · obtain rfl : j = 65 := by omega
    have := hK w1 m1
    rw [hs] at this
    exact this

theorem kr_refs (h : KR w p s F) (hS : Small s.c) (e sl : Int) {K : Value → World → Prop} (hK : ∀ w', Mod [] w w' → K (.int .i64 (refsV s e sl : Nat)) w') :
    CallsR Tryz.prog F_janusref09_Kernel_Refs #[.pointer (some ⟨p, 0, none⟩), .int .i64 e, .int .i64 sl] w K := by
  obtain ⟨hT, A, h1, hR, rfl⟩ := h
  apply R_janusref09_Kernel_Refs_ok
  simp only [R_janusref09_Kernel_Refs, nilK_some, addr_add, Nat.zero_add, spl_decide]
  obtain ⟨hS1, hS2⟩ := hS
  refine ⟨_, rc1 h1 hR, get8_run (rcr h1) (by omega) e sl fun w1 m1 => ⟨_, _, _, _, _, rfl, ?_⟩⟩
  refine (Sep.nil m1).new fun b w2 s2 m2 hb => s2.st0 0 rfl rfl fun w3 s3 m3 => ?_
  unfold refsV at hK
  obtain ⟨id, hid⟩ : ∃ id, id = (getV8 s.c.L e sl).1.i := ⟨_, rfl⟩
  rw [← hid] at hK
  refine ⟨fun n x t w' => ∃ j : Nat, t = j ∧ j ≤ s.c.L.length ∧ n = s.c.L.length - j ∧ x = (((s.c.L.take j).filter fun c => c.x.i == id).length : Nat) ∧ ((getV8 s.c.L e sl).2 = false → j = 0) ∧ Mod [] w3 w', ⟨s.c.L.length, 0, rfl, by omega, rfl, rfl, fun _ => rfl, Mod.refl _ _⟩, ?_⟩
  rintro n x t - w4 ⟨j, rfl, hj, rfl, rfl, hz, m4⟩
  have h4 := h1.mod0 (s3.mod.trans' m4)
  obtain ⟨hw, a, l, c, G, T, g1, g2, g3, g4⟩ := rcr h4
  have hl := g2.count cec_8 (by decide)
  refine ⟨_, rc1 h4 hR, ?_⟩
  rw [nilK_some]
  refine ⟨a, l, c, by rw [cell_get g1]; rfl, fun hlt => spl_of (fun ht => ?_) (fun hf => ?_), fun hge => ?_⟩
  · have hjl : j < s.c.L.length := by omega
    have hb := List.length_filter_le (fun c => c.x.i == id) (s.c.L.take j)
    rw [List.length_take] at hb
    obtain ⟨d, hd⟩ : ∃ d, s.c.L[j]? = some d := ⟨_, List.getElem?_eq_getElem hjl⟩
    have et : (s.c.L.take (j + 1)).filter (fun c => c.x.i == id) = (s.c.L.take j).filter (fun c => c.x.i == id) ++ [d].filter (fun c => c.x.i == id) := by
      rw [List.take_add_one, hd, List.filter_append]; rfl
    refine ⟨fun x w' => x = (((s.c.L.take (j + 1)).filter fun c => c.x.i == id).length : Nat) ∧ Mod [] w3 w', ?_, ?_⟩
    · rintro x - w' ⟨rfl, m'⟩
      exact ⟨s.c.L.length - (j + 1), by omega, j + 1, by rw [w64 (by omega) (by omega)]; omega, by omega, rfl, rfl, fun h => by rw [ht] at h; (cases h), m'⟩
    rw [drK_eq]
    have m5 := m4.drew
    have h5 := h4.mod0 ((Mod.refl [] w4).drew)
    have s5 := s3.mod0 m5
    have g15 : w4.drew.heap[A.pc]? = some (.cells #[.slice a l c, .int .i64 s.c.last] T (0, 0)) := g1
    have g25 := g2.keep (w' := w4.drew) fun _ _ => rfl
    generalize w4.drew = w5 at m5 h5 s5 g15 g25 ⊢
    refine ⟨_, rc1 h5 hR, ?_⟩
    rw [nilK_some]
    refine ⟨a, l, c, by rw [cell_get g15]; rfl, ?_⟩
    obtain ⟨ad, d', rfl, hd', -, -, hc⟩ := g25.rd.rowc cec_8 (by decide) (i := j) (by omega)
    rw [hd] at hd'
    obtain rfl := Option.some.inj hd'
    simp only [nilK_some, Int.toNat_natCast, add_add, Nat.add_assoc, Nat.reduceAdd]
    refine ⟨⟨by omega, by omega⟩, d.x.i, hc 5 (by decide), id, by rw [hid]; exact s5.cell 0 rfl rfl, spl_of (fun he => ⟨?_, m5⟩) (fun he => ⟨?_, m5⟩)⟩
    · rw [et, List.filter_cons, he, w64 (by omega) (by omega)]
      simp
    · rw [et, List.filter_cons, he]
      simp
  · rw [if_neg (by rw [hf]; simp)] at hK
    have hj0 := hz hf
    subst hj0
    exact hK w4 (s3.mod.trans' m4)
  · have hjl : j = s.c.L.length := by omega
    subst hjl
    rw [List.take_length]
    cases ht : (getV8 s.c.L e sl).2 with
    | true => rw [if_pos ht] at hK; exact hK w4 (s3.mod.trans' m4)
    | false =>
      rw [if_neg (by rw [ht]; simp)] at hK
      have h0 := hz ht
      have : s.c.L = [] := List.eq_nil_of_length_eq_zero h0
      have := hK w4 (s3.mod.trans' m4)
      simpa [‹s.c.L = []›] using this
end

end Go.Proofs

set_option linter.unusedSimpArgs false
namespace Go.Proofs
open Go Go.Den

theorem plays_run (w : World) (n : Int) (_hn : (Lit.int .i64 n).wf = true) (a : Option Addr) (l c : Nat) (hin : SlIn w 8 Q_januslaw09_Deed a l c) : CallsR Tryz.prog F_januslaw09_ExomemPlays #[.int .i64 n, .slice a l c] w fun v w' => v = .bool true ∧ Mod [] w w' := by
  apply R_januslaw09_ExomemPlays_ok
  simp only [R_januslaw09_ExomemPlays, spl_decide, spl_bne]
  have hlle := hin.le
  refine kp_new n w (fun h => ⟨_, rfl, ?_⟩) fun k p F1 w1 hk hk1 hk2 h1 m1 b1 => ⟨_, rfl, ?_⟩
  · refine kr_new n w (fun _ => ⟨_, rfl, spl_f rfl ⟨fun _ => fin_run (Mod.refl _ _), fun _ => ?_⟩⟩) fun k q G1 w2 hk hk1 hk2 h2 m2 b2 => absurd h (by omega)
    refine ⟨fun w' => Mod [] w w', fun _ w' hm => fin_run hm, fun n i w' => w' = w, ⟨0, rfl⟩, ?_⟩
    rintro n i - w' rfl
    exact ⟨fun _ => ⟨fun _ => spl_f rfl (Mod.refl _ _), fun _ => Mod.refl _ _⟩, fun _ => Mod.refl _ _⟩
  refine kr_new n w1 (fun h => absurd h (by omega)) fun k' q G1 w2 hk' _ _ h2 m2 b2 => ⟨_, rfl, spl_f rfl ?_⟩
  obtain rfl : k' = k := by omega
  have s1 := (Sep.nil (Mod.refl [] w)).push (kpPart p _ F1) m1 h1 b1
  have s2 := s1.push (krPart q _ G1) m2 h2 b2
  refine ⟨fun _ => fin_run s2.mod, fun _ => ⟨fun w' => Mod [] w w', fun _ w' hm => fin_run hm, ?_⟩⟩
  refine ⟨fun n i w' => ∃ (k : Nat) (s : S9) (F G : List Nat), i = k ∧ k ≤ l ∧ k ≤ 100 ∧ n = l - k ∧ s.c.L.length ≤ k ∧ s.c.last ≤ k ∧ Sep w w' [krPart q s G, kpPart p s F], ⟨l, 0, _, F1, G1, rfl, by omega, by omega, rfl, by simp [init9], by simp [init9], s2⟩, ?_⟩
  clear s1 s2 h1 h2 m1 m2 b1 b2
  rintro n i - w3 ⟨k, s, F, G, rfl, hk, hk1, rfl, hsL, hsl, s3⟩
  refine ⟨fun hlt => ⟨fun h100 => spl_t rfl ?_, fun _ => s3.mod⟩, fun _ => s3.mod⟩
  have hkl : k < l := by omega
  obtain ⟨ad, cs, rfl, hadlt, ⟨d0, d1, d2, d3, d4, d5, d6, d7, rfl, f0, f1, f2, f3, f4, f6, f7⟩, -, hcell⟩ := hin.at hkl
  have cell : ∀ j v, j < 8 → [Value.int .i64 d0, .int .i64 d1, .int .i64 d2, .int .i64 d3, .int .i64 d4, .bool d5, .int .u64 d6, .int .u64 d7][j]? = some v → w3.cell? (Addr.add (Addr.add ad (k * 8)) j) = some v := fun j v hj hv => by
    rw [← hv, ← hcell j hj]
    exact s3.mod.cell (by rw [add_block, add_block]; exact hadlt)
  simp only [nilK_some, Int.toNat_natCast]
  refine ⟨⟨by omega, by omega⟩, d0, d1, d2, d3, d4, d5, d6, d7, ⟨by have := cell 0 _ (by decide) rfl; rwa [add_zero] at this, cell 1 _ (by decide) rfl, cell 2 _ (by decide) rfl, cell 3 _ (by decide) rfl, cell 4 _ (by decide) rfl, cell 5 _ (by decide) rfl, cell 6 _ (by decide) rfl, cell 7 _ (by decide) rfl⟩, ?_⟩
  clear cell hcell
  refine s3.new fun b w4 s4 m4 hb => s4.st0 0 rfl rfl fun w5 s5 m5 => ?_
  rw [drK_eq]
  have s6 := s5.mod0 ((Mod.refl [] w5).drew)
  generalize w5.drew = w6 at s6 ⊢
  refine ⟨[b], by simp, d0, d1, d2, d3, d4, d5, d6, d7, ⟨s6.cell 0 rfl rfl, s6.cell 0 rfl rfl, s6.cell 0 rfl rfl, s6.cell 0 rfl rfl, s6.cell 0 rfl rfl, s6.cell 0 rfl rfl, s6.cell 0 rfl rfl, s6.cell 0 rfl rfl⟩, ?_⟩
  have hlen := do9_len s ⟨d0, d1, d2, d3, d4, d5, d6, d7⟩
  refine do_run s6 ⟨by omega, by omega⟩ d0 d1 d2 d3 d4 d5 d6 d7 (u64_bounds f6).1 fun w7 F7 G7 s7 => ⟨_, rfl, ?_⟩
  obtain ⟨s', hs'⟩ : ∃ s', s' = do9 s ⟨d0, d1, d2, d3, d4, d5, d6, d7⟩ := ⟨_, rfl⟩
  rw [← hs'] at s7 hlen
  clear hs'
  have hS : Small s'.c := ⟨by have := hlen.1; omega, by have := hlen.2; omega⟩
  have kp : ∀ {u : World} {l : List Part}, Sep w u l → l[0]? = some (blk b _) → keepB [b] w6 u := fun h h0 => keepB1 (s6.kept h 0 0 rfl h0)
  refine spl_t rfl ⟨kp s7 rfl, ?_⟩
  refine kp_left (s7.nth 2 rfl : KP w7 p s' F7) fun w8 m8 => ⟨_, rfl, ?_⟩
  have s8 := s7.mod0 m8
  refine ⟨kp s8 rfl, ?_⟩
  refine kr_left (s8.nth 1 rfl : KR w8 q s' G7) hS fun w9 m9 => ⟨_, rfl, ?_⟩
  have s9 := s8.mod0 m9
  refine ⟨kp s9 rfl, fun h => absurd rfl h, fun _ => ⟨by simp, d1, s9.cell 0 rfl rfl, by simp, d2, s9.cell 0 rfl rfl, by simp, d1, s9.cell 0 rfl rfl, by simp, d2, s9.cell 0 rfl rfl, ?_⟩⟩
  refine kp_refs (s9.nth 2 rfl : KP w9 p s' F7) d1 d2 (hS := hS) fun w10 m10 => ⟨_, rfl, ?_⟩
  have s10 := s9.mod0 m10
  refine ⟨kp s10 rfl, ?_⟩
  refine kr_refs (s10.nth 1 rfl : KR w10 q s' G7) hS d1 d2 fun w11 m11 => ⟨_, rfl, ?_⟩
  have s11 := s10.mod0 m11
  refine ⟨kp s11 rfl, fun h => absurd rfl h, fun _ => ⟨by simp, d1, s11.cell 0 rfl rfl, by simp, d4, s11.cell 0 rfl rfl, by simp, d1, s11.cell 0 rfl rfl, by simp, d4, s11.cell 0 rfl rfl, ?_⟩⟩
  refine kp_slot (s11.nth 2 rfl : KP w11 p s' F7) d1 d4 fun w12 m12 => ⟨_, rfl, ?_⟩
  have s12 := s11.mod0 m12
  refine ⟨kp s12 rfl, ?_⟩
  refine kr_slot (s12.nth 1 rfl : KR w12 q s' G7) hS d1 d4 fun w13 m13 => ⟨_, rfl, fun h => absurd rfl h, fun _ => ?_⟩
  have s13 := s12.mod0 m13
  refine ⟨fun n e w' => ∃ j : Nat, e = j ∧ j ≤ 12 ∧ n = 12 - j ∧ Sep w w' [blk b _, krPart q s' G7, kpPart p s' F7], ⟨12, 0, rfl, by omega, rfl, s13⟩, ?_⟩
  rintro n e - w14 ⟨j, rfl, hj, rfl, s14⟩
  refine ⟨fun hlt => ?_, fun hge => ⟨l - (k + 1), by omega, k + 1, s', F7, G7, by rw [w64 (by omega) (by omega)]; omega, by omega, by omega, rfl, by have := hlen.1; omega, by have := hlen.2; omega, s14.pop⟩⟩
  refine ⟨fun n e w' => ∃ i : Nat, e = i ∧ i ≤ 4 ∧ n = 4 - i ∧ Sep w w' [blk b _, krPart q s' G7, kpPart p s' F7], ⟨4, 0, rfl, by omega, rfl, s14⟩, ?_⟩
  rintro n e - w15 ⟨i, rfl, hi, rfl, s15⟩
  refine ⟨fun hlt2 => ?_, fun hge2 => ⟨12 - (j + 1), by omega, j + 1, by rw [w64 (by omega) (by omega)]; omega, by omega, rfl, s15⟩⟩
  refine kp_page (s15.nth 2 rfl : KP w15 p s' F7) j i fun w16 m16 => ⟨_, _, _, rfl, ?_⟩
  have s16 := s15.mod0 m16
  refine s16.new fun bx w17 s17 m17 hbx => s17.st0 0 rfl rfl fun w18 s18 m18 => ?_
  refine kr_page (s18.nth 2 rfl : KR w18 q s' G7) j i fun w19 m19 => ⟨_, _, _, rfl, ?_⟩
  have s19 := s18.mod0 m19
  refine s19.new fun bz w20 s20 m20 hbz => s20.st0 0 rfl rfl fun w21 s21 m21 => ?_
  refine ⟨_, _, ⟨s21.cell 1 rfl rfl, s21.cell 1 rfl rfl⟩, _, _, ⟨s21.cell 0 rfl rfl, s21.cell 0 rfl rfl⟩, ?_⟩
  generalize pageT s' j i = x
  refine eqAgg_K eqT_api_Page (xs := [.int .i64 (pz x).1, .bool (pz x).2]) (ys := [.int .i64 (pz x).1, .bool (pz x).2]) (by simp [matchL, matchS]) (by simp [matchL, matchS]) ?_
  refine spl_f (by simp [cellsEq, cellEq]) (spl_f (by simp) ?_)
  exact ⟨4 - (i + 1), by omega, i + 1, by rw [w64 (by omega) (by omega)]; omega, by omega, rfl, s21.pop.pop⟩

end Go.Proofs
