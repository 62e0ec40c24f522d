/-
  Layer 12: what all its statements use: a deed with both kernels; awake.
  Layer 12: awake; a kernel that is none.
  Layer 12: the walks of 'ExodiskShares', 'ExodiskSyncs' and 'ExodiskGuards'.
  Layer 12: the walk of 'ExodiskSyncs'.
-/
import Derived.Test.YtjfgaiffdcnclaaR12A
import Derived.Test.YtjfgaiffdcnclaaL12A
import Derived.Test.YtjfgaiffdcnclaaD3rA
import Derived.Test.YtjfgaiffdcnclaaDenB
set_option linter.unusedVariables false
set_option linter.unusedSimpArgs false
namespace Go.Proofs
open Go Go.Den

theorem wf64_le {n : Int} (h : (Lit.int .i64 n).wf = true) : -9223372036854775808 ≤ n ∧ n ≤ 9223372036854775807 := by
  simp [Lit.wf, IntKind.min, IntKind.max, IntKind.bits, IntKind.signed] at h
  omega

section
variable {w0 w : World} {p q : Nat} {s : S12} {F G : List Nat} {y : Part} {rest : List Part}

theorem view12_run (hs : Sep w0 w (y :: krPart12 q s G :: kpPart12 p s F :: rest)) (hS : Small12 s.c) (d0 d1 d2 d3 d4 d5 d6 : Int) (hd : d0 = 6 ∨ d0 = 7) {K : Value → World → Prop}
    (hK : ∀ w' F' G', Sep w0 w' (y :: krPart12 q (do12 blockOf s ⟨d0, d1, d2, d3, d4, d5, d6⟩) G' :: kpPart12 p (do12 blockOf s ⟨d0, d1, d2, d3, d4, d5, d6⟩) F' :: rest) → K (.bool true) w') :
    CallsR Try.prog F_januslaw12_view #[.pointer (some ⟨p, 0, none⟩), .pointer (some ⟨q, 0, none⟩), .agg #[.int .i64 d0, .int .i64 d1, .int .i64 d2, .int .i64 d3, .int .i64 d4, .int .i64 d5, .int .u64 d6]] w K := by
  apply R_januslaw12_view_ok
  simp only [R_januslaw12_view, spl_beq, spl_bne]
  refine hs.new fun b w1 s1 m1 hb => ⟨_, s1.cell 0 rfl rfl, _, s1.cell 0 rfl rfl, ?_⟩
  apply R_exodisk_Kernel_View_ok
  simp only [R_exodisk_Kernel_View, Option.isNone_some, spl_false]
  refine s1.new fun v w2 s2 m2 hv => ⟨_, rfl, ?_⟩
  simp only [Option.isNone_some, spl_false]
  refine ⟨_, s2.cell 1 rfl rfl, _, s2.cell 1 rfl rfl, _, s2.cell 1 rfl rfl, kr12_rel (s2.nth 3 rfl : KR12 w2 q s G) hS d1 d2 d4 fun w3 m3 => ⟨_, _, rfl, _, (s2.mod0 m3).cell 1 rfl rfl, fun h6 => ?_, fun h6 => ?_⟩⟩
  · have s3 := s2.mod0 m3
    have eS : do12 blockOf s ⟨d0, d1, d2, d3, d4, d5, d6⟩ = if (relV12 s d1 d2 d4).2 = 0 then getS12 s d1 d2 (relV12 s d1 d2 d4).1 else s := by subst h6; simp [do12]
    rw [eS] at hK
    have hT : T12 s := (s3.nth 4 rfl : KP12 w3 p s F).t
    have hw8 : W8 s.c := (s3.nth 4 rfl : KP12 w3 p s F).w8
    have hin := relV12_in hT hw8 d1 d2 d4
    refine ⟨_, s3.cell 1 rfl rfl, kview12_get (s3.nth 4 rfl : KP12 w3 p s F) (s3.nth 0 rfl) d4 (fun hne w4 m4 => ⟨_, _, _, _, rfl, fun _ => ⟨fun _ => ?_, fun h => absurd rfl h⟩, fun h => absurd h hne⟩) (fun heq w4 F4 a c Ga g4 m4 o4 hsl hG hdj => ⟨_, _, _, _, rfl, fun h => absurd heq h, fun _ => ?_⟩)⟩
    · rw [if_neg hne] at hK
      have s4 := s3.mod0 m4
      exact hK w4 F G s4.pop.pop
    · rw [if_pos heq] at hK
      have s4 := s3.step_add 4 rfl (kpPart12 p _ F4) g4 m4 o4 (sl a _ c 1 _ Ga) hsl hG hdj
      refine ⟨_, s4.cell 2 rfl rfl, _, s4.cell 2 rfl rfl, kr12_get (s4.nth 4 rfl : KR12 w4 q s G) hS d1 d2 _ (by omega) fun w5 F5 a5 c5 G5 g5 m5 o5 hs5 => ⟨_, _, _, _, rfl, ?_⟩⟩
      have s5 := s4.step 4 rfl (krPart12 q _ F5) g5 m5 o5
      refine words_rd (s5.nth 0 rfl : SlB _ _ _ _ _ _ _).rd hs5.rd (Nat.le_trans (getV12_le hT hw8 ..) (by omega)) fun w6 m6 => ⟨_, rfl, ?_⟩
      rw [decide_eq_true rfl, spl_true, beq_self_eq_true]
      have s6 := s5.mod0 m6
      exact hK w6 F4 F5 s6.pop.pop.pop
  · have h7 : d0 = 7 := hd.resolve_left h6
    have s3 := s2.mod0 m3
    have eS : do12 blockOf s ⟨d0, d1, d2, d3, d4, d5, d6⟩ = if (relV12 s d1 d2 d4).2 = 0 then putS12 s d1 d2 (relV12 s d1 d2 d4).1 (blockOf d5 d6) else s := by subst h7; simp [do12]
    rw [eS] at hK
    have hT : T12 s := (s3.nth 4 rfl : KP12 w3 p s F).t
    have hw8 : W8 s.c := (s3.nth 4 rfl : KP12 w3 p s F).w8
    have hin := relV12_in hT hw8 d1 d2 d4
    rw [drK_eq]
    have s4 := s3.mod0 ((Mod.refl [] w3).drew)
    generalize w3.drew = w4 at s4 ⊢
    refine ⟨[b], by simp, _, s4.cell 1 rfl rfl, by simp, _, s4.cell 1 rfl rfl, by simp, _, s4.cell 1 rfl rfl, ?_⟩
    refine block_run d5 d6 w4 fun w5 a5 c5 G5 hs5 hG5 m5 => ⟨_, _, _, rfl, keepB1 (s4.kept (s4.mod0 m5) 1 1 rfl rfl), ?_⟩
    have s5 := s4.push (sl a5 _ c5 1 _ G5) m5 hs5 hG5
    refine kview12_put (s5.nth 5 rfl : KP12 w5 p s F) (s5.nth 1 rfl) d4 hs5.rd (fun hne w6 m6 => ⟨_, rfl, fun _ => ?_, fun h => absurd h hne⟩) (fun heq w6 F6 g6 m6 o6 => ⟨_, rfl, fun h => absurd heq h, fun _ => ?_⟩)
    · rw [if_neg hne] at hK
      rw [beq_self_eq_true]
      have s6 := s5.mod0 m6
      exact hK w6 F G s6.pop.pop.pop
    · rw [if_pos heq] at hK
      have s6 := s5.step 5 rfl (kpPart12 p _ F6) g6 m6 o6
      rw [drK_eq]
      have s7 := s6.mod0 ((Mod.refl [] w6).drew)
      generalize w6.drew = w7 at s7 ⊢
      refine ⟨[b], by simp, _, s7.cell 2 rfl rfl, by simp, _, s7.cell 2 rfl rfl, by simp, _, s7.cell 2 rfl rfl, by simp, _, s7.cell 2 rfl rfl, ?_⟩
      refine block_run d5 d6 w7 fun w8 a8 c8 G8 hs8 hG8 m8 => ⟨_, _, _, rfl, keepB1 (s7.kept (s7.mod0 m8) 2 2 rfl rfl), ?_⟩
      have s8 := s7.push (sl a8 _ c8 1 _ G8) m8 hs8 hG8
      refine kr12_put (s8.nth 5 rfl : KR12 w8 q s G) hS d1 d2 _ (by omega) hs8.rd (fun x hx hx' => s8.dj 0 5 (by decide) rfl rfl x hx hx') fun w9 G9 g9 m9 o9 => ⟨_, rfl, ?_⟩
      have s9 := s8.step 5 rfl (krPart12 q _ G9) g9 m9 o9
      rw [beq_self_eq_true]
      exact hK w9 F6 G9 s9.pop.pop.pop.pop

theorem do12_run (hs : Sep w0 w (y :: krPart12 q s G :: kpPart12 p s F :: rest)) (hS : Small12 s.c) (d0 d1 d2 d3 d4 d5 d6 : Int) (h4 : d4 ≤ 9223372036854775807) {K : Value → World → Prop}
    (hK : ∀ w' F' G', Sep w0 w' (y :: krPart12 q (do12 blockOf s ⟨d0, d1, d2, d3, d4, d5, d6⟩) G' :: kpPart12 p (do12 blockOf s ⟨d0, d1, d2, d3, d4, d5, d6⟩) F' :: rest) → K (.bool true) w') :
    CallsR Try.prog F_januslaw12_do #[.pointer (some ⟨p, 0, none⟩), .pointer (some ⟨q, 0, none⟩), .agg #[.int .i64 d0, .int .i64 d1, .int .i64 d2, .int .i64 d3, .int .i64 d4, .int .i64 d5, .int .u64 d6]] w K := by
  apply R_januslaw12_do_ok
  simp only [R_januslaw12_do, spl_beq, nilK_some, addr_add, Nat.zero_add]
  have hT : T12 s := (hs.nth 2 rfl : KP12 w p s F).t
  have hw8 : W8 s.c := (hs.nth 2 rfl : KP12 w p s F).w8
  have hS0 := hS
  obtain ⟨hS1, hS2⟩ := hS0
  refine hs.new fun b w1 s1 m1 hb => ⟨d0, s1.cell 0 rfl rfl, fun e0 => ?_, fun n0 => ⟨fun e1 => ?_, fun n1 => ⟨fun e2 => ?_, fun n2 => ⟨fun e3 => ?_, fun n3 => ⟨fun e4 => ?_, fun n4 => ⟨fun e5 => ?_, fun n5 => ⟨fun e6 => ?_, fun n6 => ⟨fun e7 => ?_, fun n7 => ?_⟩⟩⟩⟩⟩⟩⟩⟩
  · have eS : do12 blockOf s ⟨d0, d1, d2, d3, d4, d5, d6⟩ = allocS12 s d1 d4 d5 := by simp [do12, e0]
    rw [eS] at hK
    refine ⟨_, s1.cell 0 rfl rfl, _, s1.cell 0 rfl rfl, _, s1.cell 0 rfl rfl, kp12_alloc (s1.nth 3 rfl : KP12 w1 p s F) d1 d4 d5 fun w2 F2 h2 m2 o2 => ⟨_, _, rfl, ?_⟩⟩
    have s2 := s1.step 3 rfl (kpPart12 p _ F2) h2 m2 o2
    refine ⟨_, s2.cell 0 rfl rfl, _, s2.cell 0 rfl rfl, _, s2.cell 0 rfl rfl, kr12_alloc (s2.nth 2 rfl : KR12 w2 q s G) hS d1 d4 d5 fun w3 G3 h3 m3 o3 => ⟨_, _, rfl, fun _ => ?_, fun h => absurd rfl h⟩⟩
    have s3 := s2.step 2 rfl (krPart12 q _ G3) h3 m3 o3
    rw [beq_self_eq_true]
    exact hK w3 F2 G3 s3.pop
  · have eS : do12 blockOf s ⟨d0, d1, d2, d3, d4, d5, d6⟩ = grantS12 s d1 d2 d3 d5 := by simp [do12, e1]
    rw [eS] at hK
    refine ⟨_, s1.cell 0 rfl rfl, _, s1.cell 0 rfl rfl, _, s1.cell 0 rfl rfl, _, s1.cell 0 rfl rfl, kp12_grant (s1.nth 3 rfl : KP12 w1 p s F) d1 d2 d3 d5 fun w2 F2 h2 m2 o2 => ⟨_, _, rfl, ?_⟩⟩
    have s2 := s1.step 3 rfl (kpPart12 p _ F2) h2 m2 o2
    rw [drK_eq]
    have s2 := s2.mod0 ((Mod.refl [] w2).drew)
    generalize w2.drew = w2 at s2 ⊢
    obtain ⟨pc, Fc, hpc, hcr, hback⟩ := kr12_caps (s2.nth 2 rfl : KR12 w2 q s G)
    refine ⟨[q, b], by simp, _, hpc, by simp, _, s2.cell 0 rfl rfl, by simp, _, s2.cell 0 rfl rfl, by simp, _, s2.cell 0 rfl rfl, by simp, _, s2.cell 0 rfl rfl, ?_⟩
    refine give8_run hcr (by omega) (by omega) d1 d2 d3 d5 fun w3 G3 g3 m3 o3 => ⟨_, _, rfl, fun _ => ?_, fun h => absurd rfl h⟩
    obtain ⟨G', h', m', o'⟩ := hback (hT.grant d1 d2 d3 d5) g3 m3 o3
    rw [beq_self_eq_true]
    exact hK w3 F2 G' (s2.step 2 rfl (krPart12 q _ G') h' m' o').pop
  · have eS : do12 blockOf s ⟨d0, d1, d2, d3, d4, d5, d6⟩ = revS12 s d1 d2 := by simp [do12, e2]
    rw [eS] at hK
    rw [drK_eq]
    have s1 := s1.mod0 ((Mod.refl [] w1).drew)
    generalize w1.drew = w1 at s1 ⊢
    obtain ⟨pc, Fc, hpc, hcr, hback⟩ := kr12_caps (s1.nth 2 rfl : KR12 w1 q s G)
    refine ⟨[q, b], by simp, _, hpc, by simp, _, s1.cell 0 rfl rfl, by simp, _, s1.cell 0 rfl rfl, ?_⟩
    refine revoke8_run hcr (by omega) d1 d2 fun w3 G3 g3 m3 o3 => ⟨_, _, rfl, ?_⟩
    obtain ⟨G', h', m', o'⟩ := hback (hT.rev d1 d2) g3 m3 o3
    have s2 := s1.step 2 rfl (krPart12 q _ G') h' m' o'
    refine ⟨_, s2.cell 0 rfl rfl, _, s2.cell 0 rfl rfl, kp12_revoke (s2.nth 3 rfl : KP12 w3 p s F) d1 d2 fun w4 F4 h4 m4 o4 => ⟨_, rfl, ?_⟩⟩
    rw [beq_self_eq_true]
    exact hK w4 F4 G' (s2.step 3 rfl (kpPart12 p _ F4) h4 m4 o4).pop
  · have eS : do12 blockOf s ⟨d0, d1, d2, d3, d4, d5, d6⟩ = getS12 s d1 d2 d4 := by simp [do12, e3]
    rw [eS] at hK
    refine ⟨_, s1.cell 0 rfl rfl, _, s1.cell 0 rfl rfl, _, s1.cell 0 rfl rfl, kp12_get (s1.nth 3 rfl : KP12 w1 p s F) d1 d2 d4 fun w2 F2 a c Ga g2 m2 o2 hsl hG hdj => ⟨_, _, _, _, rfl, ?_⟩⟩
    have s2 := s1.step_add 3 rfl (kpPart12 p _ F2) g2 m2 o2 (sl a _ c 1 _ Ga) hsl hG hdj
    refine ⟨_, s2.cell 1 rfl rfl, _, s2.cell 1 rfl rfl, _, s2.cell 1 rfl rfl, kr12_get (s2.nth 3 rfl : KR12 w2 q s G) hS d1 d2 d4 h4 fun w3 G3 a3 c3 Gb g3 m3 o3 hs3 => ⟨_, _, _, _, rfl, ?_⟩⟩
    have s3 := s2.step 3 rfl (krPart12 q _ G3) g3 m3 o3
    refine words_rd (s3.nth 0 rfl : SlB _ _ _ _ _ _ _).rd hs3.rd (Nat.le_trans (getV12_le hT hw8 ..) (by omega)) fun w4 m4 => ⟨_, rfl, ?_⟩
    rw [decide_eq_true rfl, spl_true, beq_self_eq_true]
    exact hK w4 F2 G3 (s3.mod0 m4).pop.pop
  · have eS : do12 blockOf s ⟨d0, d1, d2, d3, d4, d5, d6⟩ = putS12 s d1 d2 d4 (blockOf d5 d6) := by simp [do12, e4]
    rw [eS] at hK
    rw [drK_eq]
    have s1 := s1.mod0 ((Mod.refl [] w1).drew)
    generalize w1.drew = w1 at s1 ⊢
    refine ⟨[b], by simp, _, s1.cell 0 rfl rfl, by simp, _, s1.cell 0 rfl rfl, by simp, _, s1.cell 0 rfl rfl, by simp, _, s1.cell 0 rfl rfl, by simp, _, s1.cell 0 rfl rfl, by simp, _, s1.cell 0 rfl rfl, by simp, _, s1.cell 0 rfl rfl, by simp, _, s1.cell 0 rfl rfl, by simp, _, s1.cell 0 rfl rfl, by simp, _, s1.cell 0 rfl rfl, ?_⟩
    refine block_run d5 d6 w1 fun w2 a2 c2 G2 hs2 hG2 m2 => ⟨_, _, _, rfl, keepB1 (s1.kept (s1.mod0 m2) 0 0 rfl rfl), ?_⟩
    have s2 := s1.push (sl a2 _ c2 1 _ G2) m2 hs2 hG2
    refine kp12_put (s2.nth 4 rfl : KP12 w2 p s F) d1 d2 d4 hs2.rd fun w3 F3 g3 m3 o3 => ⟨_, rfl, ?_⟩
    have s3 := s2.step 4 rfl (kpPart12 p _ F3) g3 m3 o3
    refine ⟨keepB1 (s1.kept s3 0 1 rfl rfl), block_run d5 d6 w3 fun w4 a4 c4 G4 hs4 hG4 m4 => ⟨_, _, _, rfl, keepB1 (s1.kept (s3.mod0 m4) 0 1 rfl rfl), ?_⟩⟩
    have s4 := s3.push (sl a4 _ c4 1 _ G4) m4 hs4 hG4
    refine kr12_put (s4.nth 4 rfl : KR12 w4 q s G) hS d1 d2 d4 h4 hs4.rd (fun x hx hx' => s4.dj 0 4 (by decide) rfl rfl x hx hx') fun w5 G5 g5 m5 o5 => ⟨_, rfl, ?_⟩
    have s5 := s4.step 4 rfl (krPart12 q _ G5) g5 m5 o5
    rw [beq_self_eq_true]
    exact hK w5 F3 G5 s5.pop.pop.pop
  · have eS : do12 blockOf s ⟨d0, d1, d2, d3, d4, d5, d6⟩ = syncS12 s := by simp [do12, e5]
    rw [eS] at hK
    refine kp12_sync (s1.nth 3 rfl : KP12 w1 p s F) fun w2 g2 m2 => ⟨_, rfl, ?_⟩
    have s2 := s1.turn 3 rfl (kpPart12 p _ F) g2 m2
    refine kr12_sync (s2.nth 2 rfl : KR12 w2 q s G) fun w3 G3 g3 m3 o3 => ⟨_, rfl, ?_⟩
    have s3 := s2.step 2 rfl (krPart12 q _ G3) g3 m3 o3
    rw [beq_self_eq_true]
    exact hK w3 F G3 s3.pop
  · refine ⟨_, _, _, _, _, _, _, ⟨s1.cell 0 rfl rfl, s1.cell 0 rfl rfl, s1.cell 0 rfl rfl, s1.cell 0 rfl rfl, s1.cell 0 rfl rfl, s1.cell 0 rfl rfl, s1.cell 0 rfl rfl⟩, view12_run s1.pop hS d0 d1 d2 d3 d4 d5 d6 (.inl e6) fun w2 F2 G2 s2 => ⟨_, rfl, hK w2 F2 G2 s2⟩⟩
  · refine ⟨_, _, _, _, _, _, _, ⟨s1.cell 0 rfl rfl, s1.cell 0 rfl rfl, s1.cell 0 rfl rfl, s1.cell 0 rfl rfl, s1.cell 0 rfl rfl, s1.cell 0 rfl rfl, s1.cell 0 rfl rfl⟩, view12_run s1.pop hS d0 d1 d2 d3 d4 d5 d6 (.inr e7) fun w2 F2 G2 s2 => ⟨_, rfl, hK w2 F2 G2 s2⟩⟩
  · have eS : do12 blockOf s ⟨d0, d1, d2, d3, d4, d5, d6⟩ = goneS12 s d1 := by simp [do12, n0, n1, n2, n3, n4, n5, n6, n7]
    rw [eS] at hK
    have hT' := hT.gone d1
    refine ⟨_, s1.cell 0 rfl rfl, kp12_gone (s1.nth 3 rfl : KP12 w1 p s F) d1 fun w2 F2 h2 m2 o2 => ⟨rfl, ?_⟩⟩
    have s2 := s1.step 3 rfl (kpPart12 p _ F2) h2 m2 o2
    rw [drK_eq]
    have s2 := s2.mod0 ((Mod.refl [] w2).drew)
    generalize w2.drew = w2 at s2 ⊢
    obtain ⟨pc, Fc, hpc, hcr, hback⟩ := kr12_caps (s2.nth 2 rfl : KR12 w2 q s G)
    refine ⟨_, hpc, _, s2.cell 0 rfl rfl, gone8_run hcr (by omega) d1 fun w3 G3 g3 m3 o3 => ⟨rfl, ?_⟩⟩
    rw [goneS12_eq] at hK hT' s2
    generalize goneS8 s.c d1 64 = c' at hK hT' s2 g3
    obtain ⟨G', h', m', o'⟩ := hback hT' g3 m3 o3
    exact hK w3 F2 G' (s2.step 2 rfl (krPart12 q _ G') h' m' o').pop
end

end Go.Proofs

set_option linter.unusedSimpArgs false
namespace Go.Proofs
open Go Go.Den

def B5 : List Int := blockOf 32 5
def a1_ : S12 := allocS12 (init12 8) 1 2 3
def a2_ : S12 := putS12 a1_ 1 1 4 B5
def a3_ : S12 := getS12 a2_ 1 1 4
def a4_ : S12 := syncS12 a3_
def a5_ : S12 := getS12 a4_ 1 1 5
def a6_ : S12 := allocS12 a5_ 2 4 1
def a7_ : S12 := getS12 a6_ 1 1 (relV12 a6_ 1 1 2).1
theorem aw12_a : allocV12 (init12 8) 1 2 3 = (1, 0) := by kernel_rfl
theorem aw12_p : putV12 a1_ 1 1 4 B5 = 0 := by kernel_rfl
theorem aw12_g : getV12 a2_ 1 1 4 = (B5, 0) := by kernel_rfl
theorem aw12_x : (if inD a3_.d 4 then row12 a3_.d 4 else []) = List.replicate 32 0 := by kernel_rfl
theorem aw12_n : a3_.N.length = 1 := by kernel_rfl
theorem aw12_y : (if inD a4_.d 4 then row12 a4_.d 4 else []) = B5 := by kernel_rfl
theorem aw12_h : getV12 a4_ 1 1 5 = ([], 104) := by kernel_rfl
theorem aw12_b : allocV12 a5_ 2 4 1 = (0, 104) := by kernel_rfl
theorem aw12_r : relV12 a6_ 1 1 2 = (4, 0) := by kernel_rfl
theorem aw12_z : getV12 a6_ 1 1 (relV12 a6_ 1 1 2).1 = (B5, 0) := by kernel_rfl
theorem aw12_q : relV12 a7_ 1 1 3 = (0, 101) := by kernel_rfl
theorem B5_32 : B5.length = 32 := by kernel_rfl
theorem B5_0 : B5[0]? = some 5 := by kernel_rfl

/-- A state's name may be another. -/
theorem SlB.cast {w : World} {a : Option Addr} {l c : Nat} {xs ys : List Int} {G : List Nat} (h : SlB w a l c 1 (u64s xs) G) (he : xs = ys) {l' : Nat} (hl : l = l') : SlB w a l' c 1 (u64s ys) G := by subst he; subst hl; exact h

set_option maxRecDepth 100000 in
theorem awake12_run {w : World} {K : Value → World → Prop} (hK : ∀ w', Mod [] w w' → K (.bool true) w') : CallsR Try.prog F_januslaw12_awake #[] w K := by
  apply R_januslaw12_awake_ok
  simp only [R_januslaw12_awake]
  refine kp12_new 8 w (fun h => by omega) fun k p F w1 hk _ _ g1 m1 b1 => ⟨_, rfl, ?_⟩
  obtain rfl : k = 8 := by omega
  simp only [Option.isNone_some, spl_false]
  have s1 : Sep w w1 [kpPart12 p (init12 8) F] := (Sep.nil (Mod.refl [] w)).push (kpPart12 p (init12 8) F) m1 g1 b1
  refine kp12_alloc (s1.nth 0 rfl : KP12 w1 p (init12 8) F) 1 2 3 fun w2 F2 g2 m2 o2 => ⟨_, _, rfl, ?_⟩
  have s2 := s1.step 0 rfl (kpPart12 p a1_ F2) g2 m2 o2
  clear g1 s1
  refine block_run 32 5 w2 fun w3 aB cB GB hsB hGB m3 => ⟨_, _, _, rfl, ?_⟩
  have s3 := s2.push (sl aB 32 cB 1 (u64s B5) GB) m3 (SlB.cast hsB rfl (blockOf_32 5)) hGB
  refine kp12_put (s3.nth 1 rfl : KP12 w3 p a1_ F2) 1 1 4 (ws := B5) (hsB.rd) fun w4 F4 g4 m4 o4 => ⟨_, rfl, ?_⟩
  have s4 := s3.step 1 rfl (kpPart12 p a2_ F4) g4 m4 o4
  refine kp12_get (s4.nth 1 rfl : KP12 w4 p a2_ F4) 1 1 4 fun w5 F5 aw cw Gw g5 m5 o5 hsw hGw hdw => ⟨_, _, _, _, rfl, ?_⟩
  have s5 := s4.step_add 1 rfl (kpPart12 p a3_ F5) g5 m5 o5 (sl aw 32 cw 1 (u64s B5) Gw) (SlB.cast hsw (by rw [aw12_g]) (by rw [aw12_g]; exact B5_32)) hGw hdw
  refine kp12_disk (s5.nth 2 rfl : KP12 w5 p a3_ F5) 4 fun w6 ax cx Gx g6 m6 hsx hGx => ⟨_, _, _, rfl, ?_⟩
  have hlt5 := (s5.nth 2 rfl : KP12 w5 p a3_ F5).lt
  have s6 := s5.step_add 2 rfl (kpPart12 p a3_ F5) g6 m6 (Own.refl _ _) (sl ax 32 cx 1 (u64s (List.replicate 32 0)) Gx) (SlB.cast hsx aw12_x (by rw [aw12_x]; simp)) hGx (fun x hx hx' => by have := hlt5 x hx'; have := hGx x hx; omega)
  refine kp12_sync (s6.nth 3 rfl : KP12 w6 p a3_ F5) fun w7 g7 m7 => ⟨_, rfl, ?_⟩
  have s7 := s6.turn 3 rfl (kpPart12 p a4_ F5) g7 m7
  refine kp12_disk (s7.nth 3 rfl : KP12 w7 p a4_ F5) 4 fun w8 ay cy Gy g8 m8 hsy hGy => ⟨_, _, _, rfl, ?_⟩
  have hlt7 := (s7.nth 3 rfl : KP12 w7 p a4_ F5).lt
  have s8 := s7.step_add 3 rfl (kpPart12 p a4_ F5) g8 m8 (Own.refl _ _) (sl ay 32 cy 1 (u64s B5) Gy) (SlB.cast hsy aw12_y (by rw [aw12_y]; exact B5_32)) hGy (fun x hx hx' => by have := hlt7 x hx'; have := hGy x hx; omega)
  refine kp12_get (s8.nth 4 rfl : KP12 w8 p a4_ F5) 1 1 5 fun w9 F9 ah ch Gh g9 m9 o9 hsh hGh hdh => ⟨_, _, _, _, rfl, ?_⟩
  have s9 := s8.step 4 rfl (kpPart12 p a5_ F9) g9 m9 o9
  refine kp12_alloc (s9.nth 4 rfl : KP12 w9 p a5_ F9) 2 4 1 fun w10 F10 g10 m10 o10 => ⟨_, _, rfl, ?_⟩
  have s10 := s9.step 4 rfl (kpPart12 p a6_ F10) g10 m10 o10
  apply R_exodisk_Kernel_View_ok
  simp only [R_exodisk_Kernel_View, Option.isNone_some, spl_false]
  refine s10.new fun v w11 s11 m11 hv => ⟨_, rfl, ?_⟩
  simp only [Option.isNone_some, spl_false]
  refine spl_f (by rw [aw12_g]; kernel_rfl) (spl_f (by rw [aw12_x]; kernel_rfl) (spl_f (by rw [aw12_y]; kernel_rfl) ?_))
  refine kview12_get (s11.nth 5 rfl : KP12 w11 p a6_ F10) (s11.nth 0 rfl) 2 (fun hne => absurd (by rw [aw12_r]) hne) (fun _ w12 F12 az cz Gz g12 m12 o12 hsz hGz hdz => ⟨_, _, _, _, rfl, ?_⟩)
  have s12 := s11.step_add 5 rfl (kpPart12 p a7_ F12) g12 m12 o12 (sl az 32 cz 1 (u64s B5) Gz) (SlB.cast hsz (by rw [aw12_z]) (by rw [aw12_z]; exact B5_32)) hGz hdz
  refine kview12_get (s12.nth 6 rfl : KP12 w12 p a7_ F12) (s12.nth 1 rfl) 3 (fun _ w13 m13 => ⟨_, _, _, _, rfl, ?_⟩) (fun h0 => absurd h0 (by rw [aw12_q]; decide))
  have s13 := s12.mod0 m13
  rw [aw12_a, aw12_p, aw12_h, aw12_b, aw12_q]
  refine spl_t rfl (spl_t rfl (spl_t rfl ?_))
  obtain ⟨dw, xw, rfl, hxw, hcw, -, -⟩ := (s13.nth 4 rfl : SlB w13 aw 32 cw 1 (u64s B5) Gw).rd.u64at (k := 0) (by decide)
  obtain ⟨dx, xx, rfl, hxx, hcx, -, -⟩ := (s13.nth 3 rfl : SlB w13 ax 32 cx 1 (u64s (List.replicate 32 0)) Gx).rd.u64at (k := 0) (by decide)
  obtain ⟨dy, xy, rfl, hxy, hcy, -, -⟩ := (s13.nth 2 rfl : SlB w13 ay 32 cy 1 (u64s B5) Gy).rd.u64at (k := 0) (by decide)
  rw [B5_0] at hxw hxy
  obtain rfl := Option.some.inj hxw
  obtain rfl := Option.some.inj hxy
  obtain rfl : (0 : Int) = xx := Option.some.inj hxx
  rw [add_zero] at hcw hcx hcy
  rw [nilK_some]
  refine ⟨⟨by decide, by rw [aw12_g]; show (0 : Int) < ((B5.length : Nat) : Int); rw [B5_32]; decide⟩, _, hcw, spl_t rfl (spl_t (by rw [aw12_g]; rfl) ?_)⟩
  rw [nilK_some]
  refine ⟨⟨by decide, by rw [aw12_x]; decide⟩, _, hcx, spl_t rfl (spl_t (by rw [aw12_n]; rfl) ?_)⟩
  rw [nilK_some]
  refine ⟨⟨by decide, by rw [aw12_y, B5_32]; decide⟩, _, hcy, spl_t rfl (spl_t rfl (spl_t rfl ?_))⟩
  have hz13 : SlB w13 az 32 cz 1 (u64s B5) Gz := s13.nth 0 rfl
  have hw13 : SlB w13 (some dw) 32 cw 1 (u64s B5) Gw := s13.nth 4 rfl
  rw [aw12_z, aw12_g]
  simp only [B5_32]
  refine words_rd hz13.rd hw13.rd (by decide) fun w14 m14 => ⟨_, rfl, ?_⟩
  refine spl_t (decide_eq_true rfl) (spl_t rfl ?_)
  exact hK w14 (s13.mod0 m14).mod

theorem fin12_run {w0 w : World} (h : Mod [] w0 w) : CallsR Try.prog F_januslaw12_awake #[] w fun v w' => ∃ r : Bool, v = .bool r ∧ (Value.bool r = .bool true ∧ Mod [] w0 w') :=
  awake12_run fun w' m => ⟨true, rfl, rfl, h.trans' m⟩

theorem none12_run (w : World) (d0 d1 d2 d3 d4 d5 d6 : Int) (_ : (Lit.int .i64 d0).wf = true) (_ : (Lit.int .i64 d1).wf = true) (_ : (Lit.int .i64 d2).wf = true) (_ : (Lit.int .i64 d3).wf = true) (_ : (Lit.int .i64 d4).wf = true) (_ : (Lit.int .i64 d5).wf = true) (_ : (Lit.int .u64 d6).wf = true) :
    CallsR Try.prog F_januslaw12_ExodiskNone #[.agg #[.int .i64 d0, .int .i64 d1, .int .i64 d2, .int .i64 d3, .int .i64 d4, .int .i64 d5, .int .u64 d6]] w fun v w' => v = .bool true ∧ Mod [] w w' := by
  apply R_januslaw12_ExodiskNone_ok
  simp only [R_januslaw12_ExodiskNone, spl_beq]
  refine (Sep.nil (Mod.refl [] w)).new fun b w1 s1 m1 hb => ⟨_, s1.cell 0 rfl rfl, _, s1.cell 0 rfl rfl, _, s1.cell 0 rfl rfl, ?_⟩
  apply R_exodisk_Kernel_Alloc_ok
  unfold R_exodisk_Kernel_Alloc
  refine spl_t rfl ⟨_, _, rfl, _, s1.cell 0 rfl rfl, _, s1.cell 0 rfl rfl, _, s1.cell 0 rfl rfl, _, s1.cell 0 rfl rfl, ?_⟩
  apply R_exodisk_Kernel_Grant_ok
  unfold R_exodisk_Kernel_Grant
  refine spl_t rfl ⟨_, _, rfl, _, s1.cell 0 rfl rfl, _, s1.cell 0 rfl rfl, _, s1.cell 0 rfl rfl, ?_⟩
  apply R_exodisk_Kernel_Get_ok
  unfold R_exodisk_Kernel_Get
  refine spl_t rfl ⟨_, _, _, _, rfl, _, s1.cell 0 rfl rfl, _, s1.cell 0 rfl rfl, ?_⟩
  apply R_exodisk_Kernel_View_ok
  unfold R_exodisk_Kernel_View
  refine spl_t rfl ⟨_, rfl, _, s1.cell 0 rfl rfl, ?_⟩
  apply R_exodisk_View_Get_ok
  unfold R_exodisk_View_Get
  apply R_exodisk_View_at_ok
  unfold R_exodisk_View_at
  refine spl_t rfl ⟨_, _, rfl, spl_t rfl ⟨_, _, _, _, rfl, _, s1.cell 0 rfl rfl, ?_⟩⟩
  apply R_exodisk_Kernel_Gone_ok
  unfold R_exodisk_Kernel_Gone
  refine spl_f rfl ⟨rfl, fun _ => ⟨fun _ => ⟨fun _ => ⟨_, s1.cell 0 rfl rfl, _, s1.cell 0 rfl rfl, ?_⟩, fun h => absurd rfl h⟩, fun h => absurd rfl h⟩, fun h => absurd rfl h⟩
  apply R_exodisk_Kernel_Revoke_ok
  unfold R_exodisk_Kernel_Revoke
  refine spl_t rfl ⟨_, rfl, fun _ => ⟨_, s1.cell 0 rfl rfl, _, s1.cell 0 rfl rfl, _, s1.cell 0 rfl rfl, ?_⟩, fun h => absurd rfl h⟩
  apply R_exodisk_Kernel_Put_ok
  unfold R_exodisk_Kernel_Put
  refine spl_t rfl ⟨_, rfl, fun _ => ?_, fun h => absurd rfl h⟩
  apply R_exodisk_Kernel_Sync_ok
  unfold R_exodisk_Kernel_Sync
  refine spl_t rfl ⟨_, rfl, fun _ => ?_, fun h => absurd rfl h⟩
  apply R_exodisk_Kernel_Cached_ok
  unfold R_exodisk_Kernel_Cached
  refine spl_t rfl ⟨_, _, _, rfl, fun _ => ⟨_, s1.cell 0 rfl rfl, ?_⟩, fun h => absurd rfl h⟩
  apply R_exodisk_Kernel_Disk_ok
  unfold R_exodisk_Kernel_Disk
  refine spl_t rfl ⟨_, _, _, rfl, fun _ => spl_t rfl ⟨fun _ => ⟨_, s1.cell 0 rfl rfl, ?_⟩, fun h => absurd rfl h⟩, fun h => absurd rfl h⟩
  apply R_exodisk_View_Put_ok
  unfold R_exodisk_View_Put
  apply R_exodisk_View_at_ok
  unfold R_exodisk_View_at
  exact spl_t rfl ⟨_, _, rfl, spl_t rfl ⟨_, rfl, fun _ => fin12_run s1.mod, fun h => absurd rfl h⟩⟩

end Go.Proofs

set_option linter.unusedSimpArgs false
namespace Go.Proofs
open Go Go.Den

def sg0 : S12 := allocS12 (init12 4) 1 1 2
theorem sg_a : allocV12 (init12 4) 1 1 2 = (1, 0) := by kernel_rfl

theorem shares12_run (w : World) (r : Int) (_hr : (Lit.int .i64 r).wf = true) (v : Int) (_hv : (Lit.int .u64 v).wf = true) : CallsR Try.prog F_januslaw12_ExodiskShares #[.int .i64 r, .int .u64 v] w fun v w' => v = .bool true ∧ Mod [] w w' := by
  apply R_januslaw12_ExodiskShares_ok
  simp only [R_januslaw12_ExodiskShares, spl_decide]
  refine kp12_new 4 w (fun h => by omega) fun k p F w1 hk _ _ g1 m1 b1 => ⟨_, rfl, spl_f rfl ?_⟩
  obtain rfl : k = 4 := by omega
  have s1 := (Sep.nil (Mod.refl [] w)).push (kpPart12 p (init12 4) F) m1 g1 b1
  refine kp12_alloc (s1.nth 0 rfl : KP12 w1 p (init12 4) F) 1 1 2 fun w2 F2 g2 m2 o2 => ⟨_, _, rfl, ?_⟩
  have s2 := s1.step 0 rfl (kpPart12 p sg0 F2) g2 m2 o2
  rw [sg_a]
  refine kp12_grant (s2.nth 0 rfl : KP12 w2 p sg0 F2) 1 1 2 r fun w3 F3 g3 m3 o3 => ⟨_, _, rfl, ?_⟩
  have s3 := s2.step 0 rfl (kpPart12 p (grantS12 sg0 1 1 2 r) F3) g3 m3 o3
  clear s1 s2 g1 g2 m1 m2
  refine spl_f rfl ⟨fun hlt => ?_, fun hge => ⟨fun hgt => ?_, fun hle => ?_⟩⟩
  · exact spl_t (by rw [show (giveV8 sg0.c 1 1 2 r).2 = 104 from sh_bad (.inl hlt)]; rfl) (fin12_run s3.mod)
  · exact spl_t (by rw [show (giveV8 sg0.c 1 1 2 r).2 = 104 from sh_bad (.inr hgt)]; rfl) (fin12_run s3.mod)
  obtain ⟨e1, e2, e3, e4, e5, e6⟩ := sh_all' (by omega : 1 ≤ r) (by omega)
  obtain ⟨st, hst⟩ : ∃ st, st = grantS12 sg0 1 1 2 r := ⟨_, rfl⟩
  have hcs : st.c = sh2 r := by rw [hst]; rfl
  rw [← hst] at s3
  have e1' : giveV8 sg0.c 1 1 2 r = (1, 0) := e1
  rw [e1']
  refine block_run 32 v w3 fun w4 a4 c4 G4 hs4 hG4 m4 => ⟨_, _, _, rfl, ?_⟩
  have s4 := s3.push (sl a4 _ c4 1 (u64s (blockOf 32 v)) G4) m4 hs4 hG4
  refine kp12_put (s4.nth 1 rfl : KP12 w4 p st F3) 1 1 2 hs4.rd fun w5 F5 g5 m5 o5 => ⟨_, rfl, ?_⟩
  have s5 := s4.step 1 rfl (kpPart12 p _ F5) g5 m5 o5
  have hm1 : may12 st 1 1 2 2 = true := by rw [may12_c, hcs]; exact e2
  have v1 : putV12 st 1 1 2 (blockOf 32 v) = 0 := by unfold putV12; rw [if_pos hm1, if_pos (blockOf_32 v)]
  have p1 : putS12 st 1 1 2 (blockOf 32 v) = { st with I := putL st.I 2, N := putL st.N 2, W := st.W.set 2 (blockOf 32 v) } := by unfold putS12; rw [if_pos ⟨hm1, blockOf_32 v⟩]; rfl
  obtain ⟨s0, hs0⟩ : ∃ s0, s0 = putS12 st 1 1 2 (blockOf 32 v) := ⟨_, rfl⟩
  rw [← hs0] at s5
  rw [v1]
  have hc0 : s0.c = sh2 r := by rw [hs0, putS12_c]; exact hcs
  have hI0 : (2 : Int) ∈ s0.I := by rw [hs0, p1]; exact mem_putL.2 (.inl rfl)
  have hT3 : T12 st := (s3.nth 0 rfl : KP12 w3 p st F3).t
  have hd3 : st.d.length = 4 := by rw [hst]; rfl
  have hW0 : row12 s0.W 2 = blockOf 32 v := by
    rw [hs0, p1]
    show row12 (st.W.set 2 (blockOf 32 v)) 2 = _
    have := row12_set (W := st.W) (b := 2) (x := 2) (by decide) (by decide) (by rw [hT3.len, hd3]; decide) (blockOf 32 v)
    rw [if_pos rfl] at this
    exact this
  refine kp12_get (s5.nth 1 rfl : KP12 w5 p s0 F5) 2 1 2 fun w6 F6 a6 c6 G6 g6 m6 o6 hs6 hG6 hd6 => ⟨_, _, _, _, rfl, ?_⟩
  have s6 := s5.step_add 1 rfl (kpPart12 p _ F6) g6 m6 o6 (sl a6 _ c6 1 _ G6) hs6 hG6 hd6
  refine block_run 32 (IntKind.u64.wrap (v + 1)) w6 fun w7 a7 c7 G7 hs7 hG7 m7 => ⟨_, _, _, rfl, ?_⟩
  have s7 := s6.push (sl a7 _ c7 1 _ G7) m7 hs7 hG7
  refine kp12_put (s7.nth 3 rfl : KP12 w7 p _ F6) 2 1 1 hs7.rd fun w8 F8 g8 m8 o8 => ⟨_, rfl, ?_⟩
  have s8 := s7.step 3 rfl (kpPart12 p _ F8) g8 m8 o8
  refine kp12_revoke (s8.nth 3 rfl : KP12 w8 p _ F8) 1 1 fun w9 F9 g9 m9 o9 => ⟨_, rfl, ?_⟩
  have s9 := s8.step 3 rfl (kpPart12 p _ F9) g9 m9 o9
  refine kp12_get (s9.nth 3 rfl : KP12 w9 p _ F9) 2 1 2 fun w10 F10 a10 c10 G10 g10 m10 o10 hs10 hG10 hd10 => ⟨_, _, _, _, rfl, ?_⟩
  have s10 := s9.step 3 rfl (kpPart12 p _ F10) g10 m10 o10
  have hgc : (getS12 s0 2 1 2).c = sh2 r := by rw [getS12_c]; exact hc0
  have f1 : ((getV12 s0 2 1 2).2 == 0) = (ibits .and .i64 r 1 != 0) := by
    rw [← e3]
    have := may12_c s0 2 1 2 1
    rw [hc0] at this
    rw [← this]
    unfold getV12
    cases may12 s0 2 1 2 1 <;> rfl
  have f2 : (putV12 (getS12 s0 2 1 2) 2 1 1 (blockOf 32 (IntKind.u64.wrap (v + 1))) == 0) = (ibits .and .i64 r 2 != 0) := by
    rw [← e4]
    have := may12_c (getS12 s0 2 1 2) 2 1 1 2
    rw [hgc] at this
    rw [← this]
    unfold putV12
    rw [if_pos (blockOf_32 _)]
    cases may12 (getS12 s0 2 1 2) 2 1 1 2 <;> rfl
  have f3 : (revokeV8 (putS12 (getS12 s0 2 1 2) 2 1 1 (blockOf 32 (IntKind.u64.wrap (v + 1)))).c 1 1).2 = 0 := by rw [putS12_c, hgc]; exact e5
  have f4 : (getV12 (revS12 (putS12 (getS12 s0 2 1 2) 2 1 1 (blockOf 32 (IntKind.u64.wrap (v + 1)))) 1 1) 2 1 2).2 = 104 := by
    have := may12_c (revS12 (putS12 (getS12 s0 2 1 2) 2 1 1 (blockOf 32 (IntKind.u64.wrap (v + 1)))) 1 1) 2 1 2 1
    rw [show (revS12 (putS12 (getS12 s0 2 1 2) 2 1 1 (blockOf 32 (IntKind.u64.wrap (v + 1)))) 1 1).c = revokeS8 (putS12 (getS12 s0 2 1 2) 2 1 1 (blockOf 32 (IntKind.u64.wrap (v + 1)))).c 1 1 from rfl, putS12_c, hgc, e6] at this
    unfold getV12
    rw [if_neg (by rw [this]; simp)]
  rw [f1, f2, f3, f4]
  refine spl_t rfl (spl_t rfl (spl_t (by simp) (spl_of (fun hrd => ?_) (fun hrd => ?_))))
  · refine block_run 32 v w10 fun w11 a11 c11 G11 hs11 hG11 m11 => ⟨_, _, _, rfl, ?_⟩
    have s11 := s10.mod0 m11
    have hgv : (getV12 s0 2 1 2).1 = blockOf 32 v := by
      have := may12_c s0 2 1 2 1
      rw [hc0, e3, hrd] at this
      unfold getV12
      rw [if_pos this]
      show look12 s0 2 = _
      unfold look12
      rw [if_pos hI0, hW0]
    refine words_rd (s11.nth 1 rfl : SlB _ _ _ _ _ _ _).rd hs11.rd (by rw [hgv, blockOf_32]; decide) fun w12 m12 => ⟨_, rfl, ?_⟩
    exact spl_t (decide_eq_true hgv) (spl_t (by simp) (spl_t rfl (spl_t rfl (fin12_run (s11.mod0 m12).mod))))
  · exact spl_t (by simp) (spl_t rfl (spl_t rfl (fin12_run s10.mod)))

def gd0 : S12 := allocS12 (init12 6) 0 2 1
theorem gd12_a : allocV12 (init12 6) 0 2 1 = (1, 0) := by kernel_rfl
theorem gd12_m : may12 gd0 0 1 2 2 = true := by kernel_rfl
theorem gd12_L : gd0.c.L = [⟨1, 0, 0, 1, ⟨2, 2, 1, 7⟩⟩] := by kernel_rfl
theorem gd12_c : gd0.c.L.length = 1 ∧ gd0.c.last = 1 := by constructor <;> kernel_rfl
theorem gd12_hold (v : Int) : Hold12 (blockOf 32 v) (putS12 gd0 0 1 2 (blockOf 32 v)) := by
  have e : putS12 gd0 0 1 2 (blockOf 32 v) = { gd0 with I := putL gd0.I 2, N := putL gd0.N 2, W := gd0.W.set 2 (blockOf 32 v) } := by unfold putS12; rw [if_pos ⟨gd12_m, blockOf_32 v⟩]; rfl
  rw [e]
  refine ⟨⟨⟨1, 0, 0, 1, ⟨2, 2, 1, 7⟩⟩, by show _ ∈ gd0.c.L; rw [gd12_L]; simp, rfl, rfl, rfl, rfl⟩, fun c hc _ _ => ?_, mem_putL.2 (.inl rfl), ?_, .inl (mem_putL.2 (.inl rfl))⟩
  · have hc : c ∈ gd0.c.L := hc
    rw [gd12_L, List.mem_singleton] at hc
    rw [hc]
  · show row12 (gd0.W.set 2 (blockOf 32 v)) 2 = _
    have := row12_set (W := gd0.W) (b := 2) (x := 2) (by decide) (by decide) (by decide) (blockOf 32 v)
    rw [if_pos rfl] at this
    exact this

theorem guards12_run (w : World) (a : Option Addr) (l c : Nat) (hin : SlIn w 7 Q_januslaw12_Deed a l c) (v : Int) (_hv : (Lit.int .u64 v).wf = true) : CallsR Try.prog F_januslaw12_ExodiskGuards #[.slice a l c, .int .u64 v] w fun v w' => v = .bool true ∧ Mod [] w w' := by
  apply R_januslaw12_ExodiskGuards_ok
  simp only [R_januslaw12_ExodiskGuards, spl_decide, spl_bne, spl_beq]
  refine kp12_new 6 w (fun h => by omega) fun k p F1 w1 hk _ _ h1 m1 b1 => ⟨_, rfl, ?_⟩
  obtain rfl : k = 6 := by omega
  have s1 := (Sep.nil (Mod.refl [] w)).push (kpPart12 p (init12 6) F1) m1 h1 b1
  refine kr12_new 6 w1 (fun h => by omega) fun k q G1 w2 hk _ _ h2 m2 b2 => ⟨_, rfl, spl_f rfl ?_⟩
  obtain rfl : k = 6 := by omega
  have s2 := s1.push (krPart12 q (init12 6) G1) m2 h2 b2
  refine kp12_alloc (s2.nth 1 rfl : KP12 w2 p (init12 6) F1) 0 2 1 fun w3 F3 h3 m3 o3 => ⟨_, _, rfl, ?_⟩
  have s3 := s2.step 1 rfl (kpPart12 p gd0 F3) h3 m3 o3
  refine kr12_alloc (s3.nth 0 rfl : KR12 w3 q (init12 6) G1) ⟨by decide, by decide⟩ 0 2 1 fun w4 G4 h4 m4 o4 => ⟨_, _, rfl, ?_⟩
  have s4 := s3.step 0 rfl (krPart12 q gd0 G4) h4 m4 o4
  rw [gd12_a]
  refine ⟨fun h => absurd rfl h, fun _ => ?_⟩
  refine block_run 32 v w4 fun w5 a5 c5 G5 hs5 hG5 m5 => ⟨_, _, _, rfl, ?_⟩
  have s5 := s4.push (sl a5 _ c5 1 _ G5) m5 hs5 hG5
  refine kp12_put (s5.nth 2 rfl : KP12 w5 p gd0 F3) 0 1 2 hs5.rd fun w6 F6 h6 m6 o6 => ⟨_, rfl, ?_⟩
  have s6 := s5.step 2 rfl (kpPart12 p _ F6) h6 m6 o6
  have v1 : putV12 gd0 0 1 2 (blockOf 32 v) = 0 := by unfold putV12; rw [if_pos gd12_m, if_pos (blockOf_32 v)]
  rw [v1]
  refine ⟨fun h => absurd rfl h, fun _ => ?_⟩
  refine block_run 32 v w6 fun w7 a7 c7 G7 hs7 hG7 m7 => ⟨_, _, _, rfl, ?_⟩
  have s7 := s6.push (sl a7 _ c7 1 _ G7) m7 hs7 hG7
  refine kr12_put (s7.nth 2 rfl : KR12 w7 q gd0 G4) ⟨by rw [gd12_c.1]; decide, by rw [gd12_c.2]; decide⟩ 0 1 2 (by decide) hs7.rd (fun x hx hx' => s7.dj 0 2 (by decide) rfl rfl x hx hx') fun w8 G8 h8 m8 o8 => ⟨_, rfl, ?_⟩
  have s8 := (s7.step 2 rfl (krPart12 q _ G8) h8 m8 o8).pop.pop
  have hH0 := gd12_hold v
  have hcL : (putS12 gd0 0 1 2 (blockOf 32 v)).c.L.length ≤ 1 ∧ (putS12 gd0 0 1 2 (blockOf 32 v)).c.last ≤ 1 := by
    rw [putS12_c]; rw [gd12_c.1, gd12_c.2]; decide
  generalize putS12 gd0 0 1 2 (blockOf 32 v) = st at s8 hH0 hcL
  clear s1 s2 s3 s4 s5 s6 s7 h1 h2 h3 h4 h6 h8 m1 m2 m3 m4 m5 m6 m7 m8 hs5 hs7
  refine ⟨fun w' => ∃ (s : S12) (F G : List Nat), Hold12 (blockOf 32 v) s ∧ Sep w w' [krPart12 q s G, kpPart12 p s F], ?_, ?_⟩
  · rintro - w9 ⟨s, F, G, hH, s9⟩
    have hT := (s9.nth 1 rfl : KP12 w9 p s F).t
    refine kp12_sync (s9.nth 1 rfl : KP12 w9 p s F) fun w10 h10 m10 => ⟨_, rfl, ?_⟩
    have s10 := s9.turn 1 rfl (kpPart12 p _ F) h10 m10
    refine kp12_disk (s10.nth 1 rfl : KP12 w10 p _ F) 2 fun w11 a11 c11 G11 h11 m11 hs11 hG11 => ⟨_, _, _, rfl, ?_⟩
    have hlt := (s10.nth 1 rfl : KP12 w10 p (syncS12 s) F).lt
    have s11 := s10.step_add 1 rfl (kpPart12 p _ F) h11 m11 (Own.refl _ _) (sl a11 _ c11 1 _ G11) hs11 hG11 (fun x hx hx' => by have := hlt x hx'; have := hG11 x hx; omega)
    have hHs := hH.sync hT
    have hTs := hT.sync
    have hrow : (if inD (syncS12 s).d 2 then row12 (syncS12 s).d 2 else []) = blockOf 32 v := by
      rw [if_pos (hTs.inI 2 hHs.inI)]
      exact hHs.disk.resolve_left (by simp [syncS12])
    refine block_run 32 v w11 fun w12 a12 c12 G12 hs12 hG12 m12 => ⟨_, _, _, rfl, ?_⟩
    have s12 := s11.mod0 m12
    refine words_rd (s12.nth 0 rfl : SlB _ _ _ _ _ _ _).rd hs12.rd (by rw [hrow, blockOf_32]; decide) fun w13 m13 => ⟨_, rfl, ?_⟩
    exact spl_t (decide_eq_true hrow) (fin12_run (s12.mod0 m13).mod)
  have hlle := hin.le
  refine ⟨fun n i w' => ∃ (k : Nat) (s : S12) (F G : List Nat), i = k ∧ k ≤ l ∧ k ≤ 100 ∧ n = l - k ∧ s.c.L.length ≤ k + 1 ∧ s.c.last ≤ k + 1 ∧ Hold12 (blockOf 32 v) s ∧ Sep w w' [krPart12 q s G, kpPart12 p s F], ⟨l, 0, st, F6, G8, rfl, by omega, by omega, rfl, by omega, by omega, hH0, s8⟩, ?_⟩
  clear s8
  rintro n i - w3 ⟨k, s, F, G, rfl, hk, hk1, rfl, hsL, hsl, hH, s3⟩
  refine ⟨fun hlt => ⟨fun h100 => ?_, fun _ => ⟨s, F, G, hH, s3⟩⟩, fun _ => ⟨s, F, G, hH, s3⟩⟩
  have hkl : k < l := by omega
  obtain ⟨ad, cs, rfl, hadlt, ⟨d0, d1, d2, d3, d4, d5, d6, rfl, f0, f1, f2, f3, f4, f5, f6⟩, -, hcell⟩ := hin.at hkl
  have cell : ∀ j v, j < 7 → [Value.int .i64 d0, .int .i64 d1, .int .i64 d2, .int .i64 d3, .int .i64 d4, .int .i64 d5, .int .u64 d6][j]? = some v → w3.cell? (Addr.add (Addr.add ad (k * 7)) j) = some v := fun j v hj hv => by
    rw [← hv, ← hcell j hj]
    exact s3.mod.cell (by rw [add_block, add_block]; exact hadlt)
  simp only [nilK_some, Int.toNat_natCast]
  refine ⟨fun w' => ∃ (s : S12) (F G : List Nat), s.c.L.length ≤ k + 2 ∧ s.c.last ≤ k + 2 ∧ Hold12 (blockOf 32 v) s ∧ Sep w w' [krPart12 q s G, kpPart12 p s F], ?_, ⟨by omega, by omega⟩, d1, cell 1 _ (by decide) rfl, fun hne => ?_, fun _ => ⟨s, F, G, by omega, by omega, hH, s3⟩⟩
  · rintro - w4 ⟨s, F, G, hsL, hsl, hH, s4⟩
    have hw8 := (s4.nth 1 rfl : KP12 w4 p s F).w8
    have hT := (s4.nth 1 rfl : KP12 w4 p s F).t
    have hval := hH.val hw8
    refine kp12_get (s4.nth 1 rfl : KP12 w4 p s F) 0 1 2 fun w5 F5 a5 c5 G5 h5 m5 o5 hs5 hG5 hd5 => ⟨_, _, _, _, rfl, ?_⟩
    rw [getS12_in hT hH.inI] at h5
    have s5 := s4.step_add 1 rfl (kpPart12 p s F5) h5 m5 o5 (sl a5 _ c5 1 _ G5) hs5 hG5 hd5
    refine ⟨fun h => absurd (by rw [hval]) h, fun _ => ?_⟩
    refine block_run 32 v w5 fun w6 a6 c6 G6 hs6 hG6 m6 => ⟨_, _, _, rfl, ?_⟩
    have s6 := s5.mod0 m6
    refine words_rd (s6.nth 0 rfl : SlB _ _ _ _ _ _ _).rd hs6.rd (by rw [hval]; show (blockOf 32 v).length ≤ _; rw [blockOf_32]; decide) fun w7 m7 => ⟨_, rfl, ?_⟩
    refine spl_t (decide_eq_true (by rw [hval])) ⟨l - (k + 1), by omega, k + 1, s, F5, G, by rw [w64 (by omega) (by omega)]; omega, by omega, by omega, rfl, by omega, by omega, hH, (s6.mod0 m7).pop⟩
  · refine ⟨⟨by omega, by omega⟩, d0, d1, d2, d3, d4, d5, d6, ⟨by have := cell 0 _ (by decide) rfl; rwa [add_zero] at this, cell 1 _ (by decide) rfl, cell 2 _ (by decide) rfl, cell 3 _ (by decide) rfl, cell 4 _ (by decide) rfl, cell 5 _ (by decide) rfl, cell 6 _ (by decide) rfl⟩, ?_⟩
    have hw8 := (s3.nth 1 rfl : KP12 w3 p s F).w8
    have hT := (s3.nth 1 rfl : KP12 w3 p s F).t
    have s3' := s3.push (sl none 0 0 1 [] []) (Mod.refl [] w3) (SlB.nil w3 1) (by simp [sl, Beyond])
    have hlen := do12_len blockOf s ⟨d0, d1, d2, d3, d4, d5, d6⟩
    refine do12_run s3' ⟨by omega, by omega⟩ d0 d1 d2 d3 d4 d5 d6 (wf64_le f4).2 fun w4 F4 G4 s4 => ⟨_, rfl, _, F4, G4, by have := hlen.1; omega, by have := hlen.2; omega, hH.do_ hT hw8 hne, s4.pop⟩

end Go.Proofs

set_option linter.unusedSimpArgs false
namespace Go.Proofs
open Go Go.Den

def sy0 : S12 := allocS12 (init12 6) 1 0 6
theorem sy_a : (allocV12 (init12 6) 1 0 6).2 = 0 := by kernel_rfl
theorem sy_want : Want12 (List.replicate 6 (List.replicate 32 0)) sy0 := by
  have e : ∀ b : Int, 0 ≤ b → b < 6 → row12 sy0.d b = row12 (List.replicate 6 (List.replicate 32 0)) b := fun b h1 h2 => by
    have : sy0.d = List.replicate 6 (List.replicate 32 0) := by kernel_rfl
    rw [this]
  have hN : sy0.N = [] := by kernel_rfl
  exact ⟨by decide, by kernel_rfl, by kernel_rfl, fun b hb => (by rw [hN] at hb; cases hb), fun b hb _ => e b hb.1 (by have := hb.2; rw [show sy0.d.length = 6 by kernel_rfl] at this; exact this)⟩

/-- What is wanted, a row for each block. -/
def wantPart (a : Option Addr) (c : Nat) (wl : List (List Int)) (F : List Nat) : Part := rwPart a 6 c wl F

theorem syncs12_run (w : World) (a : Option Addr) (l c : Nat) (hin : SlIn w 7 Q_januslaw12_Deed a l c) : CallsR Try.prog F_januslaw12_ExodiskSyncs #[.slice a l c] w fun v w' => v = .bool true ∧ Mod [] w w' := by
  apply R_januslaw12_ExodiskSyncs_ok
  simp only [R_januslaw12_ExodiskSyncs, spl_decide, spl_bne, spl_beq]
  refine kp12_new 6 w (fun h => by omega) fun k p F1 w1 hk _ _ h1 m1 b1 => ⟨_, rfl, spl_f rfl ?_⟩
  obtain rfl : k = 6 := by omega
  have s1 := (Sep.nil (Mod.refl [] w)).push (kpPart12 p (init12 6) F1) m1 h1 b1
  refine kp12_alloc (s1.nth 0 rfl : KP12 w1 p (init12 6) F1) 1 0 6 fun w2 F2 h2 m2 o2 => ⟨_, _, rfl, ?_⟩
  have s2 := s1.step 0 rfl (kpPart12 p sy0 F2) h2 m2 o2
  rw [sy_a]
  refine ⟨fun h => absurd rfl h, fun _ => ?_⟩
  refine RwP.make slT_Sl_u64 (by decide) (n := 6) (by decide) fun aW cW w3 FW hW hFW m3 => ⟨_, _, _, rfl, ?_⟩
  have s3 := s2.push (rwPart aW 6 cW (List.replicate 6 []) FW) m3 hW hFW
  obtain ⟨adW, _, _, _, rfl, -, -, -⟩ := hW.row (k := 0) (b := []) rfl
  clear s1 s2 h1 h2 m1 m2 m3 hW hFW
  refine ⟨fun n i w' => ∃ (j : Nat) (FW : List Nat), i = j ∧ j ≤ 6 ∧ n = 6 - j ∧ Sep w w' [rwPart (some adW) 6 cW (List.replicate j (List.replicate 32 0) ++ List.replicate (6 - j) []) FW, kpPart12 p sy0 F2], ⟨6, 0, FW, rfl, by omega, rfl, s3⟩, ?_⟩
  rintro n i - w4 ⟨j, FW4, rfl, hj, rfl, s4⟩
  refine ⟨fun hlt => ?_, fun hge => ?_⟩
  · refine makeSlice_K slT_u64 (l := 32) (c := 32) (Nat.le_refl _) (by omega) (by omega) fun w5 hs5 m5 => ⟨_, _, _, rfl, ?_⟩
    rw [zrow_one rfl, Nat.mul_one, ← u64s_rep] at hs5
    rw [nilK_some, Int.toNat_natCast]
    refine ⟨⟨by omega, by omega⟩, ?_⟩
    have h5 : RwP w5 (some adW) 6 cW (List.replicate j (List.replicate 32 0) ++ List.replicate (6 - j) []) FW4 := (s4.mod0 m5).nth 0 rfl
    have hlt4 := (s4.nth 0 rfl : RwP w4 (some adW) 6 cW _ FW4).lt
    have key := @RwP.set w5 (some adW) 6 cW _ FW4 h5 j (by omega) (some ⟨w4.heap.size, 0, none⟩) 32 (List.replicate 32 0) [w4.heap.size] (by rw [List.length_replicate]; exact hs5) (fun x hx hx' => by simp only [List.mem_singleton] at hx; have := hlt4 x hx'; omega) adW rfl
    rw [List.length_replicate] at key
    refine key fun w6 h6 m6 => ?_
    have s6 := s4.step 0 rfl (rwPart (some adW) 6 cW _ (FW4 ++ [w4.heap.size])) h6 (m5.of0.trans' m6) (fun x hx => (List.mem_append.1 hx).imp id fun hh => by simp only [List.mem_singleton] at hh; omega)
    refine ⟨6 - (j + 1), by omega, j + 1, FW4 ++ [w4.heap.size], by rw [w64 (by omega) (by omega)]; omega, by omega, rfl, ?_⟩
    have e : (List.replicate j (List.replicate 32 (0 : Int)) ++ List.replicate (6 - j) []).set j (List.replicate 32 0) = List.replicate (j + 1) (List.replicate 32 0) ++ List.replicate (6 - (j + 1)) [] := by
      rw [List.set_append_right _ _ (by simp), List.length_replicate, Nat.sub_self, show 6 - j = 6 - (j + 1) + 1 by omega, List.replicate_succ (n := 6 - (j + 1)), List.set_cons_zero, List.replicate_succ' (n := j), List.append_assoc]
      rfl
    rw [e] at s6
    exact s6
  obtain rfl : j = 6 := by omega
  rw [show List.replicate 6 (List.replicate 32 (0 : Int)) ++ List.replicate (6 - 6) [] = List.replicate 6 (List.replicate 32 0) by simp] at s4
  have hlle := hin.le
  refine ⟨fun w' => ∃ (s : S12) (wl : List (List Int)) (F FW : List Nat), Want12 wl s ∧ Sep w w' [rwPart (some adW) 6 cW wl FW, kpPart12 p s F], ?_, ?_⟩
  · rintro - w5 ⟨s, wl, F, FW, hH, s5⟩
    have hT := (s5.nth 1 rfl : KP12 w5 p s F).t
    refine kp12_sync (s5.nth 1 rfl : KP12 w5 p s F) fun w6 h6 m6 => ⟨_, rfl, ?_⟩
    have s6 := s5.turn 1 rfl (kpPart12 p _ F) h6 m6
    have hW := hH.sync hT
    have hTs := hT.sync
    refine ⟨fun n i w' => ∃ j : Nat, i = j ∧ j ≤ 6 ∧ n = 6 - j ∧ Sep w w' [rwPart (some adW) 6 cW wl FW, kpPart12 p (syncS12 s) F], ⟨6, 0, rfl, by omega, rfl, s6⟩, ?_⟩
    rintro n i - w7 ⟨j, rfl, hj, rfl, s7⟩
    refine ⟨fun hlt => ?_, fun hge => ?_⟩
    · rw [drK_eq]
      have s8 := s7.mod0 ((Mod.refl [] w7).drew)
      generalize w7.drew = w8 at s8 ⊢
      have hj6 : j < wl.length := by rw [hH.len]; omega
      obtain ⟨ad, a2, c2, G2, ha, hc2, hs2, hG2⟩ := (s8.nth 0 rfl : RwP w8 (some adW) 6 cW wl FW).row (List.getElem?_eq_getElem hj6)
      obtain rfl := Option.some.inj ha
      have hin8 : inD (syncS12 s).d j := ⟨by omega, by rw [hW.d]; omega⟩
      have hrow : (if inD (syncS12 s).d j then row12 (syncS12 s).d j else []) = wl[j] := by
        rw [if_pos hin8, hW.old j hin8 (by simp [syncS12])]
        unfold row12
        rw [Int.toNat_natCast, List.getElem?_eq_getElem hj6]
        rfl
      have h32 : (row12 (syncS12 s).d j).length = 32 := row12_32 hTs.all hin8
      refine ⟨[adW.block], ?_⟩
      rw [nilK_some, Int.toNat_natCast]
      refine ⟨⟨by omega, by omega⟩, by simp [add_block], _, _, _, hc2, ?_⟩
      refine kp12_disk (s8.nth 1 rfl : KP12 w8 p (syncS12 s) F) j fun w9 a9 c9 G9 h9 m9 hs9 hG9 => ⟨_, _, _, rfl, keepB1 ?_, ?_⟩
      · have s9 := s8.turn 1 rfl (kpPart12 p _ F) h9 m9
        obtain ⟨hs, R, Fs, r1, r2, r3, rF, r4⟩ := (s8.nth 0 rfl : RwP w8 (some adW) 6 cW wl FW)
        obtain ⟨bl, o, hb, hR⟩ := r1.isNone (by decide)
        have hb := Option.some.inj hb
        refine m9.keep _ (r1.lt _ (by rw [hR, hb]; simp)) fun hh => s8.dj 0 1 (by decide) rfl rfl adW.block (by show adW.block ∈ FW; rw [rF, hR, hb]; simp) hh
      · have s9 := s8.turn 1 rfl (kpPart12 p _ F) h9 m9
        have hs2' : SlB w9 a2 wl[j].length c2 1 (u64s wl[j]) G2 := hs2.keep fun x hx => m9.keep x (hs2.lt x hx) fun hh => s8.dj 0 1 (by decide) rfl rfl x (hG2 x hx) hh
        refine words_rd hs9.rd hs2'.rd (by rw [if_pos hin8, h32]; decide) fun w10 m10 => ⟨_, rfl, ?_⟩
        exact spl_t (decide_eq_true hrow) ⟨6 - (j + 1), by omega, j + 1, by rw [w64 (by omega) (by omega)]; omega, by omega, rfl, s9.mod0 m10⟩
    · refine kp12_sync (s7.nth 1 rfl : KP12 w7 p (syncS12 s) F) fun w8 h8 m8 => ⟨_, rfl, fun _ => fin12_run (s7.turn 1 rfl (kpPart12 p _ F) h8 m8).mod, fun h => absurd rfl h⟩
  refine ⟨fun n i w' => ∃ (k : Nat) (s : S12) (wl : List (List Int)) (F FW : List Nat), i = k ∧ k ≤ l ∧ k ≤ 100 ∧ n = l - k ∧ Want12 wl s ∧ Sep w w' [rwPart (some adW) 6 cW wl FW, kpPart12 p s F], ⟨l, 0, sy0, List.replicate 6 (List.replicate 32 0), F2, FW4, rfl, by omega, by omega, rfl, sy_want, s4⟩, ?_⟩
  clear s3 s4
  rintro n i - w3 ⟨k, s, wl, F, FW, rfl, hk, hk1, rfl, hH, s3⟩
  refine ⟨fun hlt => ⟨fun h100 => ?_, fun _ => ⟨s, wl, F, FW, hH, s3⟩⟩, fun _ => ⟨s, wl, F, FW, hH, s3⟩⟩
  have hkl : k < l := by omega
  obtain ⟨ad, cs, rfl, hadlt, ⟨d0, d1, d2, d3, d4, d5, d6, rfl, f0, f1, f2, f3, f4, f5, f6⟩, -, hcell⟩ := hin.at hkl
  have cell : ∀ j v, j < 7 → [Value.int .i64 d0, .int .i64 d1, .int .i64 d2, .int .i64 d3, .int .i64 d4, .int .i64 d5, .int .u64 d6][j]? = some v → w3.cell? (Addr.add (Addr.add ad (k * 7)) j) = some v := fun j v hj hv => by
    rw [← hv, ← hcell j hj]
    exact s3.mod.cell (by rw [add_block, add_block]; exact hadlt)
  refine ⟨fun w' => ∃ (s : S12) (wl : List (List Int)) (F FW : List Nat), Want12 wl s ∧ Sep w w' [rwPart (some adW) 6 cW wl FW, kpPart12 p s F], ?_, ?_⟩
  · rintro - w4 ⟨s, wl, F, FW, hH, s4⟩
    exact ⟨l - (k + 1), by omega, k + 1, s, wl, F, FW, by rw [w64 (by omega) (by omega)]; omega, by omega, by omega, rfl, hH, s4⟩
  simp only [nilK_some, Int.toNat_natCast]
  refine ⟨⟨by omega, by omega⟩, d0, d1, d2, d3, d4, d5, d6, ⟨by have := cell 0 _ (by decide) rfl; rwa [add_zero] at this, cell 1 _ (by decide) rfl, cell 2 _ (by decide) rfl, cell 3 _ (by decide) rfl, cell 4 _ (by decide) rfl, cell 5 _ (by decide) rfl, cell 6 _ (by decide) rfl⟩, ?_⟩
  refine s3.new fun b w4 s4 m4 hb => s4.st0 0 rfl rfl fun w5 s5 m5 => ?_
  have hb5 : ∃ T, Sep w w5 [blk b (.cells #[.int .i64 d0, .int .i64 d1, .int .i64 d2, .int .i64 d3, .int .i64 d4, .int .i64 d5, .int .u64 d6] T (0, 0)), rwPart (some adW) 6 cW wl FW, kpPart12 p s F] := ⟨_, s5⟩
  clear s4 s5
  obtain ⟨T, s5⟩ := hb5
  refine ⟨fun w' => ∃ (s : S12) (wl : List (List Int)) (F FW : List Nat), Want12 wl s ∧ Sep w w' [blk b (.cells #[.int .i64 d0, .int .i64 d1, .int .i64 d2, .int .i64 d3, .int .i64 d4, .int .i64 d5, .int .u64 d6] T (0, 0)), rwPart (some adW) 6 cW wl FW, kpPart12 p s F], ?_, ?_⟩
  · rintro - w6 ⟨s, wl, F, FW, hH, s6⟩
    refine ⟨_, s6.cell 0 rfl rfl, fun h5 => ?_, fun _ => ⟨s, wl, F, FW, hH, s6.pop⟩⟩
    have hT := (s6.nth 2 rfl : KP12 w6 p s F).t
    refine kp12_sync (s6.nth 2 rfl : KP12 w6 p s F) fun w7 h7 m7 => ⟨_, rfl, ?_⟩
    exact ⟨syncS12 s, wl, F, FW, hH.sync hT, (s6.turn 2 rfl (kpPart12 p _ F) h7 m7).pop⟩
  rw [drK_eq]
  have s6 := s5.mod0 ((Mod.refl [] w5).drew)
  generalize w5.drew = w6 at s6 ⊢
  refine ⟨[b], by simp, _, s6.cell 0 rfl rfl, by simp, _, s6.cell 0 rfl rfl, ?_⟩
  refine block_run 32 d6 w6 fun w7 a7 c7 G7 hs7 hG7 m7 => ⟨_, _, _, rfl, keepB1 (s6.kept (s6.mod0 m7) 0 0 rfl rfl), ?_⟩
  have s7 := s6.push (sl a7 _ c7 1 _ G7) m7 hs7 hG7
  have hT := (s7.nth 3 rfl : KP12 w7 p s F).t
  refine kp12_put (s7.nth 3 rfl : KP12 w7 p s F) 1 1 d4 hs7.rd fun w8 F8 h8 m8 o8 => ⟨_, rfl, fun h0 => ?_, fun hn => ?_⟩
  · have hb := (hH.putV (blockOf_32 d6) d4).1 h0
    have s8 := (s7.step 3 rfl (kpPart12 p _ F8) h8 m8 o8).pop
    refine ⟨_, s8.cell 0 rfl rfl, fun h => by omega, fun _ => ⟨_, s8.cell 0 rfl rfl, fun h => by omega, fun _ => ?_⟩⟩
    rw [drK_eq]
    have s9 := s8.mod0 ((Mod.refl [] w8).drew)
    generalize w8.drew = w9 at s9 ⊢
    refine ⟨[b], by simp, _, s9.cell 0 rfl rfl, by simp, _, s9.cell 0 rfl rfl, ?_⟩
    refine block_run 32 d6 w9 fun w10 a10 c10 G10 hs10 hG10 m10 => ⟨_, _, _, rfl, keepB1 (s9.kept (s9.mod0 m10) 0 0 rfl rfl), ?_⟩
    refine ⟨⟨by omega, by omega⟩, ?_⟩
    have s10 := s9.mod0 m10
    have hlt9 := (s9.nth 1 rfl : RwP w9 (some adW) 6 cW wl FW).lt
    refine RwP.set (s10.nth 1 rfl : RwP w10 (some adW) 6 cW wl FW) (k := d4.toNat) (by omega) hs10 (fun x hx hx' => by have := hlt9 x hx'; have := hG10 x hx; omega) rfl fun w11 h11 m11 => ?_
    have s11 := s9.step 1 rfl (rwPart (some adW) 6 cW _ (FW ++ G10)) h11 (m10.of0.trans' m11) (fun x hx => (List.mem_append.1 hx).imp id fun hh => hG10 x hh)
    exact ⟨_, _, F8, FW ++ G10, hH.put hT (blockOf_32 d6) hb, s11⟩
  · have hb : ¬ (0 ≤ d4 ∧ d4 < 6) := fun h => hn ((hH.putV (blockOf_32 d6) d4).2 h)
    rw [hH.not hb] at h8
    have s8 := (s7.step 3 rfl (kpPart12 p s F8) h8 m8 o8).pop
    exact ⟨s, wl, F8, FW, hH, s8⟩

end Go.Proofs
