/-
  Layer 12: what all its statements use: a deed with both kernels; awake.
  Layer 12: awake; a kernel that is none.
  Layer 12: the walk of 'ExodiskPlays'.
-/
import Derived.Test.YtjfgaiffdcnclaaGreatR12A
import Derived.Test.YtjfgaiffdcnclaaGreatL12A
import Derived.Test.YtjfgaiffdcnclaaGreatD3rA
import Derived.Test.YtjfgaiffdcnclaaGreatDenB
set_option linter.unusedVariables false
set_option linter.unusedSimpArgs false
namespace Go.Proofs
open Go Go.Den

theorem wf64_le {n : Int} (h : (Lit.int .i64 n).wf = true) : -9223372036854775808 ≤ n ∧ n ≤ 9223372036854775807 := by
  simp [Lit.wf, IntKind.min, IntKind.max, IntKind.bits, IntKind.signed] at h
  omega

section
variable {w0 w : World} {p q : Nat} {s : S12} {F G : List Nat} {y : Part} {rest : List Part}

theorem view12_run (hs : Sep w0 w (y :: krPart12 q s G :: kpPart12 p s F :: rest)) (hS : Small12 s.c) (d0 d1 d2 d3 d4 d5 d6 : Int) (hd : d0 = 6 ∨ d0 = 7) {K : Value → World → Prop}
    (hK : ∀ w' F' G', Sep w0 w' (y :: krPart12 q (do12 blockOf s ⟨d0, d1, d2, d3, d4, d5, d6⟩) G' :: kpPart12 p (do12 blockOf s ⟨d0, d1, d2, d3, d4, d5, d6⟩) F' :: rest) → K (.bool true) w') :
    CallsR Tryz.prog F_januslaw12_view #[.pointer (some ⟨p, 0, none⟩), .pointer (some ⟨q, 0, none⟩), .agg #[.int .i64 d0, .int .i64 d1, .int .i64 d2, .int .i64 d3, .int .i64 d4, .int .i64 d5, .int .u64 d6]] w K := by
  apply R_januslaw12_view_ok
  simp only [R_januslaw12_view, spl_beq, spl_bne]
  refine hs.new fun b w1 s1 m1 hb => ⟨_, s1.cell 0 rfl rfl, _, s1.cell 0 rfl rfl, ?_⟩
  apply R_exodisk_Kernel_View_ok
  simp only [R_exodisk_Kernel_View, Option.isNone_some, spl_false]
  refine s1.new fun v w2 s2 m2 hv => ⟨_, rfl, ?_⟩
  simp only [Option.isNone_some, spl_false]
  refine ⟨_, s2.cell 1 rfl rfl, _, s2.cell 1 rfl rfl, _, s2.cell 1 rfl rfl, kr12_rel (s2.nth 3 rfl : KR12 w2 q s G) hS d1 d2 d4 fun w3 m3 => ⟨_, _, rfl, _, (s2.mod0 m3).cell 1 rfl rfl, fun h6 => ?_, fun h6 => ?_⟩⟩
  · have s3 := s2.mod0 m3
    have eS : do12 blockOf s ⟨d0, d1, d2, d3, d4, d5, d6⟩ = if (relV12 s d1 d2 d4).2 = 0 then getS12 s d1 d2 (relV12 s d1 d2 d4).1 else s := by subst h6; simp [do12]
    rw [eS] at hK
    have hT : T12 s := (s3.nth 4 rfl : KP12 w3 p s F).t
    have hw8 : W8 s.c := (s3.nth 4 rfl : KP12 w3 p s F).w8
    have hin := relV12_in hT hw8 d1 d2 d4
    refine ⟨_, s3.cell 1 rfl rfl, kview12_get (s3.nth 4 rfl : KP12 w3 p s F) (s3.nth 0 rfl) d4 (fun hne w4 m4 => ⟨_, _, _, _, rfl, fun _ => ⟨fun _ => ?_, fun h => absurd rfl h⟩, fun h => absurd h hne⟩) (fun heq w4 F4 a c Ga g4 m4 o4 hsl hG hdj => ⟨_, _, _, _, rfl, fun h => absurd heq h, fun _ => ?_⟩)⟩
    · rw [if_neg hne] at hK
      have s4 := s3.mod0 m4
      exact hK w4 F G s4.pop.pop
    · rw [if_pos heq] at hK
      have s4 := s3.step_add 4 rfl (kpPart12 p _ F4) g4 m4 o4 (sl a _ c 1 _ Ga) hsl hG hdj
      refine ⟨_, s4.cell 2 rfl rfl, _, s4.cell 2 rfl rfl, kr12_get (s4.nth 4 rfl : KR12 w4 q s G) hS d1 d2 _ (by omega) fun w5 F5 a5 c5 G5 g5 m5 o5 hs5 => ⟨_, _, _, _, rfl, ?_⟩⟩
      have s5 := s4.step 4 rfl (krPart12 q _ F5) g5 m5 o5
      refine words_rd (s5.nth 0 rfl : SlB _ _ _ _ _ _ _).rd hs5.rd (Nat.le_trans (getV12_le hT hw8 ..) (by omega)) fun w6 m6 => ⟨_, rfl, ?_⟩
      rw [decide_eq_true rfl, spl_true, beq_self_eq_true]
      have s6 := s5.mod0 m6
      exact hK w6 F4 F5 s6.pop.pop.pop
  · have h7 : d0 = 7 := hd.resolve_left h6
    have s3 := s2.mod0 m3
    have eS : do12 blockOf s ⟨d0, d1, d2, d3, d4, d5, d6⟩ = if (relV12 s d1 d2 d4).2 = 0 then putS12 s d1 d2 (relV12 s d1 d2 d4).1 (blockOf d5 d6) else s := by subst h7; simp [do12]
    rw [eS] at hK
    have hT : T12 s := (s3.nth 4 rfl : KP12 w3 p s F).t
    have hw8 : W8 s.c := (s3.nth 4 rfl : KP12 w3 p s F).w8
    have hin := relV12_in hT hw8 d1 d2 d4
    rw [drK_eq]
    have s4 := s3.mod0 ((Mod.refl [] w3).drew)
    generalize w3.drew = w4 at s4 ⊢
    refine ⟨[b], by simp, _, s4.cell 1 rfl rfl, by simp, _, s4.cell 1 rfl rfl, by simp, _, s4.cell 1 rfl rfl, ?_⟩
    refine block_run d5 d6 w4 fun w5 a5 c5 G5 hs5 hG5 m5 => ⟨_, _, _, rfl, keepB1 (s4.kept (s4.mod0 m5) 1 1 rfl rfl), ?_⟩
    have s5 := s4.push (sl a5 _ c5 1 _ G5) m5 hs5 hG5
    refine kview12_put (s5.nth 5 rfl : KP12 w5 p s F) (s5.nth 1 rfl) d4 hs5.rd (fun hne w6 m6 => ⟨_, rfl, fun _ => ?_, fun h => absurd h hne⟩) (fun heq w6 F6 g6 m6 o6 => ⟨_, rfl, fun h => absurd heq h, fun _ => ?_⟩)
    · rw [if_neg hne] at hK
      rw [beq_self_eq_true]
      have s6 := s5.mod0 m6
      exact hK w6 F G s6.pop.pop.pop
    · rw [if_pos heq] at hK
      have s6 := s5.step 5 rfl (kpPart12 p _ F6) g6 m6 o6
      rw [drK_eq]
      have s7 := s6.mod0 ((Mod.refl [] w6).drew)
      generalize w6.drew = w7 at s7 ⊢
      refine ⟨[b], by simp, _, s7.cell 2 rfl rfl, by simp, _, s7.cell 2 rfl rfl, by simp, _, s7.cell 2 rfl rfl, by simp, _, s7.cell 2 rfl rfl, ?_⟩
      refine block_run d5 d6 w7 fun w8 a8 c8 G8 hs8 hG8 m8 => ⟨_, _, _, rfl, keepB1 (s7.kept (s7.mod0 m8) 2 2 rfl rfl), ?_⟩
      have s8 := s7.push (sl a8 _ c8 1 _ G8) m8 hs8 hG8
      refine kr12_put (s8.nth 5 rfl : KR12 w8 q s G) hS d1 d2 _ (by omega) hs8.rd (fun x hx hx' => s8.dj 0 5 (by decide) rfl rfl x hx hx') fun w9 G9 g9 m9 o9 => ⟨_, rfl, ?_⟩
      have s9 := s8.step 5 rfl (krPart12 q _ G9) g9 m9 o9
      rw [beq_self_eq_true]
      exact hK w9 F6 G9 s9.pop.pop.pop.pop

theorem do12_run (hs : Sep w0 w (y :: krPart12 q s G :: kpPart12 p s F :: rest)) (hS : Small12 s.c) (d0 d1 d2 d3 d4 d5 d6 : Int) (h4 : d4 ≤ 9223372036854775807) {K : Value → World → Prop}
    (hK : ∀ w' F' G', Sep w0 w' (y :: krPart12 q (do12 blockOf s ⟨d0, d1, d2, d3, d4, d5, d6⟩) G' :: kpPart12 p (do12 blockOf s ⟨d0, d1, d2, d3, d4, d5, d6⟩) F' :: rest) → K (.bool true) w') :
    CallsR Tryz.prog F_januslaw12_do #[.pointer (some ⟨p, 0, none⟩), .pointer (some ⟨q, 0, none⟩), .agg #[.int .i64 d0, .int .i64 d1, .int .i64 d2, .int .i64 d3, .int .i64 d4, .int .i64 d5, .int .u64 d6]] w K := by
  apply R_januslaw12_do_ok
  simp only [R_januslaw12_do, spl_beq, nilK_some, addr_add, Nat.zero_add]
  have hT : T12 s := (hs.nth 2 rfl : KP12 w p s F).t
  have hw8 : W8 s.c := (hs.nth 2 rfl : KP12 w p s F).w8
  have hS0 := hS
  obtain ⟨hS1, hS2⟩ := hS0
  refine hs.new fun b w1 s1 m1 hb => ⟨d0, s1.cell 0 rfl rfl, fun e0 => ?_, fun n0 => ⟨fun e1 => ?_, fun n1 => ⟨fun e2 => ?_, fun n2 => ⟨fun e3 => ?_, fun n3 => ⟨fun e4 => ?_, fun n4 => ⟨fun e5 => ?_, fun n5 => ⟨fun e6 => ?_, fun n6 => ⟨fun e7 => ?_, fun n7 => ?_⟩⟩⟩⟩⟩⟩⟩⟩
  · have eS : do12 blockOf s ⟨d0, d1, d2, d3, d4, d5, d6⟩ = allocS12 s d1 d4 d5 := by simp [do12, e0]
    rw [eS] at hK
    refine ⟨_, s1.cell 0 rfl rfl, _, s1.cell 0 rfl rfl, _, s1.cell 0 rfl rfl, kp12_alloc (s1.nth 3 rfl : KP12 w1 p s F) d1 d4 d5 fun w2 F2 h2 m2 o2 => ⟨_, _, rfl, ?_⟩⟩
    have s2 := s1.step 3 rfl (kpPart12 p _ F2) h2 m2 o2
    refine ⟨_, s2.cell 0 rfl rfl, _, s2.cell 0 rfl rfl, _, s2.cell 0 rfl rfl, kr12_alloc (s2.nth 2 rfl : KR12 w2 q s G) hS d1 d4 d5 fun w3 G3 h3 m3 o3 => ⟨_, _, rfl, fun _ => ?_, fun h => absurd rfl h⟩⟩
    have s3 := s2.step 2 rfl (krPart12 q _ G3) h3 m3 o3
    rw [beq_self_eq_true]
    exact hK w3 F2 G3 s3.pop
  · have eS : do12 blockOf s ⟨d0, d1, d2, d3, d4, d5, d6⟩ = grantS12 s d1 d2 d3 d5 := by simp [do12, e1]
    rw [eS] at hK
    refine ⟨_, s1.cell 0 rfl rfl, _, s1.cell 0 rfl rfl, _, s1.cell 0 rfl rfl, _, s1.cell 0 rfl rfl, kp12_grant (s1.nth 3 rfl : KP12 w1 p s F) d1 d2 d3 d5 fun w2 F2 h2 m2 o2 => ⟨_, _, rfl, ?_⟩⟩
    have s2 := s1.step 3 rfl (kpPart12 p _ F2) h2 m2 o2
    rw [drK_eq]
    have s2 := s2.mod0 ((Mod.refl [] w2).drew)
    generalize w2.drew = w2 at s2 ⊢
    obtain ⟨pc, Fc, hpc, hcr, hback⟩ := kr12_caps (s2.nth 2 rfl : KR12 w2 q s G)
    refine ⟨[q, b], by simp, _, hpc, by simp, _, s2.cell 0 rfl rfl, by simp, _, s2.cell 0 rfl rfl, by simp, _, s2.cell 0 rfl rfl, by simp, _, s2.cell 0 rfl rfl, ?_⟩
    refine give8_run hcr (by omega) (by omega) d1 d2 d3 d5 fun w3 G3 g3 m3 o3 => ⟨_, _, rfl, fun _ => ?_, fun h => absurd rfl h⟩
    obtain ⟨G', h', m', o'⟩ := hback (hT.grant d1 d2 d3 d5) g3 m3 o3
    rw [beq_self_eq_true]
    exact hK w3 F2 G' (s2.step 2 rfl (krPart12 q _ G') h' m' o').pop
  · have eS : do12 blockOf s ⟨d0, d1, d2, d3, d4, d5, d6⟩ = revS12 s d1 d2 := by simp [do12, e2]
    rw [eS] at hK
    rw [drK_eq]
    have s1 := s1.mod0 ((Mod.refl [] w1).drew)
    generalize w1.drew = w1 at s1 ⊢
    obtain ⟨pc, Fc, hpc, hcr, hback⟩ := kr12_caps (s1.nth 2 rfl : KR12 w1 q s G)
    refine ⟨[q, b], by simp, _, hpc, by simp, _, s1.cell 0 rfl rfl, by simp, _, s1.cell 0 rfl rfl, ?_⟩
    refine revoke8_run hcr (by omega) d1 d2 fun w3 G3 g3 m3 o3 => ⟨_, _, rfl, ?_⟩
    obtain ⟨G', h', m', o'⟩ := hback (hT.rev d1 d2) g3 m3 o3
    have s2 := s1.step 2 rfl (krPart12 q _ G') h' m' o'
    refine ⟨_, s2.cell 0 rfl rfl, _, s2.cell 0 rfl rfl, kp12_revoke (s2.nth 3 rfl : KP12 w3 p s F) d1 d2 fun w4 F4 h4 m4 o4 => ⟨_, rfl, ?_⟩⟩
    rw [beq_self_eq_true]
    exact hK w4 F4 G' (s2.step 3 rfl (kpPart12 p _ F4) h4 m4 o4).pop
  · have eS : do12 blockOf s ⟨d0, d1, d2, d3, d4, d5, d6⟩ = getS12 s d1 d2 d4 := by simp [do12, e3]
    rw [eS] at hK
    refine ⟨_, s1.cell 0 rfl rfl, _, s1.cell 0 rfl rfl, _, s1.cell 0 rfl rfl, kp12_get (s1.nth 3 rfl : KP12 w1 p s F) d1 d2 d4 fun w2 F2 a c Ga g2 m2 o2 hsl hG hdj => ⟨_, _, _, _, rfl, ?_⟩⟩
    have s2 := s1.step_add 3 rfl (kpPart12 p _ F2) g2 m2 o2 (sl a _ c 1 _ Ga) hsl hG hdj
    refine ⟨_, s2.cell 1 rfl rfl, _, s2.cell 1 rfl rfl, _, s2.cell 1 rfl rfl, kr12_get (s2.nth 3 rfl : KR12 w2 q s G) hS d1 d2 d4 h4 fun w3 G3 a3 c3 Gb g3 m3 o3 hs3 => ⟨_, _, _, _, rfl, ?_⟩⟩
    have s3 := s2.step 3 rfl (krPart12 q _ G3) g3 m3 o3
    refine words_rd (s3.nth 0 rfl : SlB _ _ _ _ _ _ _).rd hs3.rd (Nat.le_trans (getV12_le hT hw8 ..) (by omega)) fun w4 m4 => ⟨_, rfl, ?_⟩
    rw [decide_eq_true rfl, spl_true, beq_self_eq_true]
    exact hK w4 F2 G3 (s3.mod0 m4).pop.pop
  · have eS : do12 blockOf s ⟨d0, d1, d2, d3, d4, d5, d6⟩ = putS12 s d1 d2 d4 (blockOf d5 d6) := by simp [do12, e4]
    rw [eS] at hK
    rw [drK_eq]
    have s1 := s1.mod0 ((Mod.refl [] w1).drew)
    generalize w1.drew = w1 at s1 ⊢
    refine ⟨[b], by simp, _, s1.cell 0 rfl rfl, by simp, _, s1.cell 0 rfl rfl, by simp, _, s1.cell 0 rfl rfl, by simp, _, s1.cell 0 rfl rfl, by simp, _, s1.cell 0 rfl rfl, by simp, _, s1.cell 0 rfl rfl, by simp, _, s1.cell 0 rfl rfl, by simp, _, s1.cell 0 rfl rfl, by simp, _, s1.cell 0 rfl rfl, by simp, _, s1.cell 0 rfl rfl, ?_⟩
    refine block_run d5 d6 w1 fun w2 a2 c2 G2 hs2 hG2 m2 => ⟨_, _, _, rfl, keepB1 (s1.kept (s1.mod0 m2) 0 0 rfl rfl), ?_⟩
    have s2 := s1.push (sl a2 _ c2 1 _ G2) m2 hs2 hG2
    refine kp12_put (s2.nth 4 rfl : KP12 w2 p s F) d1 d2 d4 hs2.rd fun w3 F3 g3 m3 o3 => ⟨_, rfl, ?_⟩
    have s3 := s2.step 4 rfl (kpPart12 p _ F3) g3 m3 o3
    refine ⟨keepB1 (s1.kept s3 0 1 rfl rfl), block_run d5 d6 w3 fun w4 a4 c4 G4 hs4 hG4 m4 => ⟨_, _, _, rfl, keepB1 (s1.kept (s3.mod0 m4) 0 1 rfl rfl), ?_⟩⟩
    have s4 := s3.push (sl a4 _ c4 1 _ G4) m4 hs4 hG4
    refine kr12_put (s4.nth 4 rfl : KR12 w4 q s G) hS d1 d2 d4 h4 hs4.rd (fun x hx hx' => s4.dj 0 4 (by decide) rfl rfl x hx hx') fun w5 G5 g5 m5 o5 => ⟨_, rfl, ?_⟩
    have s5 := s4.step 4 rfl (krPart12 q _ G5) g5 m5 o5
    rw [beq_self_eq_true]
    exact hK w5 F3 G5 s5.pop.pop.pop
  · have eS : do12 blockOf s ⟨d0, d1, d2, d3, d4, d5, d6⟩ = syncS12 s := by simp [do12, e5]
    rw [eS] at hK
    refine kp12_sync (s1.nth 3 rfl : KP12 w1 p s F) fun w2 g2 m2 => ⟨_, rfl, ?_⟩
    have s2 := s1.turn 3 rfl (kpPart12 p _ F) g2 m2
    refine kr12_sync (s2.nth 2 rfl : KR12 w2 q s G) fun w3 G3 g3 m3 o3 => ⟨_, rfl, ?_⟩
    have s3 := s2.step 2 rfl (krPart12 q _ G3) g3 m3 o3
    rw [beq_self_eq_true]
    exact hK w3 F G3 s3.pop
  · refine ⟨_, _, _, _, _, _, _, ⟨s1.cell 0 rfl rfl, s1.cell 0 rfl rfl, s1.cell 0 rfl rfl, s1.cell 0 rfl rfl, s1.cell 0 rfl rfl, s1.cell 0 rfl rfl, s1.cell 0 rfl rfl⟩, view12_run s1.pop hS d0 d1 d2 d3 d4 d5 d6 (.inl e6) fun w2 F2 G2 s2 => ⟨_, rfl, hK w2 F2 G2 s2⟩⟩
  · refine ⟨_, _, _, _, _, _, _, ⟨s1.cell 0 rfl rfl, s1.cell 0 rfl rfl, s1.cell 0 rfl rfl, s1.cell 0 rfl rfl, s1.cell 0 rfl rfl, s1.cell 0 rfl rfl, s1.cell 0 rfl rfl⟩, view12_run s1.pop hS d0 d1 d2 d3 d4 d5 d6 (.inr e7) fun w2 F2 G2 s2 => ⟨_, rfl, hK w2 F2 G2 s2⟩⟩
  · have eS : do12 blockOf s ⟨d0, d1, d2, d3, d4, d5, d6⟩ = goneS12 s d1 := by simp [do12, n0, n1, n2, n3, n4, n5, n6, n7]
    rw [eS] at hK
    have hT' := hT.gone d1
    refine ⟨_, s1.cell 0 rfl rfl, kp12_gone (s1.nth 3 rfl : KP12 w1 p s F) d1 fun w2 F2 h2 m2 o2 => ⟨rfl, ?_⟩⟩
    have s2 := s1.step 3 rfl (kpPart12 p _ F2) h2 m2 o2
    rw [drK_eq]
    have s2 := s2.mod0 ((Mod.refl [] w2).drew)
    generalize w2.drew = w2 at s2 ⊢
    obtain ⟨pc, Fc, hpc, hcr, hback⟩ := kr12_caps (s2.nth 2 rfl : KR12 w2 q s G)
    refine ⟨_, hpc, _, s2.cell 0 rfl rfl, gone8_run hcr (by omega) d1 fun w3 G3 g3 m3 o3 => ⟨rfl, ?_⟩⟩
    rw [goneS12_eq] at hK hT' s2
    generalize goneS8 s.c d1 64 = c' at hK hT' s2 g3
    obtain ⟨G', h', m', o'⟩ := hback hT' g3 m3 o3
    exact hK w3 F2 G' (s2.step 2 rfl (krPart12 q _ G') h' m' o').pop
end

end Go.Proofs

set_option linter.unusedSimpArgs false
namespace Go.Proofs
open Go Go.Den

def B5 : List Int := blockOf 32 5
def a1_ : S12 := allocS12 (init12 8) 1 2 3
def a2_ : S12 := putS12 a1_ 1 1 4 B5
def a3_ : S12 := getS12 a2_ 1 1 4
def a4_ : S12 := syncS12 a3_
def a5_ : S12 := getS12 a4_ 1 1 5
def a6_ : S12 := allocS12 a5_ 2 4 1
def a7_ : S12 := getS12 a6_ 1 1 (relV12 a6_ 1 1 2).1
theorem aw12_a : allocV12 (init12 8) 1 2 3 = (1, 0) := by kernel_rfl
theorem aw12_p : putV12 a1_ 1 1 4 B5 = 0 := by kernel_rfl
theorem aw12_g : getV12 a2_ 1 1 4 = (B5, 0) := by kernel_rfl
theorem aw12_x : (if inD a3_.d 4 then row12 a3_.d 4 else []) = List.replicate 32 0 := by kernel_rfl
theorem aw12_n : a3_.N.length = 1 := by kernel_rfl
theorem aw12_y : (if inD a4_.d 4 then row12 a4_.d 4 else []) = B5 := by kernel_rfl
theorem aw12_h : getV12 a4_ 1 1 5 = ([], 104) := by kernel_rfl
theorem aw12_b : allocV12 a5_ 2 4 1 = (0, 104) := by kernel_rfl
theorem aw12_r : relV12 a6_ 1 1 2 = (4, 0) := by kernel_rfl
theorem aw12_z : getV12 a6_ 1 1 (relV12 a6_ 1 1 2).1 = (B5, 0) := by kernel_rfl
theorem aw12_q : relV12 a7_ 1 1 3 = (0, 101) := by kernel_rfl
theorem B5_32 : B5.length = 32 := by kernel_rfl
theorem B5_0 : B5[0]? = some 5 := by kernel_rfl

/-- A state's name may be another. -/
theorem SlB.cast {w : World} {a : Option Addr} {l c : Nat} {xs ys : List Int} {G : List Nat} (h : SlB w a l c 1 (u64s xs) G) (he : xs = ys) {l' : Nat} (hl : l = l') : SlB w a l' c 1 (u64s ys) G := by subst he; subst hl; exact h

set_option maxRecDepth 100000 in
theorem awake12_run {w : World} {K : Value → World → Prop} (hK : ∀ w', Mod [] w w' → K (.bool true) w') : CallsR Tryz.prog F_januslaw12_awake #[] w K := by
  apply R_januslaw12_awake_ok
  simp only [R_januslaw12_awake]
  refine kp12_new 8 w (fun h => by omega) fun k p F w1 hk _ _ g1 m1 b1 => ⟨_, rfl, ?_⟩
  obtain rfl : k = 8 := by omega
  simp only [Option.isNone_some, spl_false]
  have s1 : Sep w w1 [kpPart12 p (init12 8) F] := (Sep.nil (Mod.refl [] w)).push (kpPart12 p (init12 8) F) m1 g1 b1
  refine kp12_alloc (s1.nth 0 rfl : KP12 w1 p (init12 8) F) 1 2 3 fun w2 F2 g2 m2 o2 => ⟨_, _, rfl, ?_⟩
  have s2 := s1.step 0 rfl (kpPart12 p a1_ F2) g2 m2 o2
  clear g1 s1
  refine block_run 32 5 w2 fun w3 aB cB GB hsB hGB m3 => ⟨_, _, _, rfl, ?_⟩
  have s3 := s2.push (sl aB 32 cB 1 (u64s B5) GB) m3 (SlB.cast hsB rfl (blockOf_32 5)) hGB
  refine kp12_put (s3.nth 1 rfl : KP12 w3 p a1_ F2) 1 1 4 (ws := B5) (hsB.rd) fun w4 F4 g4 m4 o4 => ⟨_, rfl, ?_⟩
  have s4 := s3.step 1 rfl (kpPart12 p a2_ F4) g4 m4 o4
  refine kp12_get (s4.nth 1 rfl : KP12 w4 p a2_ F4) 1 1 4 fun w5 F5 aw cw Gw g5 m5 o5 hsw hGw hdw => ⟨_, _, _, _, rfl, ?_⟩
  have s5 := s4.step_add 1 rfl (kpPart12 p a3_ F5) g5 m5 o5 (sl aw 32 cw 1 (u64s B5) Gw) (SlB.cast hsw (by rw [aw12_g]) (by rw [aw12_g]; exact B5_32)) hGw hdw
  refine kp12_disk (s5.nth 2 rfl : KP12 w5 p a3_ F5) 4 fun w6 ax cx Gx g6 m6 hsx hGx => ⟨_, _, _, rfl, ?_⟩
  have hlt5 := (s5.nth 2 rfl : KP12 w5 p a3_ F5).lt
  have s6 := s5.step_add 2 rfl (kpPart12 p a3_ F5) g6 m6 (Own.refl _ _) (sl ax 32 cx 1 (u64s (List.replicate 32 0)) Gx) (SlB.cast hsx aw12_x (by rw [aw12_x]; simp)) hGx (fun x hx hx' => by have := hlt5 x hx'; have := hGx x hx; omega)
  refine kp12_sync (s6.nth 3 rfl : KP12 w6 p a3_ F5) fun w7 g7 m7 => ⟨_, rfl, ?_⟩
  have s7 := s6.turn 3 rfl (kpPart12 p a4_ F5) g7 m7
  refine kp12_disk (s7.nth 3 rfl : KP12 w7 p a4_ F5) 4 fun w8 ay cy Gy g8 m8 hsy hGy => ⟨_, _, _, rfl, ?_⟩
  have hlt7 := (s7.nth 3 rfl : KP12 w7 p a4_ F5).lt
  have s8 := s7.step_add 3 rfl (kpPart12 p a4_ F5) g8 m8 (Own.refl _ _) (sl ay 32 cy 1 (u64s B5) Gy) (SlB.cast hsy aw12_y (by rw [aw12_y]; exact B5_32)) hGy (fun x hx hx' => by have := hlt7 x hx'; have := hGy x hx; omega)
  refine kp12_get (s8.nth 4 rfl : KP12 w8 p a4_ F5) 1 1 5 fun w9 F9 ah ch Gh g9 m9 o9 hsh hGh hdh => ⟨_, _, _, _, rfl, ?_⟩
  have s9 := s8.step 4 rfl (kpPart12 p a5_ F9) g9 m9 o9
  refine kp12_alloc (s9.nth 4 rfl : KP12 w9 p a5_ F9) 2 4 1 fun w10 F10 g10 m10 o10 => ⟨_, _, rfl, ?_⟩
  have s10 := s9.step 4 rfl (kpPart12 p a6_ F10) g10 m10 o10
  apply R_exodisk_Kernel_View_ok
  simp only [R_exodisk_Kernel_View, Option.isNone_some, spl_false]
  refine s10.new fun v w11 s11 m11 hv => ⟨_, rfl, ?_⟩
  simp only [Option.isNone_some, spl_false]
  refine spl_f (by rw [aw12_g]; kernel_rfl) (spl_f (by rw [aw12_x]; kernel_rfl) (spl_f (by rw [aw12_y]; kernel_rfl) ?_))
  refine kview12_get (s11.nth 5 rfl : KP12 w11 p a6_ F10) (s11.nth 0 rfl) 2 (fun hne => absurd (by rw [aw12_r]) hne) (fun _ w12 F12 az cz Gz g12 m12 o12 hsz hGz hdz => ⟨_, _, _, _, rfl, ?_⟩)
  have s12 := s11.step_add 5 rfl (kpPart12 p a7_ F12) g12 m12 o12 (sl az 32 cz 1 (u64s B5) Gz) (SlB.cast hsz (by rw [aw12_z]) (by rw [aw12_z]; exact B5_32)) hGz hdz
  refine kview12_get (s12.nth 6 rfl : KP12 w12 p a7_ F12) (s12.nth 1 rfl) 3 (fun _ w13 m13 => ⟨_, _, _, _, rfl, ?_⟩) (fun h0 => absurd h0 (by rw [aw12_q]; decide))
  have s13 := s12.mod0 m13
  rw [aw12_a, aw12_p, aw12_h, aw12_b, aw12_q]
  refine spl_t rfl (spl_t rfl (spl_t rfl ?_))
  obtain ⟨dw, xw, rfl, hxw, hcw, -, -⟩ := (s13.nth 4 rfl : SlB w13 aw 32 cw 1 (u64s B5) Gw).rd.u64at (k := 0) (by decide)
  obtain ⟨dx, xx, rfl, hxx, hcx, -, -⟩ := (s13.nth 3 rfl : SlB w13 ax 32 cx 1 (u64s (List.replicate 32 0)) Gx).rd.u64at (k := 0) (by decide)
  obtain ⟨dy, xy, rfl, hxy, hcy, -, -⟩ := (s13.nth 2 rfl : SlB w13 ay 32 cy 1 (u64s B5) Gy).rd.u64at (k := 0) (by decide)
  rw [B5_0] at hxw hxy
  obtain rfl := Option.some.inj hxw
  obtain rfl := Option.some.inj hxy
  obtain rfl : (0 : Int) = xx := Option.some.inj hxx
  rw [add_zero] at hcw hcx hcy
  rw [nilK_some]
  refine ⟨⟨by decide, by rw [aw12_g]; show (0 : Int) < ((B5.length : Nat) : Int); rw [B5_32]; decide⟩, _, hcw, spl_t rfl (spl_t (by rw [aw12_g]; rfl) ?_)⟩
  rw [nilK_some]
  refine ⟨⟨by decide, by rw [aw12_x]; decide⟩, _, hcx, spl_t rfl (spl_t (by rw [aw12_n]; rfl) ?_)⟩
  rw [nilK_some]
  refine ⟨⟨by decide, by rw [aw12_y, B5_32]; decide⟩, _, hcy, spl_t rfl (spl_t rfl (spl_t rfl ?_))⟩
  have hz13 : SlB w13 az 32 cz 1 (u64s B5) Gz := s13.nth 0 rfl
  have hw13 : SlB w13 (some dw) 32 cw 1 (u64s B5) Gw := s13.nth 4 rfl
  rw [aw12_z, aw12_g]
  simp only [B5_32]
  refine words_rd hz13.rd hw13.rd (by decide) fun w14 m14 => ⟨_, rfl, ?_⟩
  refine spl_t (decide_eq_true rfl) (spl_t rfl ?_)
  exact hK w14 (s13.mod0 m14).mod

theorem fin12_run {w0 w : World} (h : Mod [] w0 w) : CallsR Tryz.prog F_januslaw12_awake #[] w fun v w' => ∃ r : Bool, v = .bool r ∧ (Value.bool r = .bool true ∧ Mod [] w0 w') :=
  awake12_run fun w' m => ⟨true, rfl, rfl, h.trans' m⟩

end Go.Proofs

set_option linter.unusedSimpArgs false
namespace Go.Proofs
open Go Go.Den

theorem DiskR.blocks {w : World} {p : Nat} {bs : List (List Int)} {F : List Nat} (h : DiskR w p bs F) (h0 : 0 < bs.length) : ∃ (c : Nat) (ad : Addr), w.cell? ⟨p, 0, none⟩ = some (.slice (some ad) bs.length c) ∧ p ∈ F ∧ ad.block ∈ F ∧ ∀ (k : Nat) (b : List Int), bs[k]? = some b → ∃ (a2 : Option Addr) (c2 : Nat) (G : List Nat), w.cell? (Addr.add ad k) = some (.slice a2 b.length c2) ∧ SlB w a2 b.length c2 1 (u64s b) G ∧ ∀ x ∈ G, x ∈ F := by
  obtain ⟨T, a, c, g, u, Fr, h1, h2, h3, rfl, h4⟩ := h
  have h2' := h2
  obtain ⟨hs, R, Fs, r1, r2, r3, rfl, r4⟩ := h2'
  obtain ⟨bl, o, rfl, rfl⟩ := r1.isNone h0
  refine ⟨c, ⟨bl, o, none⟩, by rw [cell_get h1]; rfl, by simp, by simp, fun k b hb => ?_⟩
  obtain ⟨ad, a2, c2, G, g1, g2, g3, g4⟩ := h2.row hb
  obtain rfl := Option.some.inj g1
  exact ⟨a2, c2, G, g2, g3, fun x hx => by have := g4 x hx; simp at this ⊢; right; exact this⟩
theorem kr12_blocks {w : World} {p : Nat} {s : S12} {F : List Nat} (h : KR12 w p s F) (h0 : 0 < s.d.length) : ∃ (pd c : Nat) (ad : Addr), w.cell? ⟨p, 0, none⟩ = some (.pointer (some ⟨pd, 0, none⟩)) ∧ w.cell? ⟨pd, 0, none⟩ = some (.slice (some ad) s.d.length c) ∧ p ∈ F ∧ pd ∈ F ∧ ad.block ∈ F ∧ ∀ (k : Nat) (b : List Int), s.d[k]? = some b → ∃ (a2 : Option Addr) (c2 : Nat) (G : List Nat), w.cell? (Addr.add ad k) = some (.slice a2 b.length c2) ∧ SlB w a2 b.length c2 1 (u64s b) G ∧ ∀ x ∈ G, x ∈ F := by
  obtain ⟨hT, A, h1, rfl⟩ := h
  obtain ⟨c, ad, d1, d2, d3, d4⟩ := (r12d h1).blocks h0
  have hin : ∀ x ∈ A.Fd, x ∈ PF (rparts12 p A s) := fun x hx => mem_PF.2 ⟨1, _, rfl, hx⟩
  refine ⟨A.pd, c, ad, r12c0 h1, d1, r12pin p A s, hin _ d2, hin _ d3, fun k b hb => ?_⟩
  obtain ⟨a2, c2, G, e1, e2, e3⟩ := d4 k b hb
  exact ⟨a2, c2, G, e1, e2, fun x hx => hin x (e3 x hx)⟩
theorem kr12_lt {w : World} {p : Nat} {s : S12} {F : List Nat} (h : KR12 w p s F) : p < w.heap.size := by
  obtain ⟨hT, A, h1, rfl⟩ := h
  exact lt_of_get (r12blk h1)

theorem plays12_run (w : World) (n : Int) (_hn : (Lit.int .i64 n).wf = true) (a : Option Addr) (l c : Nat) (hin : SlIn w 7 Q_januslaw12_Deed a l c) : CallsR Tryz.prog F_januslaw12_ExodiskPlays #[.int .i64 n, .slice a l c] w fun v w' => v = .bool true ∧ Mod [] w w' := by
  apply R_januslaw12_ExodiskPlays_ok
  simp only [R_januslaw12_ExodiskPlays, spl_decide]
  have hlle := hin.le
  refine kp12_new n w (fun h => ⟨_, rfl, ?_⟩) fun N p F1 w1 hk hk1 hk2 h1 m1 b1 => ⟨_, rfl, ?_⟩
  · refine kr12_new n w (fun _ => ⟨_, rfl, spl_f rfl ⟨fun _ => fin12_run (Mod.refl _ _), fun _ => ?_⟩⟩) fun k q G1 w2 hk hk1 hk2 h2 m2 b2 => absurd h (by omega)
    refine ⟨fun w' => Mod [] w w', fun _ w' hm => spl_t rfl (awake12_run fun w2 m2 => ⟨true, rfl, spl_t rfl ⟨trivial, hm.trans' m2⟩⟩), fun n i w' => w' = w, ⟨0, rfl⟩, ?_⟩
    rintro n i - w' rfl
    exact ⟨fun _ => ⟨fun _ => spl_f rfl (Mod.refl _ _), fun _ => Mod.refl _ _⟩, fun _ => Mod.refl _ _⟩
  refine kr12_new n w1 (fun h => absurd h (by omega)) fun k' q G1 w2 hk' _ _ h2 m2 b2 => ⟨_, rfl, spl_f rfl ?_⟩
  obtain rfl : k' = N := by omega
  have s1 := (Sep.nil (Mod.refl [] w)).push (kpPart12 p _ F1) m1 h1 b1
  have s2 := s1.push (krPart12 q _ G1) m2 h2 b2
  have hdN : (init12 k').d.length = k' := by simp [init12]
  refine ⟨fun _ => fin12_run s2.mod, fun hn100 => ⟨fun w' => ∃ (s : S12) (F G : List Nat), s.d.length = k' ∧ Sep w w' [krPart12 q s G, kpPart12 p s F], ?_, ?_⟩⟩
  · rintro - w3 ⟨s, F, G, hdl, s3⟩
    refine spl_f rfl (spl_t rfl ?_)
    refine kp12_disk (s3.nth 1 rfl : KP12 w3 p s F) (-1) fun w4 a4 c4 G4 h4 m4 hs4 _ => ⟨_, _, _, rfl, ?_⟩
    have s4 := s3.turn 1 rfl (kpPart12 p s F) h4 m4
    rw [if_neg (by unfold inD; omega)]
    refine spl_t rfl ?_
    refine kp12_disk (s4.nth 1 rfl : KP12 w4 p s F) n fun w5 a5 c5 G5 h5 m5 hs5 _ => ⟨_, _, _, rfl, ?_⟩
    have s5 := s4.turn 1 rfl (kpPart12 p s F) h5 m5
    rw [if_neg (by unfold inD; omega)]
    exact spl_t rfl (fin12_run s5.mod)
  refine ⟨fun n i w' => ∃ (k : Nat) (s : S12) (F G : List Nat), i = k ∧ k ≤ l ∧ k ≤ 100 ∧ n = l - k ∧ s.c.L.length ≤ k ∧ s.c.last ≤ k ∧ s.d.length = k' ∧ Sep w w' [krPart12 q s G, kpPart12 p s F], ⟨l, 0, _, F1, G1, rfl, by omega, by omega, rfl, by simp [init12], by simp [init12], hdN, s2⟩, ?_⟩
  clear s1 s2 h1 h2 m1 m2 b1 b2
  rintro n' i - w3 ⟨k, s, F, G, rfl, hk3, hk4, rfl, hsL, hsl, hdl, s3⟩
  refine ⟨fun hlt => ⟨fun h100 => spl_t rfl ?_, fun _ => ⟨s, F, G, hdl, s3⟩⟩, fun _ => ⟨s, F, G, hdl, s3⟩⟩
  have hkl : k < l := by omega
  rw [drK_eq]
  have s3 := s3.mod0 ((Mod.refl [] w3).drew)
  generalize w3.drew = w3 at s3 ⊢
  obtain ⟨ad, cs, rfl, hadlt, ⟨d0, d1, d2, d3, d4, d5, d6, rfl, f0, f1, f2, f3, f4, f5, f6⟩, -, hcell⟩ := hin.at hkl
  have cell : ∀ j v, j < 7 → [Value.int .i64 d0, .int .i64 d1, .int .i64 d2, .int .i64 d3, .int .i64 d4, .int .i64 d5, .int .u64 d6][j]? = some v → w3.cell? (Addr.add (Addr.add ad (k * 7)) j) = some v := fun j v hj hv => by
    rw [← hv, ← hcell j hj]
    exact s3.mod.cell (by rw [add_block, add_block]; exact hadlt)
  refine ⟨[ad.block], ?_⟩
  simp only [nilK_some, Int.toNat_natCast]
  refine ⟨⟨by omega, by omega⟩, by simp [add_block], d0, d1, d2, d3, d4, d5, d6, ⟨by have := cell 0 _ (by decide) rfl; rwa [add_zero] at this, cell 1 _ (by decide) rfl, cell 2 _ (by decide) rfl, cell 3 _ (by decide) rfl, cell 4 _ (by decide) rfl, cell 5 _ (by decide) rfl, cell 6 _ (by decide) rfl⟩, ?_⟩
  clear cell hcell
  have s3' := s3.push (sl none 0 0 1 [] []) (Mod.refl [] w3) (SlB.nil w3 1) (by simp [sl, Beyond])
  have hlen := do12_len blockOf s ⟨d0, d1, d2, d3, d4, d5, d6⟩
  have hdl' := do12_d blockOf s ⟨d0, d1, d2, d3, d4, d5, d6⟩
  refine do12_run s3' ⟨by omega, by omega⟩ d0 d1 d2 d3 d4 d5 d6 (wf64_le f4).2 fun w4 F4 G4 s4 => ⟨_, rfl, spl_t rfl ?_⟩
  obtain ⟨s', hs'⟩ : ∃ s', s' = do12 blockOf s ⟨d0, d1, d2, d3, d4, d5, d6⟩ := ⟨_, rfl⟩
  rw [← hs'] at s4 hlen hdl'
  clear hs' s3 s3'
  have s4 := s4.pop
  have hdk : s'.d.length = k' := hdl'.trans hdl
  obtain ⟨aI, cI, GI, hcI, hsI⟩ := kr12_in (s4.nth 0 rfl : KR12 w4 q s' G4)
  have hq4 := kr12_lt (s4.nth 0 rfl : KR12 w4 q s' G4)
  refine ⟨[q], by simp, _, _, _, by simp only [addr_add, Nat.zero_add]; exact hcI, ?_⟩
  refine kp12_cached (s4.nth 1 rfl : KP12 w4 p s' F4) fun w5 a5 c5 G5 hs5 hG5 m5 => ⟨_, _, _, rfl, keepB1 (m5.keep q hq4 (by simp)), ?_⟩
  have s5 := s4.mod0 m5
  have hIl : s'.I.length ≤ 1024 := by
    have hT := (s4.nth 1 rfl : KP12 w4 p s' F4).t
    have hle := hT.le
    have := hT.rI.is_filter (n := 1024) fun x hx => by have := hT.inI x hx; unfold inD at this; omega
    have h2 := List.length_filter_le (fun x => decide (x ∈ s'.I)) (ups 1024)
    rw [this] at h2
    simpa [ups] using h2
  refine ints_rd hs5.rd (hsI.rd.mod0 m5) (by omega) fun w6 m6 => ⟨_, rfl, spl_t (decide_eq_true rfl) ?_⟩
  have s6 := s5.mod0 m6
  refine ⟨fun n b w' => ∃ j : Nat, b = j ∧ j ≤ k' ∧ n = k' - j ∧ Sep w w' [krPart12 q s' G4, kpPart12 p s' F4], ⟨k', 0, rfl, by omega, rfl, s6⟩, ?_⟩
  clear s4 s5 s6
  rintro n2 b2 - w7 ⟨j, rfl, hj, rfl, s7⟩
  refine ⟨fun hlt2 => ?_, fun hge2 => ⟨l - (k + 1), by omega, k + 1, s', F4, G4, by rw [w64 (by omega) (by omega)]; omega, by omega, by omega, rfl, by have := hlen.1; omega, by have := hlen.2; omega, hdk, s7⟩⟩
  rw [drK_eq]
  have s8 := s7.mod0 ((Mod.refl [] w7).drew)
  generalize w7.drew = w8 at s8 ⊢
  have hT := (s8.nth 1 rfl : KP12 w8 p s' F4).t
  have hj' : j < s'.d.length := by omega
  obtain ⟨pd, cd, ad2, c1, c2, i1, i2, i3, hrow⟩ := kr12_blocks (s8.nth 0 rfl : KR12 w8 q s' G4) (by omega)
  obtain ⟨a9, c9, G9, e1, e2, e3⟩ := hrow j _ (List.getElem?_eq_getElem hj')
  have hG4lt := (s8.nth 0 rfl : KR12 w8 q s' G4).lt
  refine ⟨[q, pd, ad2.block], by simp, _, c1, ?_⟩
  rw [nilK_some]
  refine ⟨by simp, _, _, _, c2, ?_⟩
  rw [nilK_some, Int.toNat_natCast]
  refine ⟨⟨by omega, by omega⟩, by simp [add_block], _, _, _, e1, ?_⟩
  refine kp12_disk (s8.nth 1 rfl : KP12 w8 p s' F4) j fun w9 a10 c10 G10 h10 m10 hs10 hG10 => ⟨_, _, _, rfl, ?_, ?_⟩
  · have key : ∀ x ∈ G4, w9.heap[x]? = w8.heap[x]? := fun x hx => m10.keep x (hG4lt x hx) fun hh => s8.dj 0 1 (by decide) rfl rfl x hx hh
    intro x hx
    simp only [List.mem_cons, List.not_mem_nil, or_false] at hx
    rcases hx with rfl | rfl | rfl
    · exact key _ i1
    · exact key _ i2
    · exact key _ i3
  have s9 := s8.turn 1 rfl (kpPart12 p s' F4) h10 m10
  have e2' : SlB w9 a9 s'.d[j].length c9 1 (u64s s'.d[j]) G9 := e2.keep fun x hx => m10.keep x (e2.lt x hx) fun hh => s8.dj 0 1 (by decide) rfl rfl x (e3 x hx) hh
  have hin9 : inD s'.d j := ⟨by omega, by omega⟩
  have hrw : (if inD s'.d j then row12 s'.d j else []) = s'.d[j] := by
    rw [if_pos hin9]
    unfold row12
    rw [Int.toNat_natCast, List.getElem?_eq_getElem hj']
    rfl
  have h32 : (row12 s'.d j).length = 32 := row12_32 hT.all hin9
  refine words_rd hs10.rd e2'.rd (by rw [if_pos hin9, h32]; decide) fun w10 m11 => ⟨_, rfl, ?_⟩
  exact spl_t (decide_eq_true hrw) ⟨k' - (j + 1), by omega, j + 1, by rw [w64 (by omega) (by omega)]; omega, by omega, rfl, s9.mod0 m11⟩

end Go.Proofs
