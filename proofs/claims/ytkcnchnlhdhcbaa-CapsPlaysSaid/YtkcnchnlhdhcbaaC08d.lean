/-
  Layer 8: any deeds.
-/
import Derived.Test.YtkcnchnlhdhcbaaC08c
import Derived.Test.YtkcnchnlhdhcbaaRCaps6
set_option linter.unusedSimpArgs false
namespace Go.Proofs
open Go Go.Den

def crp (p : Nat) (s : S8) (F : List Nat) : Part := crPart p s F

theorem and7_bound (x : Int) : 0 ≤ ibits .and .i64 x 7 ∧ ibits .and .i64 x 7 ≤ 7 := by
  have h : ((BitVec.ofInt 64 x &&& BitVec.ofInt 64 7).toNat) ≤ 7 := by
    rw [BitVec.toNat_and]
    exact Nat.and_le_right
  have e : ibits .and .i64 x 7 = ((BitVec.ofInt 64 x &&& BitVec.ofInt 64 7).toNat : Int) := by
    show IntKind.i64.wrap ((BitVec.ofInt 64 x &&& BitVec.ofInt 64 7).toNat : Int) = _
    exact w64 (by omega) (by omega)
  rw [e]
  omega

theorem putS8_len (s : S8) (e o : Int) (x : Cap8) : (putS8 s e o x).L.length ≤ s.L.length + 1 ∧ (putS8 s e o x).last ≤ s.last + 1 := by
  unfold putS8; split
  · simp; omega
  · simp
theorem addS8_len (s : S8) (e : Int) (x : Cap8) : (addS8 s e x).L.length ≤ s.L.length + 1 ∧ (addS8 s e x).last ≤ s.last + 1 := by
  unfold addS8; split
  · exact putS8_len ..
  · simp; omega
theorem giveS8_len (s : S8) (e sl to r : Int) : (giveS8 s e sl to r).L.length ≤ s.L.length + 1 ∧ (giveS8 s e sl to r).last ≤ s.last + 1 := by
  unfold giveS8; split
  · simp; omega
  · split
    · exact putS8_len ..
    · simp; omega
theorem dropS8_len (s : S8) (e sl : Int) : (dropS8 s e sl).L.length ≤ s.L.length ∧ (dropS8 s e sl).last = s.last := by
  refine ⟨dropL_len s e sl, ?_⟩
  unfold dropS8; split <;> rfl
theorem revokeS8_len (s : S8) (e sl : Int) : (revokeS8 s e sl).L.length ≤ s.L.length ∧ (revokeS8 s e sl).last = s.last := by
  unfold revokeS8; split
  · simp
  · exact ⟨List.length_filter_le _ _, rfl⟩
theorem goneS8_len (s : S8) (e : Int) : ∀ n, (goneS8 s e n).L.length ≤ s.L.length ∧ (goneS8 s e n).last = s.last
  | 0 => ⟨Nat.le_refl _, rfl⟩
  | n + 1 => by
    have h1 := goneS8_len s e n
    have h2 := dropS8_len (goneS8 s e n) e (n + 1 : Nat)
    exact ⟨Nat.le_trans h2.1 h1.1, h2.2.trans h1.2⟩

theorem do_run {w0 w : World} {p q : Nat} {s : S8} {F G : List Nat} {y : Part} {rest : List Part} (hs : Sep w0 w (y :: crp q s G :: cpPart p s F :: rest)) (hL : s.L.length ≤ 1000) (hl : s.last ≤ 1000) (d0 d1 d2 d3 d4 d5 d6 d7 d8 : Int) {K : Value → World → Prop}
    (hK : ∀ w' s' F' G', Sep w0 w' (y :: crp q s' G' :: cpPart p s' F' :: rest) → s'.L.length ≤ s.L.length + 1 → s'.last ≤ s.last + 1 → K (.bool true) w') :
    CallsR Try.prog F_januslaw08_do #[.pointer (some ⟨p, 0, none⟩), .pointer (some ⟨q, 0, none⟩), .agg #[.int .i64 d0, .int .i64 d1, .int .i64 d2, .int .i64 d3, .int .i64 d4, .int .i64 d5, .int .i64 d6, .int .i64 d7, .int .i64 d8]] w K := by
  apply R_januslaw08_do_ok
  simp only [R_januslaw08_do, spl_beq]
  refine hs.new fun b w1 s1 m1 hb => ⟨d0, s1.cell 0 rfl rfl, fun _ => ?_, fun _ => ⟨fun _ => ?_, fun _ => ⟨fun _ => ?_, fun _ => ⟨fun _ => ?_, fun _ => ?_⟩⟩⟩⟩
  · refine ⟨d1, s1.cell 0 rfl rfl, d5, d6, d7, d8, ⟨s1.cell 0 rfl rfl, s1.cell 0 rfl rfl, s1.cell 0 rfl rfl, s1.cell 0 rfl rfl⟩, ?_⟩
    refine padd_run (s1.nth 3 rfl : CP w1 p s F) d1 ⟨d5, d6, d7, d8⟩ fun w2 F2 h2 m2 o2 => ⟨_, _, rfl, ?_⟩
    have s2 := s1.step 3 rfl (cpPart p _ F2) h2 m2 o2
    refine ⟨d1, s2.cell 0 rfl rfl, d5, d6, d7, d8, ⟨s2.cell 0 rfl rfl, s2.cell 0 rfl rfl, s2.cell 0 rfl rfl, s2.cell 0 rfl rfl⟩, ?_⟩
    refine add8_run (s2.nth 2 rfl : CR w2 q s G) (by omega) (by omega) d1 ⟨d5, d6, d7, d8⟩ fun w3 G3 h3 m3 o3 => ⟨_, _, rfl, fun _ => ?_, fun h => absurd rfl h⟩
    have s3 := s2.step 2 rfl (crp q _ G3) h3 m3 o3
    have := addS8_len s d1 ⟨d5, d6, d7, d8⟩
    rw [beq_self_eq_true]
    exact hK w3 _ F2 G3 s3.pop this.1 this.2
  · refine ⟨d1, s1.cell 0 rfl rfl, d2, s1.cell 0 rfl rfl, d3, s1.cell 0 rfl rfl, d4, s1.cell 0 rfl rfl, ?_⟩
    refine pgive_run (s1.nth 3 rfl : CP w1 p s F) d1 d2 d3 d4 fun w2 F2 h2 m2 o2 => ⟨_, _, rfl, ?_⟩
    have s2 := s1.step 3 rfl (cpPart p _ F2) h2 m2 o2
    refine ⟨d1, s2.cell 0 rfl rfl, d2, s2.cell 0 rfl rfl, d3, s2.cell 0 rfl rfl, d4, s2.cell 0 rfl rfl, ?_⟩
    refine give8_run (s2.nth 2 rfl : CR w2 q s G) (by omega) (by omega) d1 d2 d3 d4 fun w3 G3 h3 m3 o3 => ⟨_, _, rfl, fun _ => ?_, fun h => absurd rfl h⟩
    have s3 := s2.step 2 rfl (crp q _ G3) h3 m3 o3
    have := giveS8_len s d1 d2 d3 d4
    rw [beq_self_eq_true]
    exact hK w3 _ F2 G3 s3.pop this.1 this.2
  · refine ⟨d1, s1.cell 0 rfl rfl, d2, s1.cell 0 rfl rfl, ?_⟩
    refine pdrop_run (s1.nth 3 rfl : CP w1 p s F) d1 d2 fun w2 F2 h2 m2 o2 => ⟨_, _, rfl, ?_⟩
    have s2 := s1.step 3 rfl (cpPart p _ F2) h2 m2 o2
    refine ⟨d1, s2.cell 0 rfl rfl, d2, s2.cell 0 rfl rfl, ?_⟩
    refine drop8_run (s2.nth 2 rfl : CR w2 q s G) (by omega) d1 d2 fun w3 G3 h3 m3 o3 => ⟨_, _, rfl, fun _ => ?_, fun h => by rw [beq_self_eq_true] at h; cases h⟩
    have s3 := s2.step 2 rfl (crp q _ G3) h3 m3 o3
    have := dropS8_len s d1 d2
    rw [beq_self_eq_true]
    exact hK w3 _ F2 G3 s3.pop (by omega) (by omega)
  · refine ⟨d1, s1.cell 0 rfl rfl, d2, s1.cell 0 rfl rfl, ?_⟩
    refine prevoke_run (s1.nth 3 rfl : CP w1 p s F) d1 d2 fun w2 F2 h2 m2 o2 => ⟨_, _, rfl, ?_⟩
    have s2 := s1.step 3 rfl (cpPart p _ F2) h2 m2 o2
    refine ⟨d1, s2.cell 0 rfl rfl, d2, s2.cell 0 rfl rfl, ?_⟩
    refine revoke8_run (s2.nth 2 rfl : CR w2 q s G) (by omega) d1 d2 fun w3 G3 h3 m3 o3 => ⟨_, _, rfl, fun _ => ?_, fun h => absurd rfl h⟩
    have s3 := s2.step 2 rfl (crp q _ G3) h3 m3 o3
    have := revokeS8_len s d1 d2
    rw [beq_self_eq_true]
    exact hK w3 _ F2 G3 s3.pop (by omega) (by omega)
  · refine ⟨d1, s1.cell 0 rfl rfl, ?_⟩
    refine pgone_run (s1.nth 3 rfl : CP w1 p s F) d1 fun w2 F2 h2 m2 o2 => ⟨rfl, ?_⟩
    have s2 := s1.step 3 rfl (cpPart p _ F2) h2 m2 o2
    refine ⟨d1, s2.cell 0 rfl rfl, ?_⟩
    refine gone8_run (s2.nth 2 rfl : CR w2 q s G) (by omega) d1 fun w3 G3 h3 m3 o3 => ⟨rfl, ?_⟩
    have s3 := s2.step 2 rfl (crp q _ G3) h3 m3 o3
    have := goneS8_len s d1 64
    exact hK w3 _ F2 G3 s3.pop (by omega) (by omega)

theorem plays_run (w : World) (a : Option Addr) (l c : Nat) (hin : SlIn w 9 Q_januslaw08_Deed a l c) : CallsR Try.prog F_januslaw08_CapsPlays #[.slice a l c] w fun v w' => v = .bool true ∧ Mod [] w w' := by
  apply R_januslaw08_CapsPlays_ok
  simp only [R_januslaw08_CapsPlays, spl_decide]
  refine pnew_run fun p F1 w1 h1 m1 b1 => ⟨_, rfl, ?_⟩
  have s1 := (Sep.nil (Mod.refl [] w)).push (cpPart p _ F1) m1 h1 b1
  refine s1.new fun q w2 s2 m2 hq => spl_f rfl ?_
  have r2 : CR w2 q ⟨[], 0⟩ [q] := ⟨W8.nil, none, 0, 0, [], _, s2.nth 0 rfl, SlB.nil w2 8, by simp, rfl⟩
  have s2 := (s2.turn 0 rfl (crp q ⟨[], 0⟩ [q]) r2 (Mod.refl _ _))
  have hlle := hin.le
  refine ⟨fun w' => Mod [] w w', fun _ w' hm => fin_run hm, ?_⟩
  refine ⟨fun n i w' => ∃ (k : Nat) (s : S8) (F G : List Nat), i = k ∧ k ≤ l ∧ k ≤ 150 ∧ n = l - k ∧ s.L.length ≤ k ∧ s.last ≤ k ∧ Sep w w' [crp q s G, cpPart p s F], ⟨l, 0, _, F1, [q], rfl, by omega, by omega, rfl, by simp, by simp, s2⟩, ?_⟩
  clear s1 h1 m1 b1 r2 s2
  rintro n i - w3 ⟨k, s, F, G, rfl, hk, h150, rfl, hsL, hsl, s3⟩
  refine ⟨fun hlt => ⟨fun h3 => ?_, fun _ => s3.mod⟩, fun _ => s3.mod⟩
  have hkl : k < l := by omega
  obtain ⟨ad, cs, rfl, hadlt, ⟨d0, d1, d2, d3, d4, d5, d6, d7, d8, rfl, f0, f1, f2, f3, f4, f5, f6, f7, f8⟩, -, hcell⟩ := hin.at hkl
  have cell : ∀ j v, j < 9 → [Value.int .i64 d0, .int .i64 d1, .int .i64 d2, .int .i64 d3, .int .i64 d4, .int .i64 d5, .int .i64 d6, .int .i64 d7, .int .i64 d8][j]? = some v → w3.cell? (Addr.add (Addr.add ad (k * 9)) j) = some v := fun j v hj hv => by
    rw [← hv, ← hcell j hj]
    exact s3.mod.cell (by rw [add_block, add_block]; exact hadlt)
  simp only [nilK_some, Int.toNat_natCast]
  refine ⟨⟨by omega, by omega⟩, d0, d1, d2, d3, d4, d5, d6, d7, d8, ⟨by have := cell 0 _ (by decide) rfl; rwa [add_zero] at this, cell 1 _ (by decide) rfl, cell 2 _ (by decide) rfl, cell 3 _ (by decide) rfl, cell 4 _ (by decide) rfl, cell 5 _ (by decide) rfl, cell 6 _ (by decide) rfl, cell 7 _ (by decide) rfl, cell 8 _ (by decide) rfl⟩, ?_⟩
  clear cell hcell
  refine s3.new fun b w4 s4 m4 hb => s4.st0 0 rfl rfl fun w5 s5 m5 => ?_
  rw [drK_eq]
  have s6 := s5.mod0 ((Mod.refl [] w5).drew)
  generalize w5.drew = w6 at s6 ⊢
  refine ⟨[b], by simp, d0, d1, d2, d3, d4, d5, d6, d7, d8, ⟨s6.cell 0 rfl rfl, s6.cell 0 rfl rfl, s6.cell 0 rfl rfl, s6.cell 0 rfl rfl, s6.cell 0 rfl rfl, s6.cell 0 rfl rfl, s6.cell 0 rfl rfl, s6.cell 0 rfl rfl, s6.cell 0 rfl rfl⟩, ?_⟩
  refine do_run s6 (by omega) (by omega) d0 d1 d2 d3 d4 d5 d6 d7 d8 fun w7 s' F' G' s7 hL' hl' => ⟨_, rfl, ?_⟩
  have kp : ∀ {u : World} {l : List Part}, Sep w u l → l[0]? = some (blk b _) → keepB [b] w6 u := fun h h0 => keepB1 (s6.kept h 0 0 rfl h0)
  rw [spl_true]
  refine ⟨kp s7 rfl, by simp, d3, s7.cell 0 rfl rfl, by simp, d5, s7.cell 0 rfl rfl, by simp, d6, s7.cell 0 rfl rfl, by simp, d4, s7.cell 0 rfl rfl, by simp, d3, s7.cell 0 rfl rfl, by simp, d5, s7.cell 0 rfl rfl, by simp, d6, s7.cell 0 rfl rfl, by simp, d4, s7.cell 0 rfl rfl, ?_⟩
  refine phas_run (s7.nth 2 rfl : CP w7 p s' F') d3 d5 d6 _ f6 fun w8 m8 => ⟨_, rfl, ?_⟩
  have s8 := s7.mod0 m8
  refine ⟨kp s8 rfl, ?_⟩
  refine has8_run (s8.nth 1 rfl : CR w8 q s' G') (by omega) d3 d5 d6 _ f6 (and7_bound d4) fun w9 m9 => ⟨_, rfl, ?_⟩
  have s9 := s8.mod0 m9
  refine ⟨kp s9 rfl, spl_f (by rw [beq_self_eq_true]; rfl) ⟨by simp, d5, s9.cell 0 rfl rfl, by simp, d6, s9.cell 0 rfl rfl, by simp, d5, s9.cell 0 rfl rfl, by simp, d6, s9.cell 0 rfl rfl, ?_⟩⟩
  refine pholders_run (s9.nth 2 rfl : CP w9 p s' F') d5 d6 f6 fun w10 a10 c10 G10 hs10 hG10 m10 => ⟨_, _, _, rfl, ?_⟩
  have s10 := s9.mod0 m10
  refine ⟨kp s10 rfl, ?_⟩
  refine holders8_run (s10.nth 1 rfl : CR w10 q s' G') (by omega) d5 d6 f6 fun a11 c11 w11 G11 hs11 hG11 m11 hle12 => ⟨_, _, _, rfl, ?_⟩
  have hs10 := hs10.keep (m11.at0 hs10.lt)
  refine ints_rd hs10.rd hs11.rd (by omega) fun w12 m12 => ⟨_, rfl, spl_t (by simp) ?_⟩
  have s12 := (s10.mod0 m11).mod0 m12
  refine ⟨fun n t w' => ∃ j : Nat, t = j ∧ j ≤ 5 ∧ n = 5 - j ∧ Sep w w' [blk b _, crp q s' G', cpPart p s' F'], ⟨5, 0, rfl, by omega, rfl, s12⟩, ?_⟩
  rintro n t - w13 ⟨j, rfl, hj, rfl, s13⟩
  refine ⟨fun hle => ⟨d3, s13.cell 0 rfl rfl, ?_⟩, fun _ => ⟨l - (k + 1), by omega, k + 1, s', F', G', by rw [w64 (by omega) (by omega)]; omega, by omega, by omega, rfl, by omega, by omega, s13.pop⟩⟩
  refine pget_run (s13.nth 2 rfl : CP w13 p s' F') d3 j fun w14 m14 => ⟨_, _, _, _, _, rfl, ?_⟩
  have s14 := s13.mod0 m14
  refine s14.new fun bx w15 s15 m15 hbx => s15.st0 0 rfl rfl fun w16 s16 m16 => ⟨d3, s16.cell 1 rfl rfl, ?_⟩
  refine get8_run (s16.nth 2 rfl : CR w16 q s' G') (by omega) d3 j fun w17 m17 => ⟨_, _, _, _, _, rfl, ?_⟩
  have s17 := s16.mod0 m17
  refine s17.new fun by_ w18 s18 m18 hby => s18.st0 0 rfl rfl fun w19 s19 m19 => ?_
  refine ⟨_, _, _, _, ⟨s19.cell 1 rfl rfl, s19.cell 1 rfl rfl, s19.cell 1 rfl rfl, s19.cell 1 rfl rfl⟩, _, _, _, _, ⟨s19.cell 0 rfl rfl, s19.cell 0 rfl rfl, s19.cell 0 rfl rfl, s19.cell 0 rfl rfl⟩, ?_⟩
  obtain ⟨x, ok⟩ := getV8 s'.L d3 j
  refine eqAgg_K eqT_api_Cap (xs := [.int .i64 x.k, .int .i64 x.i, .int .i64 x.n, .int .i64 x.r]) (ys := [.int .i64 x.k, .int .i64 x.i, .int .i64 x.n, .int .i64 x.r]) (by simp [matchL, matchS]) (by simp [matchL, matchS]) ?_
  refine spl_f (by simp [cellsEq, cellEq]) (spl_f (by simp) ?_)
  exact ⟨5 - (j + 1), by omega, j + 1, by rw [w64 (by omega) (by omega)]; omega, by omega, rfl, s19.pop.pop⟩

end Go.Proofs
