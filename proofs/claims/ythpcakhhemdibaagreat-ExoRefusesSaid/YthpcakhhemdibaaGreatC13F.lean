/-
  exo: a call that answers an error changes nothing that anybody sees: the law.
-/
import Derived.Test.YthpcakhhemdibaaGreatC13E
set_option linter.unusedVariables false
set_option linter.unusedSimpArgs false
namespace Go.Proofs
open Go Go.Den

set_option maxRecDepth 100000 in
set_option maxHeartbeats 1000000 in
theorem refuses13_run (w : World) (a : Option Addr) (l c : Nat) (hin : SlIn w 2 (Q_januslaw13_Ask w) a l c) (n : Int) (a2 : Option Addr) (l2 c2 : Nat) (_hn : (Lit.int .i64 n).wf = true) (hin2 : SlIn w 1 Q_u64 a2 l2 c2) : CallsR Tryz.prog F_januslaw13_ExoRefuses #[.slice a l c, .agg #[.int .i64 n, .slice a2 l2 c2]] w fun v w' => v = .bool true ∧ Mod [] w w' := by
  apply R_januslaw13_ExoRefuses_ok
  simp only [R_januslaw13_ExoRefuses]
  have hlle := hin.le
  obtain ⟨cs2, Gc2, hr2, hcs2⟩ := words_in13 hin2
  have hle2 := hin2.le
  refine (Den.Sep.nil (Den.Mod.refl [] w)).new fun b8 w1 s1 m1 _ => ?_
  refine worlds13_run w1 fun w2 k r F G s2 => ⟨_, _, _, rfl, spl_t rfl ?_⟩
  obtain ⟨PB, hPB⟩ : ∃ PB : Part, PB = blk b8 (.cells #[.int .i64 n, .slice a2 l2 c2] 32 (0, 0)) := ⟨_, rfl⟩
  obtain ⟨PR, hPR⟩ : ∃ PR : Part, PR = krxPart r (W13 3) G := ⟨_, rfl⟩
  have s3 : Den.Sep w w2 [PR, kxPart k (W13 3) F, PB] := by rw [hPB, hPR]; exact sep_glue s1 s2
  have cPB : ∀ {w' : World}, PB.P w' → w'.cell? ⟨b8, 0, none⟩ = some (.int .i64 n) ∧ w'.cell? ⟨b8, 1, none⟩ = some (.slice a2 l2 c2) := fun {w'} h => by
    rw [hPB] at h
    have h : w'.heap[b8]? = some _ := h
    exact ⟨by rw [cell_get h]; rfl, by rw [cell_get h]; rfl⟩
  clear hPB hPR s1 s2
  refine ⟨fun w' => ∃ (s : S13) (F : List Nat), T13 s ∧ Den.Sep w w' [PR, kxPart k s F, PB], ?_, ?_⟩
  rotate_left
  · refine ⟨fun m i w' => ∃ (j : Nat) (s : S13) (F : List Nat), i = j ∧ j ≤ l ∧ m = l - j ∧ T13 s ∧ Den.Sep w w' [PR, kxPart k s F, PB], ⟨l, 0, W13 3, F, rfl, by omega, by omega, T13_W 3, s3⟩, ?_⟩
    clear s3
    rintro m i - w4 ⟨j, s, F, rfl, hj, rfl, hT, s4⟩
    rw [spl_decide]
    refine ⟨fun hlt => ?_, fun _ => ⟨s, F, hT, s4⟩⟩
    rw [spl_decide]
    refine ⟨fun h80 => ?_, fun _ => ⟨s, F, hT, s4⟩⟩
    rw [drK_eq]
    have s5 := s4.mod0 ((Mod.refl [] w4).drew)
    generalize w4.drew = w5 at s5 ⊢
    obtain ⟨ad, e, wa, wl, wc, cs, Gc, rfl, c0, c1, hr, hle, hwc, hcs⟩ := ask_at hin s5.mod (i := j) (by omega)
    simp only [nilK_some, Int.toNat_natCast]
    refine ⟨⟨by omega, by omega⟩, _, c0, ⟨by omega, by omega⟩, _, _, _, c1, ?_⟩
    refine x_raw (s5.nth 1 rfl) e hr hle hwc hcs fun w6 F6 a6 c6 G6 z1 z2 z3 _ _ _ => ⟨_, _, _, _, rfl, l - (j + 1), by omega, j + 1, rawS13 s e cs, F6, by rw [w64 (by omega) (by omega)]; omega, by omega, rfl, hT.raw e cs (KX.w8 z1), s5.step 1 rfl (kxPart k (rawS13 s e cs) F6) z1 z2 z3⟩
  clear s3 F
  rintro - w4 ⟨s, F, hT, s4⟩
  refine s4.new fun b w5 s5 m5 _ => ?_
  refine ⟨fun m e w' => ∃ (j : Nat) (f : RowF) (F : List Nat), e = j ∧ j ≤ 4 ∧ m = 4 - j ∧ Den.Sep w w' (rowsL s f j ++ [blk b (wasO s f j), PR, kxPart k s F, PB]), ⟨4, 0, fun _ => (none, 0, []), F, rfl, by omega, by omega, s5⟩, ?_⟩
  clear s4 s5 m5 F
  rintro m e - w6 ⟨j, f, F, rfl, hj, rfl, s6⟩
  rw [spl_decide]
  refine ⟨fun hlt => ?_, fun hge => ?_⟩
  · simp only [addr_add, Nat.zero_add, Int.toNat_natCast]
    refine CallsR.mono (was_step (by omega) s6 (K := fun w' => ∃ m23, m23 < 4 - j ∧ ∃ (j' : Nat) (f : RowF) (F : List Nat), IntKind.i64.wrap ((j : Int) + 1) = j' ∧ j' ≤ 4 ∧ m23 = 4 - j' ∧ Den.Sep w w' (rowsL s f j' ++ [blk b (wasO s f j'), PR, kxPart k s F, PB])) fun w' f' F' s' => ⟨4 - (j + 1), by omega, j + 1, f', F', by rw [w64 (by omega) (by omega)]; omega, by omega, rfl, s'⟩) ?_
    rintro v w' ⟨x1, x2, x3, e1, e2⟩
    exact ⟨x1, x2, x3, e1, ⟨by omega, by omega⟩, e2⟩
  obtain rfl : j = 4 := by omega
  obtain ⟨TL, hTL⟩ : ∃ TL : List Nat → List Part, ∀ F, TL F = rowsL s f 4 ++ [blk b (wasO s f 4), PR, kxPart k s F, PB] := ⟨_, fun _ => rfl⟩
  rw [← hTL] at s6
  have hT6 : ∀ F, (TL F)[6]? = some (kxPart k s F) := fun F => by rw [hTL]; rfl
  have hTs : ∀ F F', (TL F).set 6 (kxPart k s F') = TL F' := fun F F' => by rw [hTL, hTL]; rfl
  refine ⟨fun m fA fL fC bA bL bC i w' => ∃ (j : Nat) (F Gf Gb : List Nat), i = j ∧ j ≤ 16 ∧ m = 16 - j ∧ Den.Sep w w' (sl fA fL fC 1 (u64s (frs13 s j)) Gf :: sl bA bL bC 1 (u64s (bls13 s j)) Gb :: TL F), ⟨16, 0, F, [], [], rfl, by omega, by omega, ?_⟩, ?_⟩
  · have h1 := s6.push (sl none 0 0 1 (u64s (bls13 s 0)) []) (Mod.refl [] w6) (SlB.nil w6 1) (by intro x hx; cases hx)
    exact h1.push (sl none 0 0 1 (u64s (frs13 s 0)) []) (Mod.refl [] w6) (SlB.nil w6 1) (by intro x hx; cases hx)
  clear s6 F
  rintro m fA fL fC bA bL bC i - w7 ⟨j, F, Gf, Gb, rfl, hj, rfl, s7⟩
  rw [spl_decide]
  refine ⟨fun hlt => ?_, fun hge => ?_⟩
  · refine fb_step (hT6 F) (by omega) s7 (K := fun xA xL xC yA yL yC w' => ∃ m40, m40 < 16 - j ∧ _) fun w8 fA fL fC Gf bA bL bC Gb F8 s8 => ⟨16 - (j + 1), by omega, j + 1, F8, Gf, Gb, by rw [w64 (by omega) (by omega)]; omega, by omega, rfl, ?_⟩
    rw [hTs] at s8
    exact s8
  obtain rfl : j = 16 := by omega
  have hTB : ∀ F, (TL F)[7]? = some PB := fun F => by rw [hTL]; rfl
  have hTw : ∀ F, (TL F)[4]? = some (blk b (wasO s f 4)) := fun F => by rw [hTL]; rfl
  have hTr : ∀ F e, e < 4 → (TL F)[3 - e]? = some (rowS s f e) := fun F e he => by
    rw [hTL, List.getElem?_append_left (by rw [rowsL_len]; omega)]
    have := rowsL_get s f (j := 4) (e := e) he
    rwa [show 4 - 1 - e = 3 - e by omega] at this
  obtain ⟨cb0, cb1⟩ := cPB (s7.nth 9 (hTB F))
  refine ⟨_, cb0, _, _, _, cb1, ?_⟩
  have hk7 : KX w7 k s F := s7.nth 8 (hT6 F)
  refine x_raw hk7 n (hr2.keep (s7.mod.at0 hr2.lt)) hle2.1 hle2.2 hcs2 fun w8 F8 a8 c8 G8 z1 z2 z3 _ _ _ => ⟨_, _, _, _, rfl, ?_⟩
  rw [spl_beq]
  have s8 := s7.step 8 (hT6 F) (kxPart k (rawS13 s n cs2) F8) z1 z2 z3
  refine ⟨fun h0 => awake13_run w8 fun w9 m9 => ⟨_, rfl, rfl, s8.mod.trans' m9⟩, fun hne => ?_⟩
  have eS := rawS13_err hT hne
  have eN := rawV13_nil hne
  rw [eS] at s8
  have s8 : Den.Sep w w8 (sl fA fL fC 1 (u64s (frs13 s 16)) Gf :: sl bA bL bC 1 (u64s (bls13 s 16)) Gb :: TL F8) := by rw [← hTs F F8]; exact s8
  clear z1 z2 z3 eS
  refine ⟨fun m e w' => ∃ (j : Nat) (F : List Nat), e = j ∧ j ≤ 4 ∧ m = 4 - j ∧ Den.Sep w w' (sl fA fL fC 1 (u64s (frs13 s 16)) Gf :: sl bA bL bC 1 (u64s (bls13 s 16)) Gb :: TL F), ⟨4, 0, F8, rfl, by omega, by omega, s8⟩, ?_⟩
  clear s7 s8 hk7
  rintro m e - w9 ⟨j, F, rfl, hj, rfl, s9⟩
  rw [spl_decide]
  refine ⟨fun hlt => ?_, fun hge => ?_⟩
  · have hj4 : j < 4 := by omega
    rw [drK_eq]
    have s10 := s9.mod0 ((Mod.refl [] w9).drew)
    generalize w9.drew = w10 at s10 ⊢
    have hw10 : w10.heap[b]? = some (wasO s f 4) := s10.nth 6 (hTw F)
    have cw : w10.cell? ⟨b, j, none⟩ = some (.slice (f j).1 (sees13 s j).length (f j).2.1) := by
      rw [cell_get hw10]
      rcases j with _ | _ | _ | _ | j
      · rfl
      · rfl
      · rfl
      · rfl
      · omega
    simp only [addr_add, Nat.zero_add, Int.toNat_natCast]
    refine ⟨[b], ⟨by omega, by omega⟩, by simp, _, _, _, cw, ?_⟩
    refine x_sees (s10.nth 8 (hT6 F)) _ fun w11 F11 a11 c11 G11 z1 z2 z3 hs11 hG11 hD11 => ⟨_, _, _, rfl, ?_, ?_⟩
    · refine z2.at (by intro x hx; simp only [List.mem_singleton] at hx; subst hx; exact lt_of_get hw10) fun x hx hm => ?_
      simp only [List.mem_singleton] at hx
      subst hx
      exact s10.dj 6 8 (by decide) (hTw F) (hT6 F) x (by simp [blk]) hm
    · have s11 := s10.step 8 (hT6 F) (kxPart k s F11) z1 z2 z3
      have s11 : Den.Sep w w11 (sl fA fL fC 1 (u64s (frs13 s 16)) Gf :: sl bA bL bC 1 (u64s (bls13 s 16)) Gb :: TL F11) := by rw [← hTs F F11]; exact s11
      have hrow : SlB w11 (f j).1 (sees13 s j).length (f j).2.1 1 (u64s (sees13 s j)) (f j).2.2 := s11.nth (2 + (3 - j)) (by rw [Nat.add_comm]; exact hTr F11 j hj4)
      refine words_rd hrow.rd hs11.rd (sees_le (s11.nth 8 (hT6 F11) : KX w11 k s F11) _) fun w12 m12 => ⟨_, rfl, spl_t (by simp) ⟨4 - (j + 1), by omega, j + 1, F11, by rw [w64 (by omega) (by omega)]; omega, by omega, rfl, s11.mod0 m12⟩⟩
  obtain rfl : j = 4 := by omega
  refine ⟨fun m fA' fL' fC' bA' bL' bC' i w' => ∃ (j : Nat) (F Gf' Gb' : List Nat), i = j ∧ j ≤ 16 ∧ m = 16 - j ∧ Den.Sep w w' (sl fA' fL' fC' 1 (u64s (frs13 s j)) Gf' :: sl bA' bL' bC' 1 (u64s (bls13 s j)) Gb' :: (sl fA fL fC 1 (u64s (frs13 s 16)) Gf :: sl bA bL bC 1 (u64s (bls13 s 16)) Gb :: TL F)), ⟨16, 0, F, [], [], rfl, by omega, by omega, ?_⟩, ?_⟩
  · have h1 := s9.push (sl none 0 0 1 (u64s (bls13 s 0)) []) (Mod.refl [] w9) (SlB.nil w9 1) (by intro x hx; cases hx)
    exact h1.push (sl none 0 0 1 (u64s (frs13 s 0)) []) (Mod.refl [] w9) (SlB.nil w9 1) (by intro x hx; cases hx)
  clear s9 F
  rintro m fA' fL' fC' bA' bL' bC' i - w10 ⟨j, F, Gf', Gb', rfl, hj, rfl, s10⟩
  rw [spl_decide]
  refine ⟨fun hlt => ?_, fun hge => ?_⟩
  · refine fb_step (i := 8) (F := F) (hT6 F) (by omega) s10 (K := fun xA xL xC yA yL yC w' => ∃ m40, m40 < 16 - j ∧ _) fun w8 fA' fL' fC' Gf' bA' bL' bC' Gb' F8 s8 => ⟨16 - (j + 1), by omega, j + 1, F8, Gf', Gb', by rw [w64 (by omega) (by omega)]; omega, by omega, rfl, ?_⟩
    have e : (sl fA fL fC 1 (u64s (frs13 s 16)) Gf :: sl bA bL bC 1 (u64s (bls13 s 16)) Gb :: TL F).set 8 (kxPart k s F8) = sl fA fL fC 1 (u64s (frs13 s 16)) Gf :: sl bA bL bC 1 (u64s (bls13 s 16)) Gb :: TL F8 := by rw [← hTs F F8]; rfl
    rw [e] at s8
    exact s8
  obtain rfl : j = 16 := by omega
  have hk10 : KX w10 k s F := s10.nth 10 (hT6 F)
  obtain ⟨hall, hT12⟩ := hk10.all
  have hf1 := frs_le hall 16
  have hb1 := bls_le hT12 16
  have r0 : SlB w10 fA' fL' fC' 1 (u64s (frs13 s 16)) Gf' := s10.nth 0 rfl
  have r1 : SlB w10 bA' bL' bC' 1 (u64s (bls13 s 16)) Gb' := s10.nth 1 rfl
  have r2 : SlB w10 fA fL fC 1 (u64s (frs13 s 16)) Gf := s10.nth 2 rfl
  have r3 : SlB w10 bA bL bC 1 (u64s (bls13 s 16)) Gb := s10.nth 3 rfl
  have l2' := r2.u64
  have l3' := r3.u64
  rw [eN]
  refine spl_t rfl ?_
  refine words_rd r2.rd r0.rd (by omega) fun w11 m11 => ⟨_, rfl, spl_t (by simp) ?_⟩
  refine words_rd (r3.keep (m11.at0 r3.lt)).rd (r1.keep (m11.at0 r1.lt)).rd (by omega) fun w12 m12 => ⟨_, rfl, spl_t (by simp) ?_⟩
  exact awake13_run w12 fun w13 m13 => ⟨_, rfl, rfl, ((s10.mod.trans' m11).trans' m12).trans' m13⟩

end Go.Proofs
