/-
  exo: any raw calls: each answer, and what each environment sees, where each call is short: the law.
-/
import Derived.Test.YthpcakhhemdibaaGreatR13H
import Derived.Test.YthpcakhhemdibaaGreatC13H
import Derived.Test.YthpcakhhemdibaaGreatC13J
set_option linter.unusedVariables false
set_option linter.unusedSimpArgs false
namespace Go.Proofs
open Go Go.Den

def Q13s (w : World) (cs : List Value) : Prop := ∃ d0 : Int, ∃ (wa : Option Addr) (wl wc : Nat), cs = [.int .i64 d0, .slice wa wl wc] ∧ SlIn w 1 Q_u64 wa wl wc ∧ wl ≤ 1048576
/-- An ask among the arguments, its row as it lay at first, short. -/
theorem ask_at1 {W : World} {a : Option Addr} {l c : Nat} (hin : SlIn W 2 (Q13s W) a l c) {i : Nat} (hi : i < l) : ∃ ad n wa wl wc cs G, a = some ad ∧ ad.block < W.heap.size ∧ wl ≤ 1048576 ∧ Rd W wa wl 1 (u64s cs) G ∧ wl ≤ wc ∧ wc ≤ 9223372036854775807 ∧ (∀ x ∈ cs, 0 ≤ x ∧ x < 18446744073709551616) ∧ ∀ {w : World}, Mod [] W w → w.cell? (Addr.add ad (i * 2)) = some (.int .i64 n) ∧ w.cell? (Addr.add (Addr.add ad (i * 2)) 1) = some (.slice wa wl wc) := by
  obtain ⟨ad, vs, rfl, hadlt, ⟨n, wa, wl, wc, rfl, hw, hwl⟩, -, hcell⟩ := hin.at hi
  obtain ⟨cs, G, hr, hcs⟩ := words_in13 hw
  have c0 := hcell 0 (by omega)
  have c1 := hcell 1 (by omega)
  rw [add_zero] at c0
  refine ⟨ad, n, wa, wl, wc, cs, G, rfl, hadlt, hwl, hr, hw.le.1, hw.le.2, hcs, fun {w} hm => ⟨?_, ?_⟩⟩
  · rw [hm.cell (by rw [add_block]; exact hadlt), c0]; rfl
  · rw [hm.cell (by rw [add_block, add_block]; exact hadlt), c1]; rfl

set_option maxRecDepth 100000 in
set_option maxHeartbeats 2000000 in
theorem plays13_run (w : World) (a : Option Addr) (l c : Nat) (hin : SlIn w 2 (Q13s w) a l c) : CallsR Tryz.prog F_januslaw13_ExoPlays #[.slice a l c] w fun v w' => v = .bool true ∧ Mod [] w w' := by
  apply R_januslaw13_ExoPlays_ok
  simp only [R_januslaw13_ExoPlays]
  have hlle := hin.le
  refine worlds13_run w fun w2 k r F G s2 => ⟨_, _, _, rfl, spl_t rfl ?_⟩
  have hy : KRY w2 r (W13 3) G 0 := KRX.y (s2.nth 0 rfl) fun e => rfl
  have s3 : Den.Sep w w2 [kryPart r (W13 3) G 0, kxPart k (W13 3) F] := s2.step 0 rfl (kryPart r (W13 3) G 0) hy (Mod.refl _ _) (Own.refl _ _)
  clear s2 hy
  refine ⟨fun w' => Mod [] w w', ?_, ?_⟩
  · rintro - w4 m4
    exact awake13_run w4 fun w5 m5 => ⟨_, rfl, rfl, Mod.trans' m4 m5⟩
  refine ⟨fun m i w' => ∃ (j : Nat) (s : S13) (F G : List Nat), i = j ∧ j ≤ l ∧ m = l - j ∧ j ≤ 80 ∧ Wr13 s j ∧ Den.Sep w w' [kryPart r s G j, kxPart k s F], ⟨l, 0, W13 3, F, G, rfl, by omega, by omega, by omega, Wr13_W, s3⟩, ?_⟩
  clear s3 F G
  rintro m i - w4 ⟨j, s, F, G, rfl, hj, rfl, hj80, hW, s4⟩
  rw [spl_decide]
  refine ⟨fun hlt => ?_, fun _ => s4.mod⟩
  rw [spl_decide]
  refine ⟨fun h80 => ?_, fun _ => s4.mod⟩
  rw [drK_eq]
  have s5 := s4.mod0 ((Mod.refl [] w4).drew)
  generalize w4.drew = w5 at s5 ⊢
  obtain ⟨ad, e, wa, wl, wc, cs, Gc, rfl, hadl, hshort, hr, hle, hwc, hcs, hcell⟩ := ask_at1 hin (i := j) (by omega)
  simp only [nilK_some, Int.toNat_natCast]
  have hwl := hr.u64
  refine ⟨[ad.block], ⟨by omega, by omega⟩, by simp [add_block], _, (hcell s5.mod).1, ⟨by omega, by omega⟩, by simp [add_block], _, _, _, (hcell s5.mod).2, ?_⟩
  refine push_rd_K (w0 := w5) slT_u64 (by decide) (SlB.nil w5 1) (by simp [Beyond]) (Mod.refl _ _) (hr.keep (s5.mod.at0 hr.lt)) (u64s_cell _) (by omega) (by omega) fun A6 C6 w6 G6 hs6 hG6 m6 _ _ => ⟨_, _, _, rfl, ?_, ?_⟩
  · exact m6.at0 fun x hx => by
      simp only [List.mem_singleton] at hx
      subst hx
      exact Nat.lt_of_lt_of_le hadl s5.mod.size
  rw [List.nil_append] at hs6
  have s6 := s5.push (sl A6 (0 + wl) C6 1 (u64s cs) G6) m6 hs6 hG6
  refine x_rawl (s6.nth 2 rfl) e (s6.nth 0 rfl : SlB w6 A6 (0 + wl) C6 1 (u64s cs) G6).rd hs6.le (by omega) hcs fun w7 F7 a7 c7 G7 z1 z2 z3 hs7 hG7 hD7 => ⟨_, _, _, _, rfl, ?_⟩
  have s7 : Den.Sep w w7 [sl a7 (rawV13 s e cs).1.length c7 1 (u64s (rawV13 s e cs).1) G7, sl A6 (0 + wl) C6 1 (u64s cs) G6, kryPart r s G j, kxPart k (rawS13 s e cs) F7] := sep_row s6 2 rfl (kxPart k (rawS13 s e cs) F7) z1 z2 z3 (sl a7 (rawV13 s e cs).1.length c7 1 (u64s (rawV13 s e cs).1) G7) hs7 hG7 hD7
  have hW7 := hW.raw e cs (KX.w8 z1)
  have hle7 : (rawV13 s e cs).1.length ≤ 32 := by
    have hk := (s4.nth 1 rfl : KX w4 k s F)
    exact rawV13_le hk.all.2 (KX.w8d hk) hW.q8 e cs
  rw [drK_eq]
  have s8 := s7.mod0 ((Mod.refl [] w7).drew)
  generalize w7.drew = w8 at s8 ⊢
  refine ⟨[ad.block], ⟨by omega, by omega⟩, by simp [add_block], _, (hcell s8.mod).1, ⟨by omega, by omega⟩, by simp [add_block], _, _, _, (hcell s8.mod).2, ?_⟩
  refine r_raw (s8.nth 2 rfl) (hW.small hj80).1 (hW.small hj80).2 (by omega) hW.q8 e (hr.keep (s8.mod.at0 hr.lt)) (fun x hx hx2 => by
    have := hr.lt x hx
    have := s8.bey 2 rfl x hx2
    omega) hle hwc hcs fun w9 G9 a9 c9 H9 y1 y2 y3 hr9 _ => ⟨_, _, _, _, rfl, ?_⟩
  have s9 : Den.Sep w w9 [sl a7 (rawV13 s e cs).1.length c7 1 (u64s (rawV13 s e cs).1) G7, sl A6 (0 + wl) C6 1 (u64s cs) G6, kryPart r (rawS13 s e cs) G9 (j + 1), kxPart k (rawS13 s e cs) F7] := s8.step 2 rfl (kryPart r (rawS13 s e cs) G9 (j + 1)) y1 y2 y3
  have hrow : SlB w9 a7 (rawV13 s e cs).1.length c7 1 (u64s (rawV13 s e cs).1) G7 := s9.nth 0 rfl
  refine words_rd hrow.rd hr9 (by omega) fun w10 m10 => ⟨_, rfl, spl_t (by simp) ?_⟩
  rw [spl_bne]
  refine ⟨fun h => absurd rfl h, fun _ => ?_⟩
  have s10 : Den.Sep w w10 [kryPart r (rawS13 s e cs) G9 (j + 1), kxPart k (rawS13 s e cs) F7] := Den.Sep.pop (Den.Sep.pop (s9.mod0 m10))
  generalize rawS13 s e cs = s' at s10 hW7
  have hj81 : j + 1 ≤ 80 := by omega
  refine ⟨fun m e w' => ∃ (t : Nat) (F : List Nat), e = t ∧ t ≤ 5 ∧ m = 5 - t ∧ Den.Sep w w' [kryPart r s' G9 (j + 1), kxPart k s' F], ⟨5, 0, F7, rfl, by omega, by omega, s10⟩, ?_⟩
  rintro m e - w11 ⟨t, F, rfl, ht, rfl, s11⟩
  rw [spl_decide]
  refine ⟨fun hlt5 => ?_, fun hge => ⟨l - (j + 1), by omega, j + 1, s', F, G9, by rw [w64 (by omega) (by omega)]; omega, by omega, rfl, hj81, hW7, s11⟩⟩
  have hk11 : KX w11 k s' F := s11.nth 1 rfl
  refine x_sees hk11 _ fun w12 F12 a12 c12 G12 z1 z2 z3 hs12 hG12 hD12 => ⟨_, _, _, rfl, ?_⟩
  have s12 : Den.Sep w w12 [sl a12 (sees13 s' t).length c12 1 (u64s (sees13 s' t)) G12, kryPart r s' G9 (j + 1), kxPart k s' F12] := sep_row s11 1 rfl (kxPart k s' F12) z1 z2 z3 (sl a12 (sees13 s' t).length c12 1 (u64s (sees13 s' t)) G12) hs12 hG12 hD12
  refine r_sees (s12.nth 1 rfl : KRY w12 r s' G9 (j + 1)) (hW7.small hj81).1 (hW7.small hj81).2 (by omega) hk11.all.1 hk11.all.2 (KX.w8d hk11) _ fun w13 a13 c13 H13 hs13 m13 => ⟨_, _, _, rfl, ?_⟩
  have s13 := s12.mod0 m13
  have hrow : SlB w13 a12 (sees13 s' t).length c12 1 (u64s (sees13 s' t)) G12 := s13.nth 0 rfl
  refine words_rd hrow.rd hs13.rd (sees_le hk11 _) fun w14 m14 => ⟨_, rfl, spl_t (by simp) ?_⟩
  exact ⟨5 - (t + 1), by omega, t + 1, F12, by rw [w64 (by omega) (by omega)]; omega, by omega, rfl, Den.Sep.pop (s13.mod0 m14)⟩

end Go.Proofs
