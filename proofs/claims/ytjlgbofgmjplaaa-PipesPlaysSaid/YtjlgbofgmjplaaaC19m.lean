/-
  Layer 19: the walk of 'PipesPlays'.
-/
import Derived.Test.YtjlgbofgmjplaaaC19l
set_option linter.unusedSimpArgs false
namespace Go.Proofs
open Go Go.Den

/-- Both have the same pipes. -/
def Bth (w0 : World) (b : Nat) (pp : Option Addr) (w' : World) : Prop :=
  ∃ (p : Nat) (l : PS) (F : List Nat), pp = some ⟨p, 0, none⟩ ∧ PipesP w' p l F ∧ PipesR w' b l ∧ Beyond w0.heap.size F ∧ b ∉ F ∧ Mod [] w0 w'

theorem first_eq {l : PS} {k k' : Nat} (h1 : l[k]? = some none) (h2 : ∀ i < k, l[i]? ≠ some none) (h3 : l[k']? = some none) (h4 : ∀ i < k', l[i]? ≠ some none) : k = k' := by
  rcases Nat.lt_trichotomy k k' with h | h | h
  · exact absurd h1 (h4 k h)
  · exact h
  · exact absurd h3 (h2 k' h)
theorem NoP.absurd {l : PS} {k : Nat} {bs : List UInt8} (h : l[k]? = some (some bs)) (hl : l.length = 16) : ¬ NoP l (k : Int) := by
  rintro (h1 | h1 | ⟨k', h1, h2⟩)
  · omega
  · have := (List.getElem?_eq_some_iff.1 h).1; omega
  · obtain rfl : k = k' := by omega
    rw [h] at h2; cases h2

theorem plays_run (w : World) (a : Option Addr) (l c : Nat) (hl : SlIn w 4 Q_januslaw19_Deed a l c) :
    CallsR Try.prog F_januslaw19_PipesPlays #[.slice a l c] w fun r w' => r = .bool true ∧ Mod [] w w' := by
  apply R_januslaw19_PipesPlays_ok
  simp only [R_januslaw19_PipesPlays]
  have fin : ∀ (w' : World), Mod [] w w' → CallsR Try.prog F_januslaw19_awake #[] w' fun v w'' => ∃ r : Bool, v = .bool r ∧ Value.bool r = .bool true ∧ Mod [] w w'' := fun w' h => awake_run _ fun w2 h2 => ⟨true, rfl, rfl, h.trans' h2⟩
  refine pipes_new w fun p F w1 hp1 hm1 hF => ⟨_, rfl, ?_⟩
  simp only [newK_eq, Option.isNone_some, spl_false, spl_decide, spl_beq, spl_bne, drK_eq]
  refine ⟨fun w' => Mod [] w w', fun _ w' hm => fin w' hm, ?_⟩
  have hr1 := pipesr_new w1 (T := 50)
  obtain ⟨b, hb⟩ : ∃ b, b = w1.heap.size := ⟨_, rfl⟩
  generalize hw2 : w1.alloc _ = w2 at hr1 ⊢
  rw [← hb] at hr1 ⊢
  have m12 : Mod [] w1 w2 := by rw [← hw2]; exact (Mod.refl _ _).alloc _
  have hm2 := hm1.trans' m12
  have hp1lt := hp1.lt
  have hbw : w.heap.size ≤ b := by rw [hb]; exact hm1.size
  have st0 : Bth w b (some ⟨p, 0, none⟩) w2 := ⟨p, _, F, rfl, hp1.keep fun x hx => m12.keep x (hp1lt x hx) (by simp), hr1, hF, fun h => by have := hp1lt b h; omega, hm2⟩
  clear hw2 hr1 hp1 m12 hp1lt hF hb
  refine ⟨fun n pp i w' => ∃ k : Nat, i = k ∧ k ≤ l ∧ k ≤ 200 ∧ n = l - k ∧ Bth w b pp w', ⟨l, 0, rfl, by omega, by omega, rfl, st0⟩, ?_⟩
  rintro n pp i - w3 ⟨k, rfl, hk, h200, rfl, hB3⟩
  have hm3 : Mod [] w w3 := by obtain ⟨_, _, _, _, _, _, _, _, h⟩ := hB3; exact h
  refine ⟨fun hlt => ⟨fun hlt2 => ?_, fun _ => hm3⟩, fun _ => hm3⟩
  have hkl : k < l := by omega
  obtain ⟨ad, cs, rfl, hadlt, ⟨dk, di, dn, ds, rfl, hwk, hwi, hwn, hws⟩, -, hcell⟩ := (hl.mod hm3).at hkl
  simp only [nilK_some, Int.toNat_natCast]
  refine ⟨⟨by omega, by omega⟩, dk, di, dn, ds, ⟨by simpa using hcell 0 (by omega), hcell 1 (by omega), hcell 2 (by omega), hcell 3 (by omega)⟩, ?_⟩
  refine stK_of (alloc_new _ _) (by simp) ?_
  generalize hw4 : (w3.alloc _).upd _ _ = w4
  obtain ⟨bd, hbd⟩ : ∃ bd, bd = w3.heap.size := ⟨_, rfl⟩
  rw [← hbd]
  have hx : w4.heap[bd]? = some (.cells #[.int .i64 dk, .int .i64 di, .int .i64 dn, .string ds] 29 (0, 0)) := by rw [← hw4, hbd, upd_same (alloc_new _ _)]; simp
  have m34 : Mod [] w3 w4 := by rw [← hw4]; exact ((Mod.refl [] w3).alloc _).upd (.inr (Nat.le_refl _)) _
  have hbdw : w.heap.size ≤ bd := by rw [hbd]; exact hm3.size
  obtain ⟨p3, l3, F3, rfl, hp3, hr3, hF3, hbF3, -⟩ := hB3
  have hp3lt := hp3.lt
  have hr3lt := hr3.lt
  have hp4 := hp3.keep (w' := w4) fun x hx => m34.keep x (hp3lt x hx) (by simp)
  have hr4 := hr3.keep (w' := w4) (m34.keep b hr3lt (by simp))
  have hbdF : bd ∉ F3 := fun h => by have := hp3lt bd h; omega
  have hbdb : bd ≠ b := by omega
  have hm4 := hm3.trans' m34
  clear hw4 hp3 hr3 m34 hp3lt hr3lt
  have hll := hp4.len
  have hp4lt := hp4.lt
  have hr4lt := hr4.lt
  have c0 : ∀ {u : World}, u.heap[bd]? = some (.cells #[.int .i64 dk, .int .i64 di, .int .i64 dn, .string ds] 29 (0, 0)) → u.cell? ⟨bd, 0, none⟩ = some (.int .i64 dk) := fun h => by rw [cell_get h]; rfl
  have c1 : ∀ {u : World}, u.heap[bd]? = some (.cells #[.int .i64 dk, .int .i64 di, .int .i64 dn, .string ds] 29 (0, 0)) → u.cell? ⟨bd, 1, none⟩ = some (.int .i64 di) := fun h => by rw [cell_get h]; rfl
  have c2 : ∀ {u : World}, u.heap[bd]? = some (.cells #[.int .i64 dk, .int .i64 di, .int .i64 dn, .string ds] 29 (0, 0)) → u.cell? ⟨bd, 2, none⟩ = some (.int .i64 dn) := fun h => by rw [cell_get h]; rfl
  have c3 : ∀ {u : World}, u.heap[bd]? = some (.cells #[.int .i64 dk, .int .i64 di, .int .i64 dn, .string ds] 29 (0, 0)) → u.cell? ⟨bd, 3, none⟩ = some (.string ds) := fun h => by rw [cell_get h]; rfl
  refine ⟨fun ok pp w' => ok = true ∧ Bth w b pp w' ∧ w'.heap[bd]? = some (.cells #[.int .i64 dk, .int .i64 di, .int .i64 dn, .string ds] 29 (0, 0)), ?_, dk, c0 hx, ?_⟩
  · rintro ok pp - w5 ⟨rfl, ⟨p5, l5, F5, rfl, hp5, hr5, hF5, hbF5, hm5⟩, hx5⟩
    have hd5 : w5.drew.heap[bd]? = some _ := hx5
    have hp5' := hp5.keep (w' := w5.drew) fun _ _ => rfl
    have hr5' := hr5.keep (w' := w5.drew) rfl
    have hll5 := hp5.len
    have kp : ∀ {u : World}, Mod [] w5.drew u → keepB [bd] w5.drew u := fun h x hx => by
      simp only [List.mem_singleton] at hx
      subst hx
      exact h.keep _ (lt_of_get hd5) (by simp)
    refine ⟨[bd], ?_⟩
    rw [spl_true]
    refine ⟨by simp, di, c1 hd5, by simp, di, c1 hd5, ?_⟩
    have tail : ∀ u : World, Mod [] w5.drew u → CallsR Try.prog F_pipes_Pipes_Encode #[.pointer (some ⟨p5, 0, none⟩)] u fun v42 w43 => ∃ rA44 rL45 rC46, v42 = .slice rA44 rL45 rC46 ∧ keepB [bd] w5.drew w43 ∧ CallsR Try.prog F_janusref19_Pipes_Encode #[.pointer (some ⟨b, 0, none⟩)] w43 fun v47 w48 => ∃ rA49 rL50 rC51, v47 = .slice rA49 rL50 rC51 ∧ keepB [bd] w5.drew w48 ∧ CallsR Try.prog F_janusref01_Words #[.slice rA44 rL45 rC46, .slice rA49 rL50 rC51] w48 fun v53 w53 => ∃ r54 : Bool, v53 = .bool r54 ∧
        spl r54 (keepB [bd] w5.drew w53 ∧ ∃ m19, m19 < l - k ∧ ∃ k' : Nat, IntKind.i64.wrap ((k : Int) + 1) = k' ∧ k' ≤ l ∧ k' ≤ 200 ∧ m19 = l - k' ∧ Bth w b (some ⟨p5, 0, none⟩) w53) (keepB [bd] w5.drew w53 ∧ Value.bool false = .bool true ∧ Mod [] w w53) := fun u hu => by
      have hpu := hp5'.keep (w' := u) fun x hx => hu.keep x (hp5'.lt x hx) (by simp)
      have hru := hr5'.keep (w' := u) (hu.keep b hr5'.lt (by simp))
      refine pipes_encode hpu fun A L C G w6 hs6 hG6 hm6 => ⟨_, _, _, rfl, kp (hu.trans' hm6), ?_⟩
      have hr6 := hru.keep (w' := w6) (hm6.keep b hru.lt (by simp))
      have hGl := hs6.lt
      refine pipesr_encode hr6 fun A' L' C' G' w7 hs7 hG7 hm7 => ⟨_, _, _, rfl, kp ((hu.trans' hm6).trans' hm7), ?_⟩
      have hsl := hs6.u64
      have hen := encL_length l5 hp5.short
      refine words_rd (hs6.rd.mod0 hm7) hs7.rd (by omega) fun w8 hm8 => ⟨_, rfl, spl_t (by simp) ?_⟩
      have hm58 := ((hu.trans' hm6).trans' hm7).trans' hm8
      refine ⟨kp hm58, l - (k + 1), by omega, k + 1, by rw [w64 (by omega) (by omega)]; omega, by omega, by omega, rfl, p5, l5, F5, rfl, hp5'.keep fun x hx => hm58.keep x (hp5'.lt x hx) (by simp), hr5'.keep (hm58.keep b hr5'.lt (by simp)), hF5, hbF5, hm5.drew.trans' hm58⟩
    refine pipes_len hp5' di (fun hno => ⟨_, rfl, kp (Mod.refl _ _), ?_⟩) (fun q bs hq hb _ => ⟨_, rfl, kp (Mod.refl _ _), ?_⟩)
    · refine pipesr_len hr5' di (fun _ => ⟨_, rfl, kp (Mod.refl _ _), fun h => absurd rfl h, fun _ => tail _ (Mod.refl _ _)⟩) (fun q bs hq hb => ?_)
      subst hq
      exact absurd hno (NoP.absurd hb hll5)
    · subst hq
      refine pipesr_len hr5' _ (fun hno => absurd hno (NoP.absurd hb hll5)) (fun q' bs' hq' hb' => ⟨_, rfl, kp (Mod.refl _ _), fun h => absurd ?_ h, fun _ => tail _ (Mod.refl _ _)⟩)
      obtain rfl : q = q' := by omega
      rw [hb] at hb'
      cases hb'
      rfl
  · have hb4 : Bth w b (some ⟨p3, 0, none⟩) w4 := ⟨p3, l3, F3, rfl, hp4, hr4, hF3, hbF3, hm4⟩
    have hxd : w4.drew.heap[bd]? = some _ := hx
    have hp4d := hp4.keep (w' := w4.drew) fun _ _ => rfl
    have hr4d := hr4.keep (w' := w4.drew) rfl
    have hb4d : Bth w b (some ⟨p3, 0, none⟩) w4.drew := ⟨p3, l3, F3, rfl, hp4d, hr4d, hF3, hbF3, hm4.drew⟩
    -- both turned: the program's part first, then the reference's
    have both : ∀ {u u1 u2 : World} {l' : PS} {F' : List Nat}, Mod [] w u → u.heap[bd]? = some (.cells #[.int .i64 dk, .int .i64 di, .int .i64 dn, .string ds] 29 (0, 0)) → b < u.heap.size → PipesP u1 p3 l' F' → Mod F3 u u1 → (∀ x ∈ F', x ∈ F3 ∨ u.heap.size ≤ x) → PipesR u2 b l' → Mod [b] u1 u2 →
        Bth w b (some ⟨p3, 0, none⟩) u2 ∧ u2.heap[bd]? = some (.cells #[.int .i64 dk, .int .i64 di, .int .i64 dn, .string ds] 29 (0, 0)) := fun {u u1 u2 l' F'} hmu hxu hbu hp1 hm1 hF' hr2 hm2 => by
      have hbF' : b ∉ F' := fun h => by
        rcases hF' b h with h | h
        · exact hbF3 h
        · omega
      have hm1' : Mod [] w u1 := hF3.mod hmu hm1
      refine ⟨⟨p3, l', F', rfl, hp1.keep fun x hx => hm2.keep x (hp1.lt x hx) (by simp; rintro rfl; exact hbF' hx), hr2, fun x hx => ?_, hbF', hm1'.trans hm2 fun x hx hlt => by simp only [List.mem_singleton] at hx; subst hx; omega⟩, hm2.get (hm1.get hxu hbdF) (by simpa using hbdb)⟩
      rcases hF' x hx with h | h
      · exact hF3 x h
      · have := hmu.size; omega
    have kp : ∀ {u : World}, Mod F3 w4.drew u → keepB [bd] w4.drew u := fun h x hx => by
      simp only [List.mem_singleton] at hx
      subst hx
      exact h.keep _ (lt_of_get hxd) hbdF
    have kp2 : ∀ {u u' : World}, Mod F3 w4.drew u → Mod [b] u u' → keepB [bd] w4.drew u' := fun h h' x hx => by
      simp only [List.mem_singleton] at hx
      subst hx
      rw [h'.keep _ (Nat.lt_of_lt_of_le (lt_of_get hxd) h.size) (by simpa using hbdb)]
      exact h.keep _ (lt_of_get hxd) hbdF
    refine ⟨fun _ => ?_, fun _ => ⟨fun _ => ?_, fun _ => ⟨fun _ => ?_, fun _ => ⟨fun _ => ?_, fun _ => ?_⟩⟩⟩⟩
    · -- Make
      refine pipes_make hp4 (fun hfull => ⟨_, _, rfl, ?_⟩) (fun q w5 F5 hq hqn hbef hp5 hm5 ho5 => ⟨_, _, rfl, ?_⟩)
      · exact pipesr_make hr4 (fun _ => ⟨_, _, rfl, fun _ => ⟨rfl, hb4, hx⟩, fun h => absurd rfl h⟩) (fun q w6 hq hqn _ _ _ => absurd hqn (hfull q hq))
      · have hr5 := hr4.keep (w' := w5) (hm5.keep b hr4lt hbF3)
        refine pipesr_make hr5 (fun hfull => absurd hqn (hfull q hq)) (fun q' w6 hq' hqn' hbef' hr6 hm6 => ⟨_, _, rfl, ?_⟩)
        obtain rfl := first_eq hqn hbef hqn' hbef'
        obtain ⟨r1, r2⟩ := both hm4 hx hr4lt hp5 hm5 ho5 hr6 hm6
        exact ⟨fun _ => ⟨rfl, r1, r2⟩, fun h => absurd rfl h⟩
    · -- Put
      refine ⟨[bd], by simp, di, c1 hxd, by simp, ds, c3 hxd, by simp, di, c1 hxd, by simp, ds, c3 hxd, ?_⟩
      refine pipes_put hp4d di ds (fun hno => ⟨_, rfl, kp (Mod.refl _ _), ?_⟩) (fun q bs w5 hq hb _ hp5 hm5 => ⟨_, rfl, kp hm5, ?_⟩)
      · refine pipesr_put hr4d di ds hws (fun _ => ⟨_, rfl, kp (Mod.refl _ _), by simp, hb4d, hxd⟩) (fun q bs w6 hq hb _ _ => ?_)
        subst hq
        exact absurd hno (NoP.absurd hb hll)
      · subst hq
        have hr5 := hr4d.keep (w' := w5) (hm5.keep b hr4lt hbF3)
        refine pipesr_put hr5 _ ds hws (fun hno => absurd hno (NoP.absurd hb hll)) (fun q' bs' w6 hq' hb' hr6 hm6 => ⟨_, rfl, kp2 hm5 hm6, ?_⟩)
        obtain rfl : q = q' := by omega
        rw [hb] at hb'
        cases hb'
        obtain ⟨r1, r2⟩ := both hm4.drew hxd hr4lt hp5 hm5 (fun x hx => .inl hx) hr6 hm6
        exact ⟨by simp, r1, r2⟩
    · -- Take
      refine ⟨[bd], by simp, di, c1 hxd, by simp, dn, c2 hxd, by simp, di, c1 hxd, by simp, dn, c2 hxd, ?_⟩
      refine pipes_take hp4d di dn (fun hno => ⟨_, rfl, kp (Mod.refl _ _), ?_⟩) (fun q bs w5 hq hb _ hp5 hm5 => ⟨_, rfl, kp hm5, ?_⟩)
      · refine pipesr_take hr4d di dn (fun _ => ⟨_, rfl, kp (Mod.refl _ _), by simp, hb4d, hxd⟩) (fun q bs w6 hq hb _ _ => ?_)
        subst hq
        exact absurd hno (NoP.absurd hb hll)
      · subst hq
        have hr5 := hr4d.keep (w' := w5) (hm5.keep b hr4lt hbF3)
        refine pipesr_take hr5 _ dn (fun hno => absurd hno (NoP.absurd hb hll)) (fun q' bs' w6 hq' hb' hr6 hm6 => ⟨_, rfl, kp2 hm5 hm6, ?_⟩)
        obtain rfl : q = q' := by omega
        rw [hb] at hb'
        cases hb'
        obtain ⟨r1, r2⟩ := both hm4.drew hxd hr4lt hp5 hm5 (fun x hx => .inl hx) hr6 hm6
        exact ⟨by simp, r1, r2⟩
    · -- Drop
      refine ⟨[bd], by simp, di, c1 hxd, by simp, di, c1 hxd, ?_⟩
      refine pipes_drop hp4d di (fun hno => ⟨_, rfl, kp (Mod.refl _ _), ?_⟩) (fun q bs w5 F5 hq hb hp5 hF5 hm5 => ⟨_, rfl, kp hm5, ?_⟩)
      · refine pipesr_drop hr4d di (fun _ => ⟨_, rfl, kp (Mod.refl _ _), by simp, hb4d, hxd⟩) (fun q bs w6 hq hb _ _ => ?_)
        subst hq
        exact absurd hno (NoP.absurd hb hll)
      · subst hq
        have hr5 := hr4d.keep (w' := w5) (hm5.keep b hr4lt hbF3)
        refine pipesr_drop hr5 _ (fun hno => absurd hno (NoP.absurd hb hll)) (fun q' bs' w6 hq' hb' hr6 hm6 => ⟨_, rfl, kp2 hm5 hm6, ?_⟩)
        obtain rfl : q = q' := by omega
        obtain ⟨r1, r2⟩ := both hm4.drew hxd hr4lt hp5 hm5 (fun x hx => .inl (hF5 x hx)) hr6 hm6
        exact ⟨by simp, r1, r2⟩
    · -- encoded and decoded
      refine pipes_encode hp4 fun A L C G w5 hs5 hG5 hm5 => ⟨_, _, _, rfl, ?_⟩
      refine pipes_decode hs5.rd hs5.le (encL_nonneg l3) (fun hno w6 _ => (hno l3 hll hp4.short rfl).elim) (fun p6 full F6 w6 hf he hp6 hF6 hm6 => ⟨_, _, rfl, ?_⟩)
      have hfl : full = l3 := encL_inj (by omega) he
      subst hfl
      have hm46 : Mod [] w4 w6 := hm5.trans' hm6
      rw [Option.isNone_some, spl_false]
      have hs46 := hm5.size
      refine ⟨fun h => absurd rfl h, fun _ => ⟨rfl, ⟨p6, full, F6, rfl, hp6, hr4.keep (hm46.keep b hr4lt (by simp)), fun x hx => ?_, fun h => ?_, hm4.trans' hm46⟩, hm46.get hx (by simp)⟩⟩
      · have := hF6 x hx; have := hm4.size; omega
      · have := hF6 b h; omega

end Go.Proofs
