/-
  Layer 3: the walk of 'BlocksPlays'.
-/
import Derived.Test.YtihonlejlognhaaC03e
set_option linter.unusedSimpArgs false
namespace Go.Proofs
open Go Go.Den

/-- The two disks hold the same blocks, and counted the same. -/
def Both3 (w : World) (p p2 : Nat) (base : Nat) (top : Nat) : Prop :=
  ∃ (bs : List (List Int)) (g u : Int) (F F2 : List Nat), DiskP w p bs g u F ∧ DiskR w p2 bs g u F2 ∧ (∀ b ∈ F, b ∉ F2) ∧ (∀ b ∈ F, base ≤ b) ∧ (∀ b ∈ F2, base ≤ b) ∧ 0 ≤ g ∧ g ≤ top ∧ 0 ≤ u ∧ u ≤ top

theorem Both3.fresh {w w' : World} {p p2 base top : Nat} (h : Both3 w p p2 base top) (hm : Mod [] w w') : Both3 w' p p2 base top := by
  obtain ⟨bs, g, u, F, F2, h1, h2, h3⟩ := h
  have l1 := h1.lt
  have l2 := h2.lt
  exact ⟨bs, g, u, F, F2, h1.keep (fun b hb => hm.keep b (l1 b hb) (by simp)), h2.keep (fun b hb => hm.keep b (l2 b hb) (by simp)) hm.size, h3⟩

theorem plays_run (w : World) (n : Int) (_ : (Lit.int .i64 n).wf = true) (a : Option Addr) (l c : Nat) (hl : SlIn w 4 Q_januslaw03_Deed a l c) : CallsR Try.prog F_januslaw03_BlocksPlays #[.int .i64 n, .slice a l c] w fun r w' => r = .bool true ∧ Mod [] w w' := by
  apply R_januslaw03_BlocksPlays_ok
  simp only [R_januslaw03_BlocksPlays]
  have fin : ∀ (w' : World), Mod [] w w' → CallsR Try.prog F_januslaw03_awake #[] w' fun v w'' => ∃ r : Bool, v = .bool r ∧ Value.bool r = .bool true ∧ Mod [] w w'' := fun w' h => awake_run _ fun w2 h2 => ⟨true, rfl, rfl, h.trans' h2⟩
  by_cases hn : n < 1 ∨ 1024 < n
  · refine disk_new n w (fun _ => ⟨_, rfl, ref_new n w (fun _ => ⟨_, rfl, ?_⟩) (fun k p F w1 hk h1 h2 => by omega)⟩) (fun k p F w1 hk h1 h2 => by omega)
    simp only [Option.isNone_none, beq_self_eq_true, Bool.not_true, spl_false]
    refine ⟨fun w' => Mod [] w w', fun _ w' hm => fin w' hm, fun m i w' => Mod [] w w', ⟨0, Mod.refl _ _⟩, ?_⟩
    intro m i _ w' hm
    exact ⟨fun _ => ⟨fun _ => hm, fun _ => hm⟩, fun _ => hm⟩
  · refine disk_new n w (fun h => absurd h hn) (fun k p F w1 hk hk1 hk2 hd hm1 hF => ⟨_, rfl, ref_new n w1 (fun h => absurd h hn) (fun k' p2 F2 w2 hk' _ _ hd2 hm2 hF2 => ⟨_, rfl, ?_⟩)⟩)
    obtain rfl : k' = k := by omega
    simp only [Option.isNone_some, beq_self_eq_true, Bool.not_true, Bool.not_false, spl_false, spl_true, spl_decide, spl_bne, newK_eq, drK_eq, nilK_some, addr_add]
    have hltF := hd.lt
    refine ⟨fun w' => Mod [] w w', fun _ w' hm => fin w' hm, fun m i w' => ∃ k : Nat, i = k ∧ k ≤ l ∧ m = l - k ∧ k ≤ 200 ∧ Both3 w' p p2 w.heap.size k ∧ Mod [] w w', ⟨l, 0, rfl, by omega, rfl, by omega, ?_, hm1.trans' hm2⟩, ?_⟩
    · exact ⟨_, 0, 0, F, F2, hd.keep (fun b hb => hm2.keep b (hltF b hb) (by simp)), hd2, fun b hb hb' => absurd (hF2 b hb') (by have := hltF b hb; omega), hF, fun b hb => Nat.le_trans hm1.size (hF2 b hb), by omega, by omega, by omega, by omega⟩
    rintro m i - w3 ⟨k, rfl, hk, rfl, h200, hb3, hm3⟩
    refine ⟨fun hlt => ⟨fun hlt2 => ?_, fun _ => hm3⟩, fun _ => hm3⟩
    have hkl : k < l := by omega
    have hk200 : k < 200 := by omega
    clear hd hd2 hltF
    have hl3 := hl.mod hm3
    obtain ⟨ad, cs, rfl, hadlt, ⟨dp, db, dn, dv, rfl, hwb, hwn, hwv⟩, -, hcell⟩ := hl3.at hkl
    have e0 := hcell 0 (by omega)
    have e1 := hcell 1 (by omega)
    have e2 := hcell 2 (by omega)
    have e3 := hcell 3 (by omega)
    refine ⟨⟨by omega, by omega⟩, dp, db, dn, dv, ⟨e0, e1, e2, e3⟩, ?_⟩
    refine stK_of (alloc_new _ _) (by simp) ?_
    generalize hw4 : (w3.alloc _).upd _ _ = w4
    have hx : w4.heap[w3.heap.size]? = some (.cells #[.bool dp, .int .i64 db, .int .i64 dn, .int .u64 dv] 24 (0, 0)) := by rw [← hw4, upd_same (alloc_new _ _)]; simp
    have m34 : Mod [] w3 w4 := by rw [← hw4]; exact ((Mod.refl [] w3).alloc _).upd (.inr (Nat.le_refl _)) _
    have hm4 := hm3.trans' m34
    have hb4 := hb3.fresh m34
    have hbx : ∀ {w' : World}, Mod [] w4 w' → w'.heap[w3.heap.size]? = some (.cells #[.bool dp, .int .i64 db, .int .i64 dn, .int .u64 dv] 24 (0, 0)) := fun h => h.get hx (by simp)
    have hfr : ∀ (F : List Nat), (∀ b ∈ F, b < w3.heap.size) → w3.heap.size ∉ F := fun F hF h => absurd (hF _ h) (by omega)
    obtain ⟨bs, g, u, F1, F2', d1', d2', hdis, hF1, hF2', hg0, hg, hu0, hu⟩ := hb3
    have l1 := d1'.lt
    have l2 := d2'.lt
    have d1 := d1'.keep (w' := w4) fun b hb => m34.keep b (l1 b hb) (by simp)
    have d2 := d2'.keep (w' := w4) (fun b hb => m34.keep b (l2 b hb) (by simp)) m34.size
    clear d1' d2'
    refine ⟨fun w' => Both3 w' p p2 w.heap.size (k + 1) ∧ Mod [] w w', ?_, dp, by rw [cell_get hx]; rfl, ?_⟩
    · rintro - w5 ⟨⟨bs, g, u, F, F2, d1, d2, hdis, hF, hF2, hg0, hg, hu0, hu⟩, hm5⟩
      have d2' := d2
      refine disk_moves d1 ⟨g, u, rfl, ?_⟩
      obtain ⟨T, ar, cr, R, Fs, hs, hp, -⟩ := d2'
      refine ⟨[p2], by simp, g, by rw [World.cell?_drew, World.cell?_drew, cell_get hp]; rfl, fun h => absurd rfl h, fun _ => ⟨by simp, u, by rw [World.cell?_drew, World.cell?_drew, cell_get hp]; rfl, fun h => absurd rfl h, fun _ => ?_⟩⟩
      refine ⟨by simp, ar, bs.length, cr, by rw [World.cell?_drew, World.cell?_drew, cell_get hp]; rfl, ?_⟩
      refine disk_len (d1.keep (w' := w5.drew.drew) fun _ _ => rfl) ⟨_, rfl, fun _ _ => rfl, fun h => absurd rfl h, fun _ => ⟨l - (k + 1), by omega, k + 1, by rw [w64 (by omega) (by omega)]; omega, by omega, rfl, by omega, ?_, hm5.drew.drew⟩⟩
      exact ⟨bs, g, u, F, F2, d1.keep fun _ _ => rfl, d2.keep (fun _ _ => rfl) (Nat.le_refl _), hdis, hF, hF2, hg0, hg, hu0, hu⟩
    · refine spl_of (fun _ => ?_) (fun _ => ?_)
      · -- a block is put
        have md := (Mod.refl [] w4).drew
        have kp : ∀ {S : List Nat} {w' : World}, Mod S w4 w' → w3.heap.size ∉ S → keepB [w3.heap.size] w4.drew w' := fun h hn b hb => by
          simp only [List.mem_singleton] at hb
          subst hb
          exact h.keep _ (lt_of_get hx) hn
        have rd : ∀ {S : List Nat} {w' : World}, Mod S w4 w' → w3.heap.size ∉ S → w'.heap[w3.heap.size]? = some (.cells #[.bool dp, .int .i64 db, .int .i64 dn, .int .u64 dv] 24 (0, 0)) := fun h hn => h.get hx hn
        have n1 := hfr F1 l1
        have n2 := hfr F2' l2
        refine ⟨[w3.heap.size], by simp, db, by rw [World.cell?_drew, cell_get hx]; rfl, by simp, dn, by rw [World.cell?_drew, cell_get hx]; rfl, by simp, dv, by rw [World.cell?_drew, cell_get hx]; rfl,
          by simp, db, by rw [World.cell?_drew, cell_get hx]; rfl, by simp, dn, by rw [World.cell?_drew, cell_get hx]; rfl, by simp, dv, by rw [World.cell?_drew, cell_get hx]; rfl, ?_⟩
        refine block_run dn dv _ fun w5 a5 c5 G5 hs5 hG5 hm5 => ⟨_, _, _, rfl, kp (md.trans' hm5) (by simp), ?_⟩
        have m5 := md.trans' hm5
        have d15 := d1.keep (w' := w5) fun b hb => m5.keep b (Nat.lt_of_lt_of_le (l1 b hb) m34.size) (by simp)
        have d25 := d2.keep (w' := w5) (fun b hb => m5.keep b (Nat.lt_of_lt_of_le (l2 b hb) m34.size) (by simp)) m5.size
        have hg5 : ∀ b ∈ G5, w4.heap.size ≤ b := hG5
        refine disk_put d15 (by omega) db hs5 (fun b hb hF' => absurd (hg5 b hb) (by have := l1 b hF'; have := m34.size; omega)) (fun hbad => ?_) (fun kk w6 hkk hkk2 h32 d16 hm6 => ?_)
        · refine ⟨_, rfl, kp m5 (by simp), block_run dn dv _ fun w7 a7 c7 G7 hs7 hG7 hm7 => ⟨_, _, _, rfl, kp (m5.trans' hm7) (by simp), ?_⟩⟩
          have m7 := m5.trans' hm7
          have d17 := d1.keep (w' := w7) fun b hb => m7.keep b (Nat.lt_of_lt_of_le (l1 b hb) m34.size) (by simp)
          have d27 := d2.keep (w' := w7) (fun b hb => m7.keep b (Nat.lt_of_lt_of_le (l2 b hb) m34.size) (by simp)) m7.size
          refine ref_put d27 (by omega) db hs7 (fun b hb hF' => absurd (hG7 b hb) (by have := l2 b hF'; have := m34.size; have := m5.size; omega)) (fun _ => ?_) (fun kk w8 F3 hkk hkk2 h32 => by omega)
          refine ⟨_, rfl, kp m7 (by simp), fun h => absurd rfl h, fun _ => ⟨⟨bs, g, u, F1, F2', d17, d27, hdis, hF1, hF2', hg0, by omega, hu0, by omega⟩, hm4.trans' m7⟩⟩
        · have m6 : Mod F1 w4 w6 := (m5.mono (by simp)).trans' (hm6.mono fun b hb => hb) 
          refine ⟨_, rfl, kp m6 n1, block_run dn dv _ fun w7 a7 c7 G7 hs7 hG7 hm7 => ⟨_, _, _, rfl, kp (m6.trans' (hm7.mono (by simp))) n1, ?_⟩⟩
          have m7 := m6.trans' (hm7.mono (by simp))
          have l15 := d16.lt
          have d17 := d16.keep (w' := w7) fun b hb => hm7.keep b (l15 b hb) (by simp)
          have d27 := d2.keep (w' := w7) (fun b hb => m7.keep b (Nat.lt_of_lt_of_le (l2 b hb) m34.size) (fun hb' => hdis b hb' hb)) m7.size
          refine ref_put d27 (by omega) db hs7 (fun b hb hF' => absurd (hG7 b hb) (by have := l2 b hF'; have := m34.size; have := m6.size; omega)) (fun _ => by omega) (fun kk' w8 F3 hkk' hkk2' h32' d28 hm8 hown => ?_)
          obtain rfl : kk' = kk := by omega
          have m8 : Mod (F1 ++ F2') w4 w8 := (m7.mono (by simp +contextual)).trans' (hm8.mono (by simp +contextual))
          have l17 := d17.lt
          refine ⟨_, rfl, kp m8 (by simp [n1, n2]), fun h => absurd rfl h, fun _ => ⟨⟨_, g, u + 1, F1, F3, d17.keep fun b hb => hm8.keep b (l17 b hb) (hdis b hb), d28, ?_, hF1, ?_, hg0, by omega, by omega, by omega⟩, ?_⟩⟩
          · intro b hb hb'
            rcases hown b hb' with h | h
            · exact hdis b hb h
            · have := l17 b hb; omega
          · intro b hb
            rcases hown b hb with h | h
            · exact hF2' b h
            · have := (hm4.trans m7 (fun b hb hlt => absurd (hF1 b hb) (by omega)) : Mod [] w w7).size; omega
          · exact hm4.trans m8 fun b hb hlt => by
              rcases List.mem_append.1 hb with h | h
              · exact absurd (hF1 b h) (by omega)
              · exact absurd (hF2' b h) (by omega)
      · -- a block is got
        have l14 := d1.lt
        have l24 := d2.lt
        have n1 := hfr F1 l1
        have n2 := hfr F2' l2
        refine ⟨db, by rw [cell_get hx]; rfl, ?_⟩
        refine disk_get d1 (by omega) db (fun hbad => ?_) (fun kk b w5 a5 c5 G5 hkk hb hs5 hG5 d15 hm5 => ?_)
        · refine ⟨_, _, _, _, rfl, db, by rw [cell_get hx]; rfl, ref_get d2 (by omega) db (fun _ => ?_) (fun kk b w5 a5 c5 G5 hkk hb => ?_)⟩
          · refine ⟨_, _, _, _, rfl, words_eq (xs := []) (ys := []) (SlB.nil w4 1) (SlB.nil w4 1) (by omega) fun w6 hm6 => ⟨_, rfl, ?_⟩⟩
            simp only [decide_true, spl_true]
            exact ⟨fun h => absurd rfl h, fun _ => ⟨⟨bs, g, u, F1, F2', d1.keep (fun b hb => hm6.keep b (l14 b hb) (by simp)), d2.keep (fun b hb => hm6.keep b (l24 b hb) (by simp)) hm6.size, hdis, hF1, hF2', hg0, by omega, hu0, by omega⟩, hm4.trans' hm6⟩⟩
          · have := (List.getElem?_eq_some_iff.1 hb).1
            omega
        · refine ⟨_, _, _, _, rfl, db, by rw [cell_get (hm5.get hx n1)]; rfl, ?_⟩
          have hblt := (List.getElem?_eq_some_iff.1 hb).1
          have d25 := d2.keep (w' := w5) (fun b hb => hm5.keep b (l24 b hb) (fun hb' => hdis b hb' hb)) hm5.size
          refine ref_get d25 (by omega) db (fun hbad => by omega) (fun kk' b' w6 a6 c6 G6 hkk' hb' hs6 hG6 d26 hm6 => ?_)
          obtain rfl : kk' = kk := by omega
          obtain rfl : b' = b := Option.some.inj (hb'.symm.trans hb)
          refine ⟨_, _, _, _, rfl, words_eq (hs5.mod hm6 fun x hx' hx2 => absurd (hG5 x hx') (by have := l24 x hx2; omega)) hs6 (by omega) fun w7 hm7 => ⟨_, rfl, ?_⟩⟩
          simp only [decide_true, spl_true]
          have l15 := d15.lt
          have l26 := d26.lt
          refine ⟨fun h => absurd rfl h, fun _ => ⟨⟨bs, g + 1, u, F1, F2', d15.keep (fun b hb => (hm7.keep b (Nat.lt_of_lt_of_le (l15 b hb) hm6.size) (by simp)).trans (hm6.keep b (l15 b hb) (hdis b hb))), d26.keep (fun b hb => hm7.keep b (l26 b hb) (by simp)) hm7.size, hdis, hF1, hF2', by omega, by omega, hu0, by omega⟩, ?_⟩⟩
          have m6 : Mod (F1 ++ F2') w4 w6 := (hm5.mono (by simp +contextual)).trans' (hm6.mono (by simp +contextual))
          refine (hm4.trans m6 fun b hb hlt => ?_).trans' hm7
          rcases List.mem_append.1 hb with h | h
          · exact absurd (hF1 b h) (by omega)
          · exact absurd (hF2' b h) (by omega)

end Go.Proofs
