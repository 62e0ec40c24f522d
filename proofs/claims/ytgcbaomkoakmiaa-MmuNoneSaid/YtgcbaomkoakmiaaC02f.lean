/-
  Layer 2: the walks of 'MmuPlays' and of 'MmuNone'.
-/
import Derived.Test.YtgcbaomkoakmiaaC02e
set_option linter.unusedSimpArgs false
namespace Go.Proofs
open Go Go.Den

def dcell (d0 d1 d2 : Int) (d3 : Bool) (d4 : Int) (d5 : Bool) : Obj := .cells [.int .i64 d0, .int .i64 d1, .int .i64 d2, .bool d3, .int .u64 d4, .bool d5].toArray 38 (0, 0)

theorem plays_run (w : World) (a : Option Addr) (l c : Nat) (hl : SlIn w 6 Q_januslaw02_Deed a l c) :
    CallsR Try.prog F_januslaw02_MmuPlays #[.slice a l c] w fun r w' => r = .bool true ∧ Mod [] w w' := by
  apply R_januslaw02_MmuPlays_ok
  simp only [R_januslaw02_MmuPlays]
  have fin : ∀ (w' : World), Mod [] w w' → CallsR Try.prog F_januslaw02_awake #[] w' fun v w'' => ∃ r : Bool, v = .bool r ∧ Value.bool r = .bool true ∧ Mod [] w w'' := fun w' h => awake_run _ fun w2 h2 => ⟨true, rfl, rfl, h.trans' h2⟩
  refine mmu_new w fun p F w1 hp hm1 hF => ⟨_, rfl, ?_⟩
  have s1 : Sep w w1 [tblPart p emp F] := (Sep.nil (Mod.refl [] w)).push _ hm1 hp hF
  refine tlb_new w1 fun b G w2 hb hm2 hG => ⟨_, rfl, ?_⟩
  have s2 : Sep w w2 [tlbPart b [] G, tblPart p emp F] := s1.push _ hm2 hb hG
  simp only [Option.isNone_some, spl_false, spl_decide, spl_beq, spl_bne, newK_eq, drK_eq]
  have s3 := s2.alloc (.cells #[.int .i64 0, .bool false, .int .i64 0, .bool false, .int .i64 0, .bool false, .int .i64 0, .bool false, .bool false, .bool false, .bool false, .bool false] 50)
  generalize w2.alloc _ = w3 at s3 ⊢
  generalize w2.heap.size = rb at s3 ⊢
  have s3 := s3.turn 0 rfl (tblrPart rb emp) ⟨_, 50, s3.nth 0 rfl, ⟨fun k x h => (by cases h), by decide, fun i hi => ⟨(0, false), by
    have : i = 0 ∨ i = 1 ∨ i = 2 ∨ i = 3 := by omega
    rcases this with rfl | rfl | rfl | rfl <;> exact ⟨rfl, rfl, rfl, fun y h => (by cases h)⟩⟩⟩⟩ (Mod.refl _ _)
  have s4 := s3.alloc (.cells #[.slice none 0 0] 54)
  generalize w3.alloc _ = w4 at s4 ⊢
  generalize w3.heap.size = rl at s4 ⊢
  have s4 : Sep w w4 [tlbrPart rl [] [rl], tblrPart rb emp, tlbPart b [] G, tblPart p emp F] := s4.turn 0 rfl (tlbrPart rl [] [rl]) ⟨none, 0, 0, [], 54, s4.nth 0 rfl, SlB.nil _ 3, by simp, rfl⟩ (Mod.refl _ _)
  refine ⟨fun w' => Mod [] w w', fun _ w' hm => fin w' hm, ?_⟩
  refine ⟨fun n i w' => ∃ (k : Nat) (t : Tb) (L : Tl) (G H : List Nat), i = k ∧ k ≤ l ∧ k ≤ 300 ∧ n = l - k ∧ Sep w w' [tlbrPart rl L H, tblrPart rb t, tlbPart b L G, tblPart p t F], ⟨l, 0, emp, [], G, [rl], rfl, by omega, by omega, rfl, s4⟩, ?_⟩
  clear s1 s2 s3 s4
  rintro n i - w3 ⟨k, t, L, G3, H3, rfl, hk, h300, rfl, s3⟩
  refine ⟨fun hlt => ⟨fun hlt2 => ?_, fun _ => s3.mod⟩, fun _ => s3.mod⟩
  have hkl : k < l := by omega
  obtain ⟨ad, cs, rfl, hadlt, ⟨d0, d1, d2, d3, d4, d5, rfl, hw0, hw1, hw2, hw4⟩, -, hcell⟩ := (hl.mod s3.mod).at hkl
  have ha0 := (u64_bounds hw4).1
  simp only [nilK_some, Int.toNat_natCast]
  refine ⟨⟨by omega, by omega⟩, d0, d1, d2, d3, d4, d5, ⟨by have := hcell 0 (by omega); rwa [add_zero] at this, hcell 1 (by omega), hcell 2 (by omega), hcell 3 (by omega), hcell 4 (by omega), hcell 5 (by omega)⟩, ?_⟩
  refine s3.stK rfl fun w4 s4 _ => ?_
  generalize w3.heap.size = bd at s4 ⊢
  clear s3 hcell
  have s4 : Sep w w4 [blk bd (dcell d0 d1 d2 d3 d4 d5), tlbrPart rl L H3, tblrPart rb t, tlbPart b L G3, tblPart p t F] := s4
  have c0 : ∀ {u : World}, u.heap[bd]? = some (dcell d0 d1 d2 d3 d4 d5) → u.cell? ⟨bd, 0, none⟩ = some (.int .i64 d0) := fun h => by rw [cell_get h]; rfl
  have c1 : ∀ {u : World}, u.heap[bd]? = some (dcell d0 d1 d2 d3 d4 d5) → u.cell? ⟨bd, 1, none⟩ = some (.int .i64 d1) := fun h => by rw [cell_get h]; rfl
  have c2 : ∀ {u : World}, u.heap[bd]? = some (dcell d0 d1 d2 d3 d4 d5) → u.cell? ⟨bd, 2, none⟩ = some (.int .i64 d2) ∧ u.cell? ⟨bd, 3, none⟩ = some (.bool d3) := fun h => ⟨by rw [cell_get h]; rfl, by rw [cell_get h]; rfl⟩
  have c4 : ∀ {u : World}, u.heap[bd]? = some (dcell d0 d1 d2 d3 d4 d5) → u.cell? ⟨bd, 4, none⟩ = some (.int .u64 d4) := fun h => by rw [cell_get h]; rfl
  have c5 : ∀ {u : World}, u.heap[bd]? = some (dcell d0 d1 d2 d3 d4 d5) → u.cell? ⟨bd, 5, none⟩ = some (.bool d5) := fun h => by rw [cell_get h]; rfl
  refine ⟨fun ok w' => ok = true ∧ ∃ (t : Tb) (L : Tl) (G H : List Nat), Sep w w' [blk bd (dcell d0 d1 d2 d3 d4 d5), tlbrPart rl L H, tblrPart rb t, tlbPart b L G, tblPart p t F], ?_, d0, c0 (s4.nth 0 rfl), ?_⟩
  · rintro ok - w5 ⟨rfl, t, L, G5, H5, s5⟩
    have hok := (s5.nth 3 rfl : TlbP w5 b L G5).ok
    have hok2 := hok.2
    refine ⟨d1, c1 (s5.nth 0 rfl), ?_⟩
    refine mmu_at (s5.nth 4 rfl : TblP w5 p t F) d1 fun w6 m6 => ⟨_, _, _, rfl, ?_⟩
    have s6 := s5.mod0 m6
    refine s6.stK rfl fun w7 s7 _ => ?_
    generalize w6.heap.size = b6 at s7 ⊢
    refine ⟨d1, c1 (s7.nth 1 rfl), ?_⟩
    obtain ⟨arr, T, hb7, hA7⟩ := (s7.nth 3 rfl : TblR0 w7 rb t)
    refine tblr_at hb7 hA7 d1 fun w8 m8 => ⟨_, _, _, rfl, ?_⟩
    have s8 := s7.mod0 m8
    refine s8.stK rfl fun w9 s9 _ => ?_
    generalize w8.heap.size = b8 at s9 ⊢
    have h6 : w9.heap[b6]? = some (.cells [.int .i64 (pz (t d1)).1, .bool (pz (t d1)).2].toArray 24 (0, 0)) := s9.nth 1 rfl
    have h8 : w9.heap[b8]? = some (.cells [.int .i64 (pz (t d1)).1, .bool (pz (t d1)).2].toArray 24 (0, 0)) := s9.nth 0 rfl
    have s9 := s9.pop.pop
    rw [spl_true]
    refine ⟨(pz (t d1)).1, (pz (t d1)).2, ⟨by rw [cell_get h6]; rfl, by rw [cell_get h6]; rfl⟩, (pz (t d1)).1, (pz (t d1)).2, ⟨by rw [cell_get h8]; rfl, by rw [cell_get h8]; rfl⟩, ?_⟩
    refine eqAgg_K eqT_api_Page (xs := [.int .i64 (pz (t d1)).1, .bool (pz (t d1)).2]) (ys := [.int .i64 (pz (t d1)).1, .bool (pz (t d1)).2]) (by simp [matchL, matchS]) (by simp [matchL, matchS]) ?_
    refine spl_f (by simp [cellsEq, cellEq]) (spl_f (by simp) ?_)
    refine mmu_frames (s9.nth 4 rfl : TblP w9 p t F) fun A N C G10 w10 hs10 hG10 m10 => ⟨_, _, _, rfl, ?_⟩
    have s10 := s9.push (sl A N C 1 _ G10) m10 hs10 hG10
    obtain ⟨arr, T, hb10, hA10⟩ := (s10.nth 3 rfl : TblR0 w10 rb t)
    refine tblr_frames hb10 hA10 fun A2 N2 C2 G11 w11 hs11 hG11 m11 => ⟨_, _, _, rfl, ?_⟩
    have s11 := s10.mod0 m11
    have hs10' : SlB w11 A N C 1 _ G10 := s11.nth 0 rfl
    have hl1 := hs10'.i64
    have hl2 := tFrames_le t 4
    refine ints_rd hs10'.rd hs11.rd (by omega) fun w12 m12 => ⟨_, rfl, spl_t (by simp) ?_⟩
    have s12 := s11.pop.mod0 m12
    refine tlb_pages (s12.nth 3 rfl : TlbP w12 b L G5) fun A3 N3 C3 G13 w13 hs13 hG13 m13 => ⟨_, _, _, rfl, ?_⟩
    have s13 := s12.push (sl A3 N3 C3 1 _ G13) m13 hs13 hG13
    refine tlbr_pages (s13.nth 2 rfl : TlbR w13 rl L H5) (by omega) fun A4 N4 C4 G14 w14 hs14 hG14 m14 => ⟨_, _, _, rfl, ?_⟩
    have s14 := s13.mod0 m14
    have hs13' : SlB w14 A3 N3 C3 1 _ G13 := s14.nth 0 rfl
    have hl3 := hs13'.i64
    simp only [tkeys, List.length_map] at hl3
    refine ints_rd hs13'.rd hs14.rd (by omega) fun w15 m15 => ⟨_, rfl, spl_t (by simp) ?_⟩
    exact ⟨l - (k + 1), by omega, k + 1, t, L, G5, H5, by rw [w64 (by omega) (by omega)]; omega, by omega, by omega, rfl, (s14.pop.mod0 m15).pop⟩
  · refine ⟨fun _ => ?_, fun _ => ⟨fun _ => ?_, fun _ => ⟨fun _ => ?_, fun _ => ⟨fun _ => ?_, fun _ => ⟨fun _ => ?_, fun _ => ?_⟩⟩⟩⟩⟩
    · -- Map
      have s5 := s4.mod0 ((Mod.refl [] w4).drew)
      refine ⟨[bd], by simp, d1, c1 (s5.nth 0 rfl), by simp, d2, d3, c2 (s5.nth 0 rfl), by simp, d1, c1 (s5.nth 0 rfl), by simp, d2, d3, c2 (s5.nth 0 rfl), ?_⟩
      refine mmu_map (s5.nth 4 rfl : TblP w4.drew p t F) d1 d2 d3 fun w6 h6 m6 => ⟨_, rfl, ?_⟩
      have s6 := s5.turn 4 rfl (tblPart p _ F) h6 m6
      refine ⟨keepB1 (s5.kept s6 0 0 rfl rfl), ?_⟩
      obtain ⟨arr, T, hb6, hA6⟩ := (s6.nth 2 rfl : TblR0 w6 rb t)
      refine tblr_map hb6 hA6 d1 d2 d3 fun arr' w7 hb7 _ hA7 _ m7 => ⟨_, rfl, ?_⟩
      have s7 := s6.turn 2 rfl (tblrPart rb _) ⟨arr', T, hb7, hA7⟩ m7
      exact ⟨keepB1 (s5.kept s7 0 0 rfl rfl), by simp, _, L, G3, H3, s7⟩
    · -- Unmap
      have s5 := s4.mod0 ((Mod.refl [] w4).drew)
      refine ⟨[bd], by simp, d1, c1 (s5.nth 0 rfl), by simp, d1, c1 (s5.nth 0 rfl), ?_⟩
      refine mmu_unmap (s5.nth 4 rfl : TblP w4.drew p t F) d1 fun w6 h6 m6 => ⟨_, rfl, ?_⟩
      have s6 := s5.turn 4 rfl (tblPart p _ F) h6 m6
      refine ⟨keepB1 (s5.kept s6 0 0 rfl rfl), ?_⟩
      obtain ⟨arr, T, hb6, hA6⟩ := (s6.nth 2 rfl : TblR0 w6 rb t)
      refine tblr_unmap hb6 hA6 d1 fun arr' w7 hb7 _ hA7 _ m7 => ⟨_, rfl, ?_⟩
      have s7 := s6.turn 2 rfl (tblrPart rb _) ⟨arr', T, hb7, hA7⟩ m7
      exact ⟨keepB1 (s5.kept s7 0 0 rfl rfl), by simp, _, L, G3, H3, s7⟩
    · -- Walk
      refine ⟨d4, c4 (s4.nth 0 rfl), d5, c5 (s4.nth 0 rfl), ?_⟩
      refine mmu_walk (s4.nth 4 rfl : TblP w4 p t F) ha0 d5 fun w5 m5 => ⟨_, _, _, rfl, ?_⟩
      have s5 := s4.mod0 m5
      refine ⟨d4, c4 (s5.nth 0 rfl), d5, c5 (s5.nth 0 rfl), ?_⟩
      obtain ⟨arr, T, hb5, hA5⟩ := (s5.nth 2 rfl : TblR0 w5 rb t)
      refine tblr_walk hb5 hA5 ha0 d5 fun w6 m6 => ⟨_, _, _, rfl, ?_⟩
      exact ⟨fun _ => ⟨fun _ => ⟨by simp, t, L, G3, H3, s5.mod0 m6⟩, fun h => absurd rfl h⟩, fun h => absurd rfl h⟩
    · -- the TLB's Walk
      refine ⟨d4, c4 (s4.nth 0 rfl), d5, c5 (s4.nth 0 rfl), ?_⟩
      have hok := (s4.nth 3 rfl : TlbP w4 b L G3).ok
      refine tlb_walk (s4.nth 3 rfl : TlbP w4 b L G3) (s4.nth 4 rfl : TblP w4 p t F) (s4.dj 3 4 (by decide) rfl rfl) ha0 d5 fun w5 G5 h5 m5 o5 => ⟨_, _, _, _, rfl, ?_⟩
      have s5 := s4.step 3 rfl (tlbPart b _ G5) h5 m5 o5
      refine ⟨d4, c4 (s5.nth 0 rfl), d5, c5 (s5.nth 0 rfl), ?_⟩
      obtain ⟨arr, T, hb5, hA5⟩ := (s5.nth 2 rfl : TblR0 w5 rb t)
      refine tlbr_walk (s5.nth 1 rfl : TlbR w5 rl L H3) hok hb5 hA5 ha0 d5 fun w6 H6 h6 m6 o6 => ⟨_, _, _, _, rfl, ?_⟩
      have s6 := s5.step 1 rfl (tlbrPart rl _ H6) h6 m6 o6
      exact ⟨fun _ => ⟨fun _ => ⟨fun _ => ⟨by simp, t, _, G5, H6, s6⟩, fun h => absurd rfl h⟩, fun h => absurd rfl h⟩, fun h => absurd rfl h⟩
    · -- Drop
      refine ⟨d1, c1 (s4.nth 0 rfl), ?_⟩
      have hok := (s4.nth 3 rfl : TlbP w4 b L G3).ok
      have hok2 := hok.2
      refine tlb_drop (s4.nth 3 rfl : TlbP w4 b L G3) d1 fun w5 G5 h5 m5 o5 => ⟨rfl, ?_⟩
      have s5 := s4.step 3 rfl (tlbPart b _ G5) h5 m5 o5
      refine ⟨d1, c1 (s5.nth 0 rfl), ?_⟩
      refine tlbr_drop (s5.nth 1 rfl : TlbR w5 rl L H3) (by omega) d1 fun w6 H6 h6 m6 o6 => ⟨rfl, ?_⟩
      have s6 := s5.step 1 rfl (tlbrPart rl _ H6) h6 m6 o6
      exact ⟨rfl, t, _, G5, H6, s6⟩
    · -- Flush
      refine tlb_flush (s4.nth 3 rfl : TlbP w4 b L G3) fun w5 G5 h5 m5 o5 => ⟨rfl, ?_⟩
      have s5 := s4.step 3 rfl (tlbPart b _ G5) h5 m5 o5
      refine tlbr_flush (s5.nth 1 rfl : TlbR w5 rl L H3) fun w6 H6 h6 m6 o6 => ?_
      have s6 := s5.step 1 rfl (tlbrPart rl _ H6) h6 m6 o6
      exact ⟨rfl, t, _, G5, H6, s6⟩

/-! ### Tables that are none -/

theorem nat_ (k : Int) {w : World} {K : Value → World → Prop} (hK : ∀ w', Mod [] w w' → K (.tuple #[.agg #[.int .i64 0, .bool false], .bool false]) w') : CallsR Try.prog F_mmu_Table_At #[.pointer none, .int .i64 k] w K := by
  apply R_mmu_Table_At_ok
  simp only [R_mmu_Table_At, newK_eq, Option.isNone_none, spl_true]
  refine (Sep.nil (Mod.refl [] w)).stK rfl fun w1 s1 m1 => ?_
  have h : w1.heap[w.heap.size]? = some (.cells [.int .i64 0, .bool false].toArray 24 (0, 0)) := s1.nth 0 rfl
  exact ⟨0, false, ⟨by rw [cell_get h]; rfl, by rw [cell_get h]; rfl⟩, hK w1 m1⟩

theorem nwalk {addr : Int} (h0 : 0 ≤ addr) (wr : Bool) {w : World} {K : Value → World → Prop} (hK : ∀ w', Mod [] w w' → K (.tuple #[.int .i64 0, .int .i64 0, .int .i64 102]) w') : CallsR Try.prog F_mmu_Table_Walk #[.pointer none, .int .u64 addr, .bool wr] w K := by
  apply R_mmu_Table_Walk_ok
  simp only [R_mmu_Table_Walk, spl_decide]
  refine ⟨fun _ => hK w (Mod.refl _ _), fun hlt => ⟨by decide, ?_⟩⟩
  refine nat_ _ fun w1 m1 => ⟨_, _, _, rfl, ?_⟩
  rw [newK_eq]
  refine (Sep.nil m1).stK rfl fun w2 s2 m2 => ?_
  exact spl_f rfl (hK w2 s2.mod)

theorem nframes {w : World} {K : Value → World → Prop} (hK : ∀ w', Mod [] w w' → K (.slice none 0 0) w') : CallsR Try.prog F_mmu_Table_Frames #[.pointer none] w K := by
  apply R_mmu_Table_Frames_ok
  simp only [R_mmu_Table_Frames, spl_decide, newK_eq]
  refine ⟨fun n A L C i w' => ∃ k : Nat, i = k ∧ k ≤ 4 ∧ n = 4 - k ∧ A = none ∧ L = 0 ∧ C = 0 ∧ Mod [] w w', ⟨4, 0, rfl, by omega, rfl, rfl, rfl, rfl, Mod.refl _ _⟩, ?_⟩
  rintro n A L C i - w2 ⟨k, rfl, hk, rfl, rfl, rfl, rfl, hm⟩
  refine ⟨fun hlt => ?_, fun hge => hK w2 hm⟩
  refine ⟨fun A' L' C' w' => A' = none ∧ L' = 0 ∧ C' = 0 ∧ Mod [] w w', ?_, ?_⟩
  · rintro A' L' C' - w3 ⟨rfl, rfl, rfl, hm'⟩
    exact ⟨4 - (k + 1), by omega, k + 1, by rw [w64 (by omega) (by omega)]; omega, by omega, rfl, rfl, rfl, rfl, hm'⟩
  refine nat_ _ fun w3 m3 => ⟨_, _, _, rfl, ?_⟩
  refine (Sep.nil (hm.trans' m3)).stK rfl fun w4 s4 m4 => ?_
  exact spl_f rfl ⟨rfl, rfl, rfl, s4.mod⟩

theorem none_run (w : World) (d0 d1 d2 : Int) (d3 : Bool) (d4 : Int) (d5 : Bool) (_ : (Lit.int .i64 d0).wf = true) (_ : (Lit.int .i64 d1).wf = true) (_ : (Lit.int .i64 d2).wf = true) (h4 : (Lit.int .u64 d4).wf = true) :
    CallsR Try.prog F_januslaw02_MmuNone #[.agg #[.int .i64 d0, .int .i64 d1, .int .i64 d2, .bool d3, .int .u64 d4, .bool d5]] w fun r w' => r = .bool true ∧ Mod [] w w' := by
  apply R_januslaw02_MmuNone_ok
  simp only [R_januslaw02_MmuNone, newK_eq]
  have ha0 := (u64_bounds h4).1
  have s1 := (Sep.nil (Mod.refl [] w)).alloc (.cells #[.int .i64 d0, .int .i64 d1, .int .i64 d2, .bool d3, .int .u64 d4, .bool d5] 38)
  generalize w.alloc (.cells #[.int .i64 d0, .int .i64 d1, .int .i64 d2, .bool d3, .int .u64 d4, .bool d5] 38) = w1 at s1 ⊢
  generalize w.heap.size = bd at s1 ⊢
  have s1 : Sep w w1 [blk bd (dcell d0 d1 d2 d3 d4 d5)] := s1
  have c1 : ∀ {u : World}, u.heap[bd]? = some (dcell d0 d1 d2 d3 d4 d5) → u.cell? ⟨bd, 1, none⟩ = some (.int .i64 d1) := fun h => by rw [cell_get h]; rfl
  have c2 : ∀ {u : World}, u.heap[bd]? = some (dcell d0 d1 d2 d3 d4 d5) → u.cell? ⟨bd, 2, none⟩ = some (.int .i64 d2) ∧ u.cell? ⟨bd, 3, none⟩ = some (.bool d3) := fun h => ⟨by rw [cell_get h]; rfl, by rw [cell_get h]; rfl⟩
  have c4 : ∀ {u : World}, u.heap[bd]? = some (dcell d0 d1 d2 d3 d4 d5) → u.cell? ⟨bd, 4, none⟩ = some (.int .u64 d4) := fun h => by rw [cell_get h]; rfl
  have c5 : ∀ {u : World}, u.heap[bd]? = some (dcell d0 d1 d2 d3 d4 d5) → u.cell? ⟨bd, 5, none⟩ = some (.bool d5) := fun h => by rw [cell_get h]; rfl
  refine ⟨d4, c4 (s1.nth 0 rfl), d5, c5 (s1.nth 0 rfl), ?_⟩
  refine nwalk ha0 d5 fun w2 m2 => ⟨_, _, _, rfl, ?_⟩
  have s2 := s1.mod0 m2
  refine ⟨d4, c4 (s2.nth 0 rfl), d5, c5 (s2.nth 0 rfl), ?_⟩
  apply R_mmu_Tlb_Walk_ok
  simp only [R_mmu_Tlb_Walk, Option.isNone_none, spl_true]
  refine ⟨_, _, _, _, rfl, d1, c1 (s2.nth 0 rfl), ?_⟩
  refine nat_ d1 fun w3 m3 => ⟨_, _, _, rfl, ?_⟩
  have s3 := s2.mod0 m3
  refine s3.stK rfl fun w4 s4 _ => ?_
  refine ⟨d1, c1 (s4.nth 1 rfl), ?_⟩
  apply R_mmu_Tlb_Drop_ok
  simp only [R_mmu_Tlb_Drop, Option.isNone_none, spl_true]
  refine ⟨trivial, ?_⟩
  apply R_mmu_Tlb_Flush_ok
  simp only [R_mmu_Tlb_Flush, Option.isNone_none, Bool.not_true, spl_false]
  refine ⟨trivial, d1, c1 (s4.nth 1 rfl), d2, d3, c2 (s4.nth 1 rfl), ?_⟩
  apply R_mmu_Table_Map_ok
  simp only [R_mmu_Table_Map, newK_eq, Option.isNone_none, spl_true]
  have s5 := s4.alloc (.cells #[.int .i64 d2, .bool d3] 24)
  refine ⟨_, rfl, spl_t rfl ⟨d1, c1 (s5.nth 2 rfl), ?_⟩⟩
  apply R_mmu_Table_Unmap_ok
  simp only [R_mmu_Table_Unmap, Option.isNone_none, spl_true]
  refine ⟨_, rfl, spl_t rfl (spl_t rfl (spl_t rfl ?_))⟩
  refine nframes fun w6 m6 => ⟨_, _, _, rfl, spl_t rfl ?_⟩
  apply R_mmu_Tlb_Pages_ok
  simp only [R_mmu_Tlb_Pages, Option.isNone_none, spl_true]
  refine ⟨_, _, _, rfl, spl_t rfl ?_⟩
  exact awake_run _ fun w7 m7 => ⟨_, rfl, rfl, (s5.mod.trans' m6).trans' m7⟩

end Go.Proofs
