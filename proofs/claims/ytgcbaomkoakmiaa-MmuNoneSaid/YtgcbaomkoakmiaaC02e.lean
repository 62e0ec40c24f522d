/-
  Layer 2: 'awake'; the walks of 'MmuPlaces' and 'MmuFresh'; tables that are none.
-/
import Derived.Test.YtgcbaomkoakmiaaC02d
import Derived.Test.YtgcbaomkoakmiaaRInts
import Derived.Test.YtgcbaomkoakmiaaDen13
set_option linter.unusedSimpArgs false
namespace Go.Proofs
open Go Go.Den

def tblPart (p : Nat) (t : Tb) (F : List Nat) : Part := ⟨F, fun w => TblP w p t F, fun h k => h.keep k, fun h => h.lt⟩
def tlbPart (b : Nat) (L : Tl) (F : List Nat) : Part := ⟨F, fun w => TlbP w b L F, fun h k => h.keep k, fun h => h.lt⟩
def tlbrPart (b : Nat) (L : Tl) (F : List Nat) : Part := ⟨F, fun w => TlbR w b L F, fun h k => h.keep k, fun h => h.lt⟩
def TblR0 (w : World) (b : Nat) (t : Tb) : Prop := ∃ arr T, w.heap[b]? = some (.cells arr T (0, 0)) ∧ TblA arr 0 t
def tblrPart (b : Nat) (t : Tb) : Part := ⟨[b], fun w => TblR0 w b t, fun ⟨arr, T, h1, h2⟩ k => ⟨arr, T, (k b (by simp)).trans h1, h2⟩, fun ⟨arr, T, h1, h2⟩ x hx => by simp only [List.mem_singleton] at hx; subst hx; exact lt_of_get h1⟩

def emp : Tb := fun _ => none

theorem awake_run (w : World) {K : Value → World → Prop} (h : ∀ w', Mod [] w w' → K (.bool true) w') : CallsR Try.prog F_januslaw02_awake #[] w K := by
  apply R_januslaw02_awake_ok
  simp only [R_januslaw02_awake]
  refine mmu_new w fun p F w1 hp hm1 hF => ⟨_, rfl, ?_⟩
  have s1 : Sep w w1 [tblPart p emp F] := (Sep.nil (Mod.refl [] w)).push _ hm1 hp hF
  refine tlb_new w1 fun b G w2 hb hm2 hG => ⟨_, rfl, ?_⟩
  have s2 : Sep w w2 [tlbPart b [] G, tblPart p emp F] := s1.push _ hm2 hb hG
  simp only [Option.isNone_some, spl_false]
  refine mmu_map (s2.nth 1 rfl) 1 7 true fun w3 h3 m3 => ⟨_, rfl, ?_⟩
  have s3 := s2.turn 1 rfl (tblPart p _ F) h3 m3
  refine mmu_walk (s3.nth 1 rfl : TblP w3 p _ F) (addr := 33) (by decide) true fun w4 m4 => ⟨_, _, _, rfl, ?_⟩
  have s4 := s3.mod0 m4
  refine mmu_walk (s4.nth 1 rfl : TblP w4 p _ F) (addr := 128) (by decide) false fun w5 m5 => ⟨_, _, _, rfl, ?_⟩
  have s5 := s4.mod0 m5
  refine tlb_walk (s5.nth 0 rfl : TlbP w5 b _ G) (s5.nth 1 rfl : TblP w5 p _ F) (s5.dj 0 1 (by decide) rfl rfl) (addr := 33) (by decide) true fun w6 G6 h6 m6 o6 => ⟨_, _, _, _, rfl, ?_⟩
  have s6 := s5.step 0 rfl (tlbPart b _ G6) h6 m6 o6
  refine mmu_map (s6.nth 1 rfl : TblP w6 p _ F) 1 9 false fun w7 h7 m7 => ⟨_, rfl, ?_⟩
  have s7 := s6.turn 1 rfl (tblPart p _ F) h7 m7
  refine tlb_walk (s7.nth 0 rfl : TlbP w7 b _ G6) (s7.nth 1 rfl : TblP w7 p _ F) (s7.dj 0 1 (by decide) rfl rfl) (addr := 34) (by decide) true fun w8 G8 h8 m8 o8 => ⟨_, _, _, _, rfl, ?_⟩
  have s8 := s7.step 0 rfl (tlbPart b _ G8) h8 m8 o8
  refine tlb_drop (s8.nth 0 rfl : TlbP w8 b _ G8) 1 fun w9 G9 h9 m9 o9 => ⟨rfl, ?_⟩
  have s9 := s8.step 0 rfl (tlbPart b _ G9) h9 m9 o9
  refine tlb_walk (s9.nth 0 rfl : TlbP w9 b _ G9) (s9.nth 1 rfl : TblP w9 p _ F) (s9.dj 0 1 (by decide) rfl rfl) (addr := 34) (by decide) true fun w10 G10 h10 m10 o10 => ⟨_, _, _, _, rfl, ?_⟩
  have s10 := s9.step 0 rfl (tlbPart b _ G10) h10 m10 o10
  refine spl_t rfl (spl_t rfl (spl_t rfl (spl_t rfl (spl_t rfl (spl_t rfl (spl_f rfl (spl_t rfl (spl_t rfl (spl_t rfl ?_)))))))))
  exact h _ s10.mod

theorem tmod32 (x : Int) : -31 ≤ Int.tmod x 32 ∧ Int.tmod x 32 ≤ 31 := by
  rcases Int.le_total 0 x with h | h
  · rw [Int.tmod_eq_emod_of_nonneg h]; omega
  · have e : Int.tmod x 32 = - Int.tmod (-x) 32 := by rw [Int.neg_tmod, Int.neg_neg]
    rw [e, Int.tmod_eq_emod_of_nonneg (by omega)]; omega

theorem places_run (w : World) (pg_ wd : Int) (_ : (Lit.int .i64 pg_).wf = true) (hwd : (Lit.int .i64 wd).wf = true) (f : Int) (g : Bool) (_ : (Lit.int .i64 f).wf = true) (wr : Bool) :
    CallsR Try.prog F_januslaw02_MmuPlaces #[.agg #[.int .i64 pg_, .int .i64 wd], .agg #[.int .i64 f, .bool g], .bool wr] w fun r w' => r = .bool true ∧ Mod [] w w' := by
  apply R_januslaw02_MmuPlaces_ok
  simp only [R_januslaw02_MmuPlaces, newK_eq, drK_eq]
  have fin : ∀ (w' : World), Mod [] w w' → CallsR Try.prog F_januslaw02_awake #[] w' fun v w'' => ∃ r : Bool, v = .bool r ∧ Value.bool r = .bool true ∧ Mod [] w w'' := fun w' h => awake_run _ fun w2 h2 => ⟨true, rfl, rfl, h.trans' h2⟩
  have s1 : Sep w (w.alloc (.cells #[.int .i64 pg_, .int .i64 wd] 22)) [blk w.heap.size (.cells #[.int .i64 pg_, .int .i64 wd] 22)] := (Sep.nil (Mod.refl [] w)).push _ ((Mod.refl _ _).alloc _) (alloc_new w _) (by simp [Beyond, blk])
  generalize w.alloc (.cells #[.int .i64 pg_, .int .i64 wd] 22) = w1 at s1 ⊢
  generalize w.heap.size = b1 at s1 ⊢
  have s2 := s1.push (blk w1.heap.size (.cells #[.int .i64 f, .bool g] 24)) ((Mod.refl [] w1).alloc (.cells #[.int .i64 f, .bool g] 24)) (alloc_new w1 _) (by simp [Beyond, blk])
  have s2 := s2.mod0 ((Mod.refl [] _).drew)
  generalize (w1.alloc (.cells #[.int .i64 f, .bool g] 24)).drew = w2 at s2 ⊢
  generalize w1.heap.size = b2 at s2 ⊢
  clear s1
  have d1 : ∀ {u : World}, u.heap[b2]? = some (.cells #[.int .i64 f, .bool g] 24 (0, 0)) → u.cell? ⟨b2, 0, none⟩ = some (.int .i64 f) ∧ u.cell? ⟨b2, 1, none⟩ = some (.bool g) := fun h => ⟨by rw [cell_get h]; rfl, by rw [cell_get h]; rfl⟩
  have hb1 : w2.heap[b1]? = some _ := s2.nth 1 rfl
  refine ⟨⟨by decide, by decide⟩, pg_, by rw [cell_get hb1]; rfl, ⟨by decide, by decide⟩, wd, by rw [cell_get hb1]; rfl, ?_⟩
  refine mmu_new w2 fun p F w3 hp hm3 hF => ⟨_, rfl, ?_⟩
  have s3 := s2.push (tblPart p emp F) hm3 hp hF
  simp only [Option.isNone_some, spl_false, spl_bne, spl_decide, spl_beq]
  refine ⟨f, g, d1 (s3.nth 1 rfl), ?_⟩
  refine mmu_map (s3.nth 0 rfl : TblP w3 p emp F) pg_ f g fun w4 h4 m4 => ⟨_, rfl, ?_⟩
  have s4 := s3.turn 0 rfl (tblPart p _ F) h4 m4
  have m4' := s4.mod
  by_cases hbad : pg_ < 0 ∨ 4 ≤ pg_ ∨ f < 0
  · have e : tMapE pg_ f = 101 := if_pos hbad
    rw [e]
    refine ⟨fun _ => ⟨fun _ => fin w4 m4', fun h0 => ⟨fun _ => fin w4 m4', fun h4 => ⟨f, (d1 (s4.nth 1 rfl)).1, fun _ => fin w4 m4', fun hf => by omega⟩⟩⟩, fun h => absurd h (by decide)⟩
  · have e : tMapE pg_ f = 0 := if_neg hbad
    have et : tMap emp pg_ (f, g) = tput emp pg_ (f, g) := if_neg hbad
    rw [e]
    refine ⟨fun h => absurd rfl h, fun _ => ⟨by decide, by decide, ?_⟩⟩
    have hw1 := tmod32 wd
    have hw2 : IntKind.i64.wrap (Int.tmod wd 32 + 32) = Int.tmod wd 32 + 32 := w64 (by omega) (by omega)
    rw [hw2]
    obtain ⟨W, hW⟩ : ∃ W, W = Int.tmod (Int.tmod wd 32 + 32) 32 := ⟨_, rfl⟩
    have hW0 : 0 ≤ W ∧ W < 32 := by
      rw [hW, Int.tmod_eq_emod_of_nonneg (by omega)]
      omega
    rw [← hW]
    have ea : IntKind.u64.wrap (IntKind.i64.wrap (IntKind.i64.wrap (pg_ * 32) + W)) = pg_ * 32 + W := by
      rw [w64 (n := pg_ * 32) (by omega) (by omega), w64 (by omega) (by omega), wu64 (by omega) (by omega)]
    rw [ea]
    refine mmu_walk (s4.nth 0 rfl : TblP w4 p _ F) (addr := pg_ * 32 + W) (by omega) wr fun w5 m5 => ⟨_, _, _, rfl, ?_⟩
    have s5 := s4.mod0 m5
    have e5 : walk3 (tMap emp pg_ (f, g)) (pg_ * 32 + W) wr = use3 (f, g) (pg_ * 32 + W) wr := by
      unfold walk3
      rw [if_neg (by omega), et, show (pg_ * 32 + W) / 32 = pg_ by omega]
      simp only [tput, if_pos]
    rw [e5]
    have m5' := s5.mod
    refine ⟨fun w' => w' = w5 ∧ ¬ (wr = true ∧ g = false), ?_, ?_⟩
    · rintro - w' ⟨rfl, hn⟩
      have eu : use3 (f, g) (pg_ * 32 + W) wr = (f, W, 0) := by
        unfold use3; rw [if_neg hn, show (pg_ * 32 + W) % 32 = W by omega]
      rw [eu]
      exact ⟨f, (d1 (s5.nth 1 rfl)).1, fun _ => ⟨fun _ => ⟨fun _ => fin _ m5', fun h => absurd rfl h⟩, fun h => absurd rfl h⟩, fun h => absurd rfl h⟩
    · cases wr with
      | false => exact spl_f rfl ⟨rfl, by simp⟩
      | true =>
        refine spl_t rfl ⟨g, (d1 (s5.nth 1 rfl)).2, ?_⟩
        cases g with
        | true => exact spl_t rfl ⟨rfl, by simp⟩
        | false =>
          have eu : use3 (f, false) (pg_ * 32 + W) true = (0, 0, 103) := by unfold use3; rw [if_pos ⟨rfl, rfl⟩]
          rw [eu]
          exact spl_f rfl ⟨fun _ => fin _ m5', fun h => absurd rfl h⟩

/-! ### A TLB that is told of each change -/

def Fresh (t : Tb) (L : Tl) : Prop := ∀ k x, tlook L k = some x → t k = some x

theorem Fresh.turn {t t' : Tb} {L : Tl} (h : Fresh t L) (k : Int) (ht : ∀ j, k ≠ j → t' j = t j) : Fresh t' (tlDrop L k) := fun j x hj => by
  rw [tlook_drop] at hj
  split at hj
  · cases hj
  · rename_i hne
    rw [ht j hne]
    exact h j x hj
theorem tMap_other (t : Tb) (k : Int) (x : Int × Bool) (j : Int) (hj : k ≠ j) : tMap t k x j = t j := by
  unfold tMap; split
  · rfl
  · simp [tput, hj]
theorem tdel_other (t : Tb) (k j : Int) (hj : k ≠ j) : tdel t k j = t j := by unfold tdel; rw [if_neg hj]
theorem Fresh.add {t : Tb} {L : Tl} (h : Fresh t L) (hok : TlOk L) {n : Int} {x : Int × Bool} (hn : tlook L n = none) (ht : t n = some x) : Fresh t (tlAdd L n x) := fun j y hj => by
  have h2 : ∀ j y, tlook (L ++ [(n, x)]) j = some y → t j = some y := fun j y hj => by
    rw [tlook_snoc L n x hn] at hj
    split at hj
    · rename_i e; subst e; rw [ht]; exact hj
    · exact h j y hj
  have hnd := nodup_snoc hok.1 x hn
  unfold tlAdd at hj
  split at hj
  · cases hc : L ++ [(n, x)] with
    | nil => simp at hc
    | cons q qs =>
      rw [hc] at hj hnd h2
      rw [List.drop_one, List.tail_cons, tlook_tail hnd] at hj
      split at hj
      · cases hj
      · exact h2 j y hj
  · exact h2 j y hj
theorem Fresh.walk {t : Tb} {L : Tl} (h : Fresh t L) (hok : TlOk L) (addr : Int) (wr : Bool) : (tlWalk t L addr wr).2.1 = walk3 t addr wr ∧ Fresh t (tlWalk t L addr wr).1 := by
  unfold tlWalk walk3
  by_cases ha : 128 ≤ addr
  · rw [if_pos ha, if_pos ha]; exact ⟨rfl, h⟩
  · rw [if_neg ha, if_neg ha]
    cases hl : tlook L (addr / 32) with
    | some x => rw [tlIn_hit wr hl, h _ x hl]; exact ⟨rfl, h⟩
    | none =>
      cases ht : t (addr / 32) with
      | none => rw [tlIn_no wr hl ht]; exact ⟨rfl, h⟩
      | some x => rw [tlIn_add wr hl ht]; exact ⟨rfl, h.add hok hl ht⟩

theorem fresh_run (w : World) (a : Option Addr) (l c : Nat) (hl : SlIn w 6 Q_januslaw02_Deed a l c) :
    CallsR Try.prog F_januslaw02_MmuFresh #[.slice a l c] w fun r w' => r = .bool true ∧ Mod [] w w' := by
  apply R_januslaw02_MmuFresh_ok
  simp only [R_januslaw02_MmuFresh]
  have fin : ∀ (w' : World), Mod [] w w' → CallsR Try.prog F_januslaw02_awake #[] w' fun v w'' => ∃ r : Bool, v = .bool r ∧ Value.bool r = .bool true ∧ Mod [] w w'' := fun w' h => awake_run _ fun w2 h2 => ⟨true, rfl, rfl, h.trans' h2⟩
  refine mmu_new w fun p F w1 hp hm1 hF => ⟨_, rfl, ?_⟩
  have s1 : Sep w w1 [tblPart p emp F] := (Sep.nil (Mod.refl [] w)).push _ hm1 hp hF
  refine tlb_new w1 fun b G w2 hb hm2 hG => ⟨_, rfl, ?_⟩
  have s2 : Sep w w2 [tlbPart b [] G, tblPart p emp F] := s1.push _ hm2 hb hG
  simp only [Option.isNone_some, spl_false, spl_decide, spl_beq, spl_bne, newK_eq]
  refine ⟨fun w' => Mod [] w w', fun _ w' hm => fin w' hm, ?_⟩
  refine ⟨fun n i w' => ∃ (k : Nat) (t : Tb) (L : Tl) (G' : List Nat), i = k ∧ k ≤ l ∧ k ≤ 300 ∧ n = l - k ∧ Fresh t L ∧ Sep w w' [tlbPart b L G', tblPart p t F], ⟨l, 0, emp, [], G, rfl, by omega, by omega, rfl, fun k x h => (by cases h), s2⟩, ?_⟩
  rintro n i - w3 ⟨k, t, L, G3, rfl, hk, h300, rfl, hfr, s3⟩
  refine ⟨fun hlt => ⟨fun hlt2 => ?_, fun _ => s3.mod⟩, fun _ => s3.mod⟩
  have hkl : k < l := by omega
  obtain ⟨ad, cs, rfl, hadlt, ⟨d0, d1, d2, d3, d4, d5, rfl, hw0, hw1, hw2, hw4⟩, -, hcell⟩ := (hl.mod s3.mod).at hkl
  simp only [nilK_some, Int.toNat_natCast]
  refine ⟨⟨by omega, by omega⟩, d0, d1, d2, d3, d4, d5, ⟨by have := hcell 0 (by omega); rwa [add_zero] at this, hcell 1 (by omega), hcell 2 (by omega), hcell 3 (by omega), hcell 4 (by omega), hcell 5 (by omega)⟩, ?_⟩
  refine stK_of (alloc_new _ _) (by simp) ?_
  have s4 := s3.push (blk w3.heap.size (.cells #[.int .i64 d0, .int .i64 d1, .int .i64 d2, .bool d3, .int .u64 d4, .bool d5] 38 (0, 0))) (w' := (w3.alloc (.cells #[.int .i64 0, .int .i64 0, .int .i64 0, .bool false, .int .u64 0, .bool false] 38)).upd w3.heap.size (.cells #[.int .i64 d0, .int .i64 d1, .int .i64 d2, .bool d3, .int .u64 d4, .bool d5] 38 (0, 0))) (((Mod.refl [] w3).alloc _).upd (.inr (Nat.le_refl _)) _) (upd_same (alloc_new w3 _)) (by simp [Beyond, blk])
  generalize hw4' : (w3.alloc (.cells #[.int .i64 0, .int .i64 0, .int .i64 0, .bool false, .int .u64 0, .bool false] 38)).upd w3.heap.size (.cells #[.int .i64 d0, .int .i64 d1, .int .i64 d2, .bool d3, .int .u64 d4, .bool d5] 38 (0, 0)) = w4 at s4
  have hw4'' : (w3.alloc (.cells #[.int .i64 0, .int .i64 0, .int .i64 0, .bool false, .int .u64 0, .bool false] 38)).upd w3.heap.size (.cells (splice #[.int .i64 0, .int .i64 0, .int .i64 0, .bool false, .int .u64 0, .bool false] 0 [.int .i64 d0, .int .i64 d1, .int .i64 d2, .bool d3, .int .u64 d4, .bool d5]) 38 (0, 0)) = w4 := hw4'
  rw [hw4'']
  generalize w3.heap.size = bd at s4 ⊢
  clear hw4' hw4'' s3
  have rd : ∀ {u : World} {l : List Part}, Sep w u (blk bd (.cells #[.int .i64 d0, .int .i64 d1, .int .i64 d2, .bool d3, .int .u64 d4, .bool d5] 38 (0, 0)) :: l) → u.heap[bd]? = some (.cells #[.int .i64 d0, .int .i64 d1, .int .i64 d2, .bool d3, .int .u64 d4, .bool d5] 38 (0, 0)) := fun h => h.nth 0 rfl
  have c0 : ∀ {u : World} {l : List Part}, Sep w u (blk bd (.cells #[.int .i64 d0, .int .i64 d1, .int .i64 d2, .bool d3, .int .u64 d4, .bool d5] 38 (0, 0)) :: l) → u.cell? ⟨bd, 0, none⟩ = some (.int .i64 d0) ∧ u.cell? ⟨bd, 1, none⟩ = some (.int .i64 d1) ∧ u.cell? ⟨bd, 2, none⟩ = some (.int .i64 d2) ∧ u.cell? ⟨bd, 3, none⟩ = some (.bool d3) ∧ u.cell? ⟨bd, 4, none⟩ = some (.int .u64 d4) ∧ u.cell? ⟨bd, 5, none⟩ = some (.bool d5) := fun h => by
    refine ⟨?_, ?_, ?_, ?_, ?_, ?_⟩ <;> (rw [cell_get (rd h)]; rfl)
  have ha0 := (u64_bounds hw4).1
  refine ⟨fun w' => ∃ (t : Tb) (L : Tl) (G' : List Nat), Fresh t L ∧ Sep w w' [blk bd (.cells #[.int .i64 d0, .int .i64 d1, .int .i64 d2, .bool d3, .int .u64 d4, .bool d5] 38 (0, 0)), tlbPart b L G', tblPart p t F], ?_, d0, (c0 s4).1, fun _ => ?_, fun _ => ⟨fun _ => ?_, fun _ => ?_⟩⟩
  · rintro - w5 ⟨t5, L5, G5, hfr5, s5⟩
    have hok := (s5.nth 1 rfl : TlbP w5 b L5 G5).ok
    refine tlb_pages (s5.nth 1 rfl : TlbP w5 b L5 G5) fun A N C H w6 hs6 hH m6 => ⟨_, _, _, rfl, fun hgt => ?_, fun _ => ?_⟩
    · have := hs6.i64
      have := hok.2
      simp [tkeys] at *
      omega
    · exact ⟨l - (k + 1), by omega, k + 1, t5, L5, G5, by rw [w64 (by omega) (by omega)]; omega, by omega, by omega, rfl, hfr5, (s5.mod0 m6).pop⟩
  · refine ⟨d1, (c0 s4).2.1, d2, d3, ⟨(c0 s4).2.2.1, (c0 s4).2.2.2.1⟩, ?_⟩
    refine mmu_map (s4.nth 2 rfl : TblP w4 p t F) d1 d2 d3 fun w5 h5 m5 => ⟨_, rfl, ?_⟩
    have s5 := s4.turn 2 rfl (tblPart p _ F) h5 m5
    refine ⟨d1, (c0 s5).2.1, ?_⟩
    refine tlb_drop (s5.nth 1 rfl : TlbP w5 b L G3) d1 fun w6 G6 h6 m6 o6 => ⟨rfl, ?_⟩
    have s6 := s5.step 1 rfl (tlbPart b _ G6) h6 m6 o6
    exact ⟨_, _, G6, hfr.turn d1 (tMap_other t d1 _), s6⟩
  · refine ⟨d1, (c0 s4).2.1, ?_⟩
    refine mmu_unmap (s4.nth 2 rfl : TblP w4 p t F) d1 fun w5 h5 m5 => ⟨_, rfl, ?_⟩
    have s5 := s4.turn 2 rfl (tblPart p _ F) h5 m5
    refine ⟨d1, (c0 s5).2.1, ?_⟩
    refine tlb_drop (s5.nth 1 rfl : TlbP w5 b L G3) d1 fun w6 G6 h6 m6 o6 => ⟨rfl, ?_⟩
    have s6 := s5.step 1 rfl (tlbPart b _ G6) h6 m6 o6
    exact ⟨_, _, G6, hfr.turn d1 (tdel_other t d1), s6⟩
  · refine ⟨d4, (c0 s4).2.2.2.2.1, d5, (c0 s4).2.2.2.2.2, ?_⟩
    refine mmu_walk (s4.nth 2 rfl : TblP w4 p t F) ha0 d5 fun w5 m5 => ⟨_, _, _, rfl, ?_⟩
    have s5 := s4.mod0 m5
    refine ⟨d4, (c0 s5).2.2.2.2.1, d5, (c0 s5).2.2.2.2.2, ?_⟩
    have hok := (s5.nth 1 rfl : TlbP w5 b L G3).ok
    refine tlb_walk (s5.nth 1 rfl : TlbP w5 b L G3) (s5.nth 2 rfl : TblP w5 p t F) (s5.dj 1 2 (by decide) rfl rfl) ha0 d5 fun w6 G6 h6 m6 o6 => ⟨_, _, _, _, rfl, ?_⟩
    have s6 := s5.step 1 rfl (tlbPart b _ G6) h6 m6 o6
    obtain ⟨e1, e2⟩ := hfr.walk hok d4 d5
    rw [e1]
    exact ⟨fun h => absurd rfl h, fun _ => ⟨fun h => absurd rfl h, fun _ => ⟨fun h => absurd rfl h, fun _ => ⟨t, _, G6, e2, s6⟩⟩⟩⟩

end Go.Proofs
