/-
  exodisk: a deed, as plain functions; what stays as it was.
  exodisk, as plain functions: whatever others do, a block is what its one holder put; behind a sync the disk has what was put; who was given a right has it.
-/
import Derived.Test.YtjfgaiffdcnclaaGreatK12A
set_option linter.unusedVariables false
set_option linter.unusedSimpArgs false
namespace Go.Proofs
open Go Go.Den

/-- A deed: as the law has them. -/
structure D12 where
  kind : Int
  env : Int
  slot : Int
  to : Int
  first : Int
  n : Int
  v : Int
def do12 (blk : Int → Int → List Int) (s : S12) (d : D12) : S12 :=
  if d.kind = 0 then allocS12 s d.env d.first d.n else if d.kind = 1 then grantS12 s d.env d.slot d.to d.n else if d.kind = 2 then revS12 s d.env d.slot else
  if d.kind = 3 then getS12 s d.env d.slot d.first else if d.kind = 4 then putS12 s d.env d.slot d.first (blk d.n d.v) else if d.kind = 5 then syncS12 s else
  if d.kind = 6 then (if (relV12 s d.env d.slot d.first).2 = 0 then getS12 s d.env d.slot (relV12 s d.env d.slot d.first).1 else s) else
  if d.kind = 7 then (if (relV12 s d.env d.slot d.first).2 = 0 then putS12 s d.env d.slot (relV12 s d.env d.slot d.first).1 (blk d.n d.v) else s) else goneS12 s d.env

theorem getS12_c (s : S12) (e sl b : Int) : (getS12 s e sl b).c = s.c := by unfold getS12; split <;> rfl
theorem putS12_c (s : S12) (e sl b : Int) (ws : List Int) : (putS12 s e sl b ws).c = s.c := by unfold putS12; split <;> rfl
theorem allocS12_c (s : S12) (e f n : Int) : Grows 1 s.c (allocS12 s e f n).c := by
  unfold allocS12
  split
  · exact addS8_len ..
  · exact Grows.refl ..
theorem goneS12_c (s : S12) (e : Int) : (goneS12 s e).c = goneS8 s.c e 64 := by unfold goneS12; dsimp only
theorem do12_len (blk : Int → Int → List Int) (s : S12) (d : D12) : Grows 1 s.c (do12 blk s d).c := by
  unfold do12
  repeat' split
  · exact allocS12_c ..
  · exact giveS8_len ..
  · exact (revokeS8_len ..).mono (by omega)
  · rw [getS12_c]; exact Grows.refl ..
  · rw [putS12_c]; exact Grows.refl ..
  · exact Grows.refl ..
  · rw [getS12_c]; exact Grows.refl ..
  · exact Grows.refl ..
  · rw [putS12_c]; exact Grows.refl ..
  · exact Grows.refl ..
  · rw [goneS12_c]; exact (goneS8_len s.c d.env 64).mono (by omega)
theorem getS12_d (s : S12) (e sl b : Int) : (getS12 s e sl b).d = s.d := by unfold getS12; split <;> rfl
theorem putS12_d (s : S12) (e sl b : Int) (ws : List Int) : (putS12 s e sl b ws).d = s.d := by unfold putS12; split <;> rfl
theorem allocS12_d (s : S12) (e f n : Int) : (allocS12 s e f n).d = s.d := by unfold allocS12; split <;> rfl
theorem goneS12_d (s : S12) (e : Int) : (goneS12 s e).d = s.d := by unfold goneS12; dsimp only
theorem do12_d (blk : Int → Int → List Int) (s : S12) (d : D12) : (do12 blk s d).d.length = s.d.length := by
  unfold do12
  repeat' split
  · rw [allocS12_d]
  · rfl
  · rfl
  · rw [getS12_d]
  · rw [putS12_d]
  · exact syncD_len ..
  · rw [getS12_d]
  · rfl
  · rw [putS12_d]
  · rfl
  · rw [goneS12_d]

end Go.Proofs

set_option linter.unusedSimpArgs false
namespace Go.Proofs
open Go Go.Den

theorem row12_syncD {W : List (List Int)} {x : Int} (hx : 0 ≤ x) : ∀ (l : List Int) (d : List (List Int)), (∀ y ∈ l, inD d y) → row12 (syncD W l d) x = if x ∈ l then row12 W x else row12 d x
  | [], d, _ => by simp [syncD]
  | b :: l, d, h => by
    have hb := h b (by simp)
    rw [syncD, row12_syncD hx l _ fun y hy => by have := h y (by simp [hy]); unfold inD at this ⊢; rw [List.length_set]; exact this]
    rw [row12_set hb.1 hx (by have := hb.1; have := hb.2; omega)]
    by_cases h1 : x ∈ l
    · rw [if_pos h1, if_pos (by simp [h1])]
    · rw [if_neg h1]
      by_cases h2 : x = b
      · subst h2; rw [if_pos rfl, if_pos (by simp)]
      · rw [if_neg h2, if_neg (by simp [h1, h2])]

/-! ### A block of one holder -/
structure Hold12 (B : List Int) (s : S12) : Prop where
  own : ∃ g ∈ s.c.L, g.env = 0 ∧ g.slot = 1 ∧ g.of_ = 0 ∧ g.x = ⟨2, 2, 1, 7⟩
  only : ∀ c ∈ s.c.L, c.x.i ≤ 2 → 2 < c.x.i + c.x.n → c.env = 0
  inI : (2 : Int) ∈ s.I
  row : row12 s.W 2 = B
  disk : (2 : Int) ∈ s.N ∨ row12 s.d 2 = B

theorem Hold12.may {B : List Int} {s : S12} (h : Hold12 B s) {e sl b r : Int} (he : e ≠ 0) (hm : may12 s e sl b r = true) : b ≠ 2 := by
  rintro rfl
  unfold may12 getV8 at hm
  cases hl : look8 s.c.L e sl with
  | none => rw [hl] at hm; simp at hm
  | some c =>
    rw [hl] at hm
    obtain ⟨hc, h1, -⟩ := look8_some hl
    simp only [Bool.and_eq_true, decide_eq_true_eq, true_and] at hm
    exact he (h1.symm.trans (h.only c hc hm.2.1 hm.2.2))
theorem Hold12.ent {B : List Int} {s : S12} (hT : T12 s) (h : Hold12 B s) {b : Int} (hb : inD s.d b) (hne : b ≠ 2) (ws : List Int) {N : List Int} (hN : ∀ x ∈ s.N, x ∈ N) : Hold12 B { s with I := putL s.I b, N := N, W := s.W.set b.toNat ws } := by
  refine ⟨h.own, h.only, mem_putL.2 (.inr h.inI), ?_, h.disk.imp (hN 2) id⟩
  show row12 (s.W.set b.toNat ws) 2 = B
  rw [row12_set hb.1 (by decide) (by have := hT.len; have := hb.1; have := hb.2; omega), if_neg (Ne.symm hne)]
  exact h.row
theorem Hold12.get {B : List Int} {s : S12} (hT : T12 s) (hw : W8 s.c) (h : Hold12 B s) {e : Int} (he : e ≠ 0) (sl b : Int) : Hold12 B (getS12 s e sl b) := by
  unfold getS12
  split
  · rename_i hm
    exact h.ent hT (may12_in hT hw hm) (h.may he hm) _ fun x hx => hx
  · exact h
theorem Hold12.put {B : List Int} {s : S12} (hT : T12 s) (hw : W8 s.c) (h : Hold12 B s) {e : Int} (he : e ≠ 0) (sl b : Int) (ws : List Int) : Hold12 B (putS12 s e sl b ws) := by
  unfold putS12
  split
  · rename_i hm
    exact h.ent hT (may12_in hT hw hm.1) (h.may he hm.1) _ fun x hx => mem_putL.2 (.inr hx)
  · exact h
theorem Hold12.sync {B : List Int} {s : S12} (hT : T12 s) (h : Hold12 B s) : Hold12 B (syncS12 s) := by
  refine ⟨h.own, h.only, h.inI, h.row, .inr ?_⟩
  show row12 (syncD s.W s.N s.d) 2 = B
  rw [row12_syncD (by decide) _ _ fun y hy => hT.inI y (hT.sub y hy)]
  split
  · exact h.row
  · rename_i hn; exact h.disk.resolve_left hn
theorem Hold12.caps {B : List Int} {s : S12} (h : Hold12 B s) {c : S8} (ho : ∃ g ∈ c.L, g.env = 0 ∧ g.slot = 1 ∧ g.of_ = 0 ∧ g.x = ⟨2, 2, 1, 7⟩) (hc : ∀ d ∈ c.L, d.x.i ≤ 2 → 2 < d.x.i + d.x.n → d.env = 0) : Hold12 B { s with c := c } := ⟨ho, hc, h.inI, h.row, h.disk⟩
theorem Hold12.do_ {B : List Int} {s : S12} (hT : T12 s) (hw : W8 s.c) (h : Hold12 B s) {blk : Int → Int → List Int} {d : D12} (he : d.env ≠ 0) : Hold12 B (do12 blk s d) := by
  obtain ⟨g, hg, g1, g2, g3, g4⟩ := h.own
  unfold do12
  repeat' split
  · unfold allocS12
    split
    · rename_i hm
      obtain ⟨hr, hf⟩ := hm
      refine h.caps ⟨g, keep_add hg, g1, g2, g3, g4⟩ fun c hc h1 h2 => ?_
      rcases mem_add hc with hc | ⟨-, hx, -⟩
      · exact h.only c hc h1 h2
      · rw [hx] at h1 h2
        simp only at h1 h2
        unfold allFree at hf
        rw [List.all_eq_true] at hf
        obtain ⟨-, r1, r2, -, -⟩ := hr
        have := hf (2 - d.first).toNat (List.mem_range.2 (by omega))
        rw [show d.first + (((2 - d.first).toNat : Nat) : Int) = 2 by omega, List.isEmpty_iff] at this
        have hmem : (0 : Int) ∈ holders8 s.c.L 2 2 := by
          unfold holders8
          rw [List.mem_filter]
          refine ⟨mem_ups.2 (by decide), List.any_eq_true.2 ⟨g, hg, ?_⟩⟩
          rw [g1, g4]
          rfl
        rw [this] at hmem
        cases hmem
    · exact h
  · refine h.caps ⟨g, keep_give hg, g1, g2, g3, g4⟩ fun c hc h1 h2 => ?_
    rcases mem_give hc with hc | ⟨d', hd', e1, -, -, -, hx, -⟩
    · exact h.only c hc h1 h2
    · rw [hx] at h1 h2
      exact absurd ((h.only d' hd' h1 h2).symm.trans e1) (Ne.symm he)
  · exact h.caps ⟨g, keep_revoke hw hg g3, g1, g2, g3, g4⟩ fun c hc h1 h2 => h.only c (mem_revoke hc) h1 h2
  · exact h.get hT hw he _ _
  · exact h.put hT hw he _ _ _
  · exact h.sync hT
  · exact h.get hT hw he _ _
  · exact h
  · exact h.put hT hw he _ _ _
  · exact h
  · rw [goneS12_eq]
    refine h.caps ⟨g, keep_gone hw hg g3 (by rw [g1]; exact Ne.symm he) 64, g1, g2, g3, g4⟩ fun c hc h1 h2 => ?_
    obtain ⟨⟨d', hd', -, e1, -, hx⟩, -⟩ := mem_gone hc
    rw [← hx] at h1 h2
    rw [← e1]
    exact h.only d' hd' h1 h2
theorem Hold12.val {B : List Int} {s : S12} (hw : W8 s.c) (h : Hold12 B s) : getV12 s 0 1 2 = (B, 0) := by
  obtain ⟨g, hg, g1, g2, g3, g4⟩ := h.own
  have hl := look8_of hw.key hg
  rw [g1, g2] at hl
  have hm : may12 s 0 1 2 1 = true := by
    unfold may12 getV8
    rw [hl]
    simp only [g4]
    rfl
  unfold getV12
  rw [if_pos hm]
  unfold look12
  rw [if_pos h.inI, h.row]

/-! ### What was put -/
structure Want12 (wl : List (List Int)) (s : S12) : Prop where
  len : wl.length = 6
  d : s.d.length = 6
  cap : getV8 s.c.L 1 1 = (⟨2, 0, 6, 7⟩, true)
  new : ∀ b ∈ s.N, row12 s.W b = row12 wl b
  old : ∀ b, inD s.d b → b ∉ s.N → row12 s.d b = row12 wl b
theorem Want12.sync {wl : List (List Int)} {s : S12} (hT : T12 s) (h : Want12 wl s) : Want12 wl (syncS12 s) := by
  refine ⟨h.len, (syncD_len ..).trans h.d, h.cap, fun b hb => (by cases hb), fun b hb _ => ?_⟩
  show row12 (syncD s.W s.N s.d) b = _
  have hb' : inD s.d b := by unfold inD syncS12 at hb; simp only at hb; rw [syncD_len] at hb; exact hb
  rw [row12_syncD hb.1 _ _ fun y hy => hT.inI y (hT.sub y hy)]
  split
  · rename_i hn; exact h.new b hn
  · rename_i hn; exact h.old b hb' hn
theorem Want12.may {wl : List (List Int)} {s : S12} (h : Want12 wl s) (b : Int) : may12 s 1 1 b 2 = true ↔ 0 ≤ b ∧ b < 6 := by
  unfold may12
  rw [h.cap]
  simp only [Bool.true_and, Bool.and_eq_true, decide_eq_true_eq]
  rw [show hasR 7 2 = true by rfl]
  simp
theorem Want12.putV {wl : List (List Int)} {s : S12} (h : Want12 wl s) {ws : List Int} (hl : ws.length = 32) (b : Int) : putV12 s 1 1 b ws = 0 ↔ 0 ≤ b ∧ b < 6 := by
  unfold putV12
  rw [← h.may b]
  split
  · rename_i hm; simp [hm, hl]
  · rename_i hm; simp [hm]
theorem Want12.put {wl : List (List Int)} {s : S12} (hT : T12 s) (h : Want12 wl s) {ws : List Int} (hl : ws.length = 32) {b : Int} (hb : 0 ≤ b ∧ b < 6) : Want12 (wl.set b.toNat ws) (putS12 s 1 1 b ws) := by
  have hm := (h.may b).2 hb
  have e : putS12 s 1 1 b ws = { s with I := putL s.I b, N := putL s.N b, W := s.W.set b.toNat ws } := by unfold putS12; rw [if_pos ⟨hm, hl⟩]
  rw [e]
  have hW : b.toNat < s.W.length := by rw [hT.len, h.d]; omega
  have hwl : b.toNat < wl.length := by rw [h.len]; omega
  refine ⟨by rw [List.length_set]; exact h.len, h.d, h.cap, fun x hx => ?_, fun x hx hn => ?_⟩
  · have hx0 : 0 ≤ x := by
      rcases mem_putL.1 hx with rfl | hx
      · exact hb.1
      · exact (hT.inI x (hT.sub x hx)).1
    show row12 (s.W.set b.toNat ws) x = _
    rw [row12_set hb.1 hx0 hW, row12_set hb.1 hx0 hwl]
    split
    · rfl
    · rename_i hne
      rcases mem_putL.1 hx with hx | hx
      · exact absurd hx hne
      · exact h.new x hx
  · show row12 s.d x = _
    have hn : x ∉ putL s.N b := hn
    rw [row12_set hb.1 hx.1 hwl, if_neg fun e => hn (mem_putL.2 (.inl e))]
    exact h.old x hx fun hh => hn (mem_putL.2 (.inr hh))
theorem Want12.not {wl : List (List Int)} {s : S12} (h : Want12 wl s) {ws : List Int} {b : Int} (hb : ¬ (0 ≤ b ∧ b < 6)) : putS12 s 1 1 b ws = s := by
  unfold putS12
  rw [if_neg fun z => hb ((h.may b).1 z.1)]

/-! ### Who was given a right -/
def mayc (c : S8) (e sl b r : Int) : Bool := (getV8 c.L e sl).2 && (hasR (getV8 c.L e sl).1.r r && (decide ((getV8 c.L e sl).1.i ≤ b) && decide (b < (getV8 c.L e sl).1.i + (getV8 c.L e sl).1.n)))
theorem may12_c (s : S12) (e sl b r : Int) : may12 s e sl b r = mayc s.c e sl b r := rfl
def sh1 : S8 := (allocS12 (init12 4) 1 1 2).c
def sh2 (r : Int) : S8 := giveS8 sh1 1 1 2 r
theorem sh_all : ∀ r : Fin 8, 1 ≤ r.val → giveV8 sh1 1 1 2 (r.val : Int) = (1, 0) ∧ mayc (sh2 r.val) 1 1 2 2 = true ∧ mayc (sh2 r.val) 2 1 2 1 = (ibits .and .i64 (r.val : Int) 1 != 0) ∧ mayc (sh2 r.val) 2 1 1 2 = (ibits .and .i64 (r.val : Int) 2 != 0) ∧ (revokeV8 (sh2 r.val) 1 1).2 = 0 ∧ mayc (revokeS8 (sh2 r.val) 1 1) 2 1 2 1 = false := by decide +kernel
theorem sh_all' {r : Int} (h1 : 1 ≤ r) (h2 : r ≤ 7) : giveV8 sh1 1 1 2 r = (1, 0) ∧ mayc (sh2 r) 1 1 2 2 = true ∧ mayc (sh2 r) 2 1 2 1 = (ibits .and .i64 r 1 != 0) ∧ mayc (sh2 r) 2 1 1 2 = (ibits .and .i64 r 2 != 0) ∧ (revokeV8 (sh2 r) 1 1).2 = 0 ∧ mayc (revokeS8 (sh2 r) 1 1) 2 1 2 1 = false := by
  have := sh_all ⟨r.toNat, by omega⟩ (by simp only; omega)
  simp only at this
  rwa [show ((r.toNat : Nat) : Int) = r by omega] at this
theorem sh_bad {r : Int} (h : r < 1 ∨ 7 < r) : (giveV8 sh1 1 1 2 r).2 = 104 := by
  have hl : look8 sh1.L 1 1 = some ⟨1, 0, 1, 1, ⟨2, 1, 2, 7⟩⟩ := by kernel_rfl
  unfold giveV8
  rw [hl]
  simp only
  rw [if_neg (by unfold mayGive; omega)]

end Go.Proofs
