/-
  Rows of rows of words: a slice of slices, of which each row is replaced whole and never written into.
  janusref03: the reference's disk in the heap: new, put; its rows.
  'Ints' of the reference compares two rows.
-/
import Derived.Test.YthpcakhhemdibaaGreatMemA
import Derived.Test.YthpcakhhemdibaaGreatDenC
import Derived.Test.YthpcakhhemdibaaGreatK12A
import Derived.Test.YthpcakhhemdibaaGreatRes
set_option linter.unusedVariables false
set_option linter.unusedSimpArgs false
namespace Go.Proofs
open Go Go.Den

/-- The slices 'hs' read as the rows 'bs', which lie in the blocks 'Fs'. -/
def Rows3 (w : World) (hs : List Value) (bs : List (List Int)) (Fs : List Nat) : Prop :=
  hs.length = bs.length ∧ ∀ (i : Nat) (b : List Int), bs[i]? = some b → ∃ (a : Option Addr) (c : Nat) (G : List Nat), hs[i]? = some (.slice a b.length c) ∧ SlB w a b.length c 1 (u64s b) G ∧ ∀ x ∈ G, x ∈ Fs

theorem Rows3.keep {w w' : World} {hs : List Value} {bs : List (List Int)} {Fs : List Nat} (h : Rows3 w hs bs Fs) (hk : ∀ b ∈ Fs, w'.heap[b]? = w.heap[b]?) : Rows3 w' hs bs Fs :=
  ⟨h.1, fun i b hb => by
    obtain ⟨a, c, G, h1, h2, h3⟩ := h.2 i b hb
    exact ⟨a, c, G, h1, h2.keep (fun x hx => hk x (h3 x hx)), h3⟩⟩
theorem Rows3.cells {w : World} {hs : List Value} {bs : List (List Int)} {Fs : List Nat} (h : Rows3 w hs bs Fs) : ∀ v ∈ hs, isCell v = true := by
  intro v hv
  obtain ⟨i, hi⟩ := List.mem_iff_getElem?.1 hv
  have hlt : i < bs.length := by rw [← h.1]; exact (List.getElem?_eq_some_iff.1 hi).1
  obtain ⟨a, c, G, h1, _⟩ := h.2 i bs[i] (by simp [hlt])
  rw [hi] at h1
  cases h1
  rfl
theorem Rows3.snoc {w : World} {hs : List Value} {bs : List (List Int)} {Fs : List Nat} (h : Rows3 w hs bs Fs) {a : Option Addr} {c : Nat} {b : List Int} {G : List Nat} (hb : SlB w a b.length c 1 (u64s b) G) :
    Rows3 w (hs ++ [.slice a b.length c]) (bs ++ [b]) (Fs ++ G) := by
  refine ⟨by simp [h.1], fun i b' hb' => ?_⟩
  by_cases hi : i < bs.length
  · rw [List.getElem?_append_left hi] at hb'
    obtain ⟨a, c, G, h1, h2, h3⟩ := h.2 i b' hb'
    exact ⟨a, c, G, by rw [List.getElem?_append_left (by rw [h.1]; exact hi)]; exact h1, h2, fun x hx => by simp [h3 x hx]⟩
  · rw [List.getElem?_append_right (by omega)] at hb'
    have h0 : i - bs.length = 0 := by
      have := (List.getElem?_eq_some_iff.1 hb').1
      simp at this
      omega
    rw [h0] at hb'
    simp at hb'
    subst hb'
    exact ⟨a, c, G, by rw [List.getElem?_append_right (by rw [h.1]; omega), h.1, h0]; simp, hb, fun x hx => by simp [hx]⟩
theorem Rows3.set {w : World} {hs : List Value} {bs : List (List Int)} {Fs : List Nat} (h : Rows3 w hs bs Fs) (k : Nat) {a : Option Addr} {c : Nat} {b : List Int} {G : List Nat} (hb : SlB w a b.length c 1 (u64s b) G) :
    Rows3 w (hs.set k (.slice a b.length c)) (bs.set k b) (Fs ++ G) := by
  refine ⟨by simp [h.1], fun i b' hb' => ?_⟩
  rw [List.getElem?_set] at hb' ⊢
  by_cases hi : k = i
  · rw [if_pos hi] at hb' ⊢
    by_cases hlt : k < bs.length
    · rw [if_pos hlt] at hb'
      cases hb'
      exact ⟨a, c, G, by rw [if_pos (by rw [h.1]; exact hlt)], hb, fun x hx => by simp [hx]⟩
    · rw [if_neg hlt] at hb'; cases hb'
  · rw [if_neg hi] at hb' ⊢
    obtain ⟨a, c, G, h1, h2, h3⟩ := h.2 i b' hb'
    exact ⟨a, c, G, h1, h2, fun x hx => by simp [h3 x hx]⟩

/-- A slice of rows. -/
def RwP (w : World) (a : Option Addr) (n c : Nat) (bs : List (List Int)) (F : List Nat) : Prop :=
  ∃ (hs : List Value) (R Fs : List Nat), SlB w a n c 1 hs R ∧ Rows3 w hs bs Fs ∧ (∀ x ∈ R, x ∉ Fs) ∧ F = R ++ Fs ∧ ∀ x ∈ Fs, x < w.heap.size

section
variable {w w' : World} {a : Option Addr} {n c : Nat} {bs : List (List Int)} {F : List Nat}
theorem lt_keep {b : Nat} (h : b < w.heap.size) (hk : w'.heap[b]? = w.heap[b]?) : b < w'.heap.size := by
  rw [Array.getElem?_eq_getElem h] at hk
  exact (Array.getElem?_eq_some_iff.1 hk).1
theorem RwP.keep (h : RwP w a n c bs F) (hk : ∀ b ∈ F, w'.heap[b]? = w.heap[b]?) : RwP w' a n c bs F := by
  obtain ⟨hs, R, Fs, h1, h2, h3, rfl, h4⟩ := h
  exact ⟨hs, R, Fs, h1.keep fun b hb => hk b (by simp [hb]), h2.keep fun b hb => hk b (by simp [hb]), h3, rfl, fun x hx => lt_keep (h4 x hx) (hk x (by simp [hx]))⟩
theorem RwP.lt (h : RwP w a n c bs F) : ∀ b ∈ F, b < w.heap.size := by
  obtain ⟨hs, R, Fs, h1, h2, h3, rfl, h4⟩ := h
  intro b hb
  rcases List.mem_append.1 hb with hb | hb
  · exact h1.lt b hb
  · exact h4 b hb
theorem RwP.len (h : RwP w a n c bs F) : bs.length = n := by
  obtain ⟨hs, R, Fs, h1, h2, -⟩ := h
  have := h1.length
  rw [h2.1] at this
  omega
theorem RwP.nil (w : World) : RwP w none 0 0 [] [] := ⟨[], [], [], SlB.nil w 1, ⟨rfl, fun i b hb => by simp at hb⟩, by simp, rfl, by simp⟩

/-- A row, as it is read. -/
theorem RwP.row (h : RwP w a n c bs F) {k : Nat} {b : List Int} (hb : bs[k]? = some b) : ∃ (ad : Addr) (a2 : Option Addr) (c2 : Nat) (G : List Nat), a = some ad ∧ w.cell? (Addr.add ad k) = some (.slice a2 b.length c2) ∧ SlB w a2 b.length c2 1 (u64s b) G ∧ ∀ x ∈ G, x ∈ F := by
  obtain ⟨hs, R, Fs, h1, h2, h3, rfl, h4⟩ := h
  obtain ⟨a2, c2, G, g1, g2, g3⟩ := h2.2 k b hb
  have hk : k < hs.length := (List.getElem?_eq_some_iff.1 g1).1
  have hn : 0 < n := by have := h1.length; omega
  obtain ⟨bl, o, rfl, rfl⟩ := h1.isNone hn
  exact ⟨_, a2, c2, G, rfl, by rw [h1.cell hk]; exact g1, g2, fun x hx => by simp [g3 x hx]⟩

/-- A row is replaced. -/
theorem RwP.set (h : RwP w a n c bs F) {k : Nat} (hk : k < n) {a2 : Option Addr} {c2 : Nat} {b : List Int} {G : List Nat} (hb : SlB w a2 b.length c2 1 (u64s b) G) (hG : ∀ x ∈ G, x ∉ F) {ad : Addr} (ha : a = some ad) {K : World → Prop}
    (hK : ∀ w', RwP w' a n c (bs.set k b) (F ++ G) → Mod F w w' → K w') : Go.Den.stK (Addr.add ad k) [.slice a2 b.length c2] w K := by
  obtain ⟨hs, R, Fs, h1, h2, h3, rfl, h4⟩ := h
  have hl := h1.length
  obtain ⟨bl, o, rfl, rfl⟩ := h1.isNone (by omega)
  cases ha
  obtain ⟨arr, T, hbk, hcap, _⟩ := h1.block
  have hle := h1.le
  simp only [addr_add]
  refine stK_of hbk (by simp; omega) ?_
  simp only [splice_cons, splice_nil]
  have hset := h1.set hbk (j := k) (by omega) (.slice a2 b.length c2)
  have ne : ∀ x, x ≠ bl → ∀ o : Obj, (w.upd bl o).heap[x]? = w.heap[x]? := fun x hx o => upd_ne _ (Ne.symm hx)
  refine hK _ ⟨_, [bl], Fs ++ G, hset, (h2.set k hb).keep fun x hx => ne x ?_ _, fun x hx hx' => ?_, by simp, fun x hx => ?_⟩ ((Mod.refl _ w).upd (.inl (by simp)) _)
  · rintro rfl
    rcases List.mem_append.1 hx with hx | hx
    · exact h3 _ (by simp) hx
    · exact hG _ hx (by simp)
  · rcases List.mem_append.1 hx' with hx' | hx'
    · exact h3 x hx hx'
    · exact hG x hx' (by simp [List.mem_singleton.1 hx])
  · rw [upd_size]
    rcases List.mem_append.1 hx with hx | hx
    · exact h4 x hx
    · exact hb.lt x hx

/-- A row more. -/
theorem RwP.push (h : RwP w a n c bs F) {a2 : Option Addr} {c2 : Nat} {b : List Int} {G : List Nat} (hb : SlB w a2 b.length c2 1 (u64s b) G) (hG : ∀ x ∈ G, x ∉ F) {a3 : Option Addr} {c3 : Nat} {H : List Nat} (hx : SlB w a3 1 c3 1 [.slice a2 b.length c2] H)
    {t e bys : Nat} {z : Value} (hT : SlT Tryz.prog t e 1 bys z) (hbys : bys ≤ 24) (hn : n ≤ 100000) {ty : TypeId} {K : Value → World → Prop}
    (hK : ∀ A C w' F', RwP w' A (n + 1) C (bs ++ [b]) F' → Mod F w w' → (∀ x ∈ F', x ∈ F ∨ x ∈ G ∨ w.heap.size ≤ x) → K (.slice A (n + 1) C) w') :
    runK ((Builtin.append_ #[t, t] ty #[.slice a n c, .slice a3 1 c3]).run Tryz.prog w) K := by
  obtain ⟨hs, R, Fs, h1, h2, h3, rfl, h4⟩ := h
  have hle : (n + 1) * bys ≤ 100001 * 24 := Nat.mul_le_mul (by omega) hbys
  refine grow_rd_K hT (by decide) h1 hx.rd (by simp [isCell]) (by omega) (by omega) fun A C w' R' hs' hm ho => ?_
  have hgF : ∀ x ∈ G, x ∉ R := fun x hx hx' => hG x hx (by simp [hx'])
  refine hK A C w' (R' ++ (Fs ++ G)) ⟨_, R', Fs ++ G, hs', (h2.snoc hb).keep fun x hx => hm.keep x ?_ ?_, fun x hx hx' => ?_, rfl, fun x hx => Nat.lt_of_lt_of_le ?_ hm.size⟩ (hm.mono fun x hx => by simp [hx]) fun x hx => ?_
  · rcases List.mem_append.1 hx with hx | hx
    · exact h4 x hx
    · exact hb.lt x hx
  · rcases List.mem_append.1 hx with hx | hx
    · exact fun hx' => h3 x hx' hx
    · exact hgF x hx
  · have hlt : x < w.heap.size := by
      rcases List.mem_append.1 hx' with hx' | hx'
      · exact h4 x hx'
      · exact hb.lt x hx'
    rcases ho x hx with hh | hh
    · rcases List.mem_append.1 hx' with hx' | hx'
      · exact h3 x hh hx'
      · exact hgF x hx' hh
    · omega
  · rcases List.mem_append.1 hx with hx | hx
    · exact h4 x hx
    · exact hb.lt x hx
  · rcases List.mem_append.1 hx with hx | hx
    · rcases ho x hx with hh | hh
      · left; simp [hh]
      · right; right; exact hh
    · rcases List.mem_append.1 hx with hx | hx
      · left; simp [hx]
      · right; left; exact hx

/-- New rows, each nil. -/
theorem RwP.make {t e bys : Nat} (hT : SlT Tryz.prog t e 1 bys (.slice none 0 0)) (hb : bys ≤ 24) {n : Nat} (hn : n ≤ 100000) {K : Value → World → Prop}
    (hK : ∀ A C w' F', RwP w' A n C (List.replicate n []) F' → Beyond w.heap.size F' → Mod [] w w' → K (.slice A n C) w') : runK ((Instr.makeSlice t (.int .i64 (n : Int)) (.int .i64 (n : Int))).run Tryz.prog w) K := by
  have hle : n * bys ≤ 100000 * 24 := Nat.mul_le_mul hn hb
  refine makeSlice_K hT (Nat.le_refl _) (by omega) (by omega) fun w' hs hm => hK _ _ w' [w.heap.size] ⟨_, [w.heap.size], [], hs, ?_, by simp, by simp, by simp⟩ (by intro x hx; simp only [List.mem_singleton] at hx; omega) hm
  rw [zrow_one rfl, Nat.mul_one]
  refine ⟨by simp, fun i b hi => ?_⟩
  rw [List.getElem?_replicate] at hi
  split at hi
  · rename_i hlt
    cases hi
    exact ⟨none, 0, [], by simp [hlt], SlB.nil w' 1, by simp⟩
  · cases hi
end

def rwPart (a : Option Addr) (n c : Nat) (bs : List (List Int)) (F : List Nat) : Part := ⟨F, fun w => RwP w a n c bs F, fun h k => h.keep k, fun h => h.lt⟩

end Go.Proofs

set_option linter.unusedSimpArgs false
namespace Go.Proofs
open Go Go.Den

/-- The reference's disk at block 'p'. -/
def DiskR (w : World) (p : Nat) (bs : List (List Int)) (F : List Nat) : Prop :=
  ∃ (T : TypeId) (a : Option Addr) (c : Nat) (g u : Int) (Fr : List Nat), w.heap[p]? = some (.cells #[.slice a bs.length c, .int .i64 g, .int .i64 u] T (0, 0)) ∧ RwP w a bs.length c bs Fr ∧ p ∉ Fr ∧ F = p :: Fr ∧ All32 bs ∧ bs.length ≤ 1024

section
variable {w w' : World} {p : Nat} {bs : List (List Int)} {F : List Nat}
theorem DiskR.keep (h : DiskR w p bs F) (hk : ∀ b ∈ F, w'.heap[b]? = w.heap[b]?) : DiskR w' p bs F := by
  obtain ⟨T, a, c, g, u, Fr, h1, h2, h3, rfl, h4⟩ := h
  exact ⟨T, a, c, g, u, Fr, (hk p (by simp)).trans h1, h2.keep fun b hb => hk b (by simp [hb]), h3, rfl, h4⟩
theorem DiskR.lt (h : DiskR w p bs F) : ∀ b ∈ F, b < w.heap.size := by
  obtain ⟨T, a, c, g, u, Fr, h1, h2, h3, rfl, h4⟩ := h
  intro b hb
  rcases List.mem_cons.1 hb with rfl | hb
  · exact lt_of_get h1
  · exact h2.lt b hb
theorem DiskR.all (h : DiskR w p bs F) : All32 bs ∧ bs.length ≤ 1024 := by
  obtain ⟨T, a, c, g, u, Fr, h1, h2, h3, rfl, h4⟩ := h
  exact h4
/-- The disk's rows, as they are read. -/
theorem DiskR.ptr (h : DiskR w p bs F) : ∃ (a : Option Addr) (c : Nat), w.cell? ⟨p, 0, none⟩ = some (.slice a bs.length c) ∧ ∀ (k : Nat) (b : List Int), bs[k]? = some b → ∃ (ad : Addr) (a2 : Option Addr) (c2 : Nat) (G : List Nat), a = some ad ∧ w.cell? (Addr.add ad k) = some (.slice a2 b.length c2) ∧ SlB w a2 b.length c2 1 (u64s b) G ∧ ∀ x ∈ G, x ∈ F := by
  obtain ⟨T, a, c, g, u, Fr, h1, h2, h3, rfl, h4⟩ := h
  refine ⟨a, c, by rw [cell_get h1]; rfl, fun k b hb => ?_⟩
  obtain ⟨ad, a2, c2, G, g1, g2, g3, g4⟩ := h2.row hb
  exact ⟨ad, a2, c2, G, g1, g2, g3, fun x hx => by simp [g4 x hx]⟩

end

theorem ref_new (n : Int) (w : World) {K : Value → World → Prop} (h0 : n < 1 ∨ 1024 < n → K (.pointer none) w)
    (h1 : ∀ (k p : Nat) (F : List Nat) (w' : World), n = k → 1 ≤ k → k ≤ 1024 → DiskR w' p (List.replicate k (List.replicate 32 0)) F → Mod [] w w' → Beyond w.heap.size F → K (.pointer (some ⟨p, 0, none⟩)) w') :
    CallsR Tryz.prog F_janusref03_New #[.int .i64 n] w K := by
  apply R_janusref03_New_ok
  simp only [R_janusref03_New, spl_decide]
  refine ⟨fun h => h0 (.inl h), fun hge => ⟨fun h => h0 (.inr h), fun hle => ?_⟩⟩
  obtain ⟨N, rfl⟩ := nat_of (by omega : 0 ≤ n)
  have s0 := (Sep.nil (Mod.refl [] w)).push (rwPart none 0 0 [] []) (Mod.refl [] w) (RwP.nil w) (by intro x hx; cases hx)
  refine s0.new fun b w1 s1 m1 hb => ?_
  refine ⟨fun m i wi => ∃ (k : Nat) (a : Option Addr) (c : Nat) (Fr : List Nat), i = k ∧ k ≤ N ∧ m = N - k ∧ Sep w wi [blk b (.cells #[.slice a k c, .int .i64 0, .int .i64 0] _ (0, 0)), rwPart a k c (List.replicate k (List.replicate 32 0)) Fr], ⟨N, 0, none, 0, [], rfl, by omega, rfl, s1⟩, ?_⟩
  rintro m i - w4 ⟨k, a, c, Fr, rfl, hk, rfl, s4⟩
  refine ⟨fun hlt => ?_, fun hge' => ?_⟩
  · rw [drK_eq]
    have s5 := s4.mod0 ((Mod.refl [] w4).drew)
    generalize w4.drew = w5 at s5 ⊢
    have hb5 : w5.heap[b]? = some _ := s5.nth 0 rfl
    refine ⟨[b], by simp, a, k, c, s5.cell 0 rfl rfl, makeSlice_K slT_u64 (l := 32) (c := 32) (Nat.le_refl _) (by omega) (by omega) fun w6 hs6 m6 => ⟨_, _, _, rfl, keepB1 (m6.keep b (lt_of_get hb5) (by simp)), ?_⟩⟩
    rw [zrow_one rfl, Nat.mul_one, ← u64s_rep] at hs6
    have s6 := s5.push (sl (some ⟨w5.heap.size, 0, none⟩) 32 32 1 (u64s (List.replicate 32 0)) [w5.heap.size]) m6 hs6 (by intro x hx; have hx : x ∈ [w5.heap.size] := hx; simp only [List.mem_singleton] at hx; omega)
    refine s6.new fun b7 w7 s7 m7 hb7 => ⟨keepB1 ((m6.trans' m7).keep b (lt_of_get hb5) (by simp)), ?_⟩
    have h7 : RwP w7 a k c (List.replicate k (List.replicate 32 0)) Fr := s7.nth 3 rfl
    have hrow7 : SlB w7 (some ⟨w5.heap.size, 0, none⟩) 32 32 1 (u64s (List.replicate 32 0)) [w5.heap.size] := s7.nth 1 rfl
    have hx7 : SlB w7 (some ⟨b7, 0, none⟩) 1 1 1 [.slice (some ⟨w5.heap.size, 0, none⟩) 32 32] [b7] := SlB.of (s7.nth 0 rfl) rfl
    refine h7.push (b := List.replicate 32 (0 : Int)) (G := [w5.heap.size]) (a2 := some ⟨w5.heap.size, 0, none⟩) (c2 := 32) (by rw [List.length_replicate]; exact hrow7) (fun x hx hx' => s7.dj 1 3 (by decide) rfl rfl x hx hx') (by rw [List.length_replicate]; exact hx7) slT_Sl_u64 (by decide) (by omega) fun A C w8 F' h8 m8 o8 => ⟨_, _, _, rfl, ?_⟩
    have m58 : Mod Fr w5 w8 := ((m6.trans' m7).of0).trans' m8
    have m57 := (m6.trans' m7).size
    rw [← List.replicate_succ'] at h8
    have s8 := s5.step 1 rfl (rwPart A (k + 1) C (List.replicate (k + 1) (List.replicate 32 0)) F') h8 m58 (fun x hx => by
      rcases o8 x hx with hh | hh | hh
      · exact .inl hh
      · right; simp only [List.mem_singleton] at hh; omega
      · right; omega)
    refine s8.st 0 rfl (by simp) fun w9 s9 m9 => ⟨N - (k + 1), by omega, k + 1, A, C, F', by rw [w64 (by omega) (by omega)]; omega, by omega, rfl, ?_⟩
    simpa using s9
  · obtain rfl : k = N := by omega
    have g0 : w4.heap[b]? = some _ := s4.nth 0 rfl
    have g1 : RwP w4 a k c (List.replicate k (List.replicate 32 0)) Fr := s4.nth 1 rfl
    refine h1 k b (b :: Fr) w4 rfl (by omega) (by omega) ⟨_, a, c, 0, 0, Fr, by rw [List.length_replicate]; exact g0, by rw [List.length_replicate]; exact g1, fun hh => s4.dj 0 1 (by decide) rfl rfl b (by simp [blk]) hh, rfl, All32.rep k, by simp; omega⟩ s4.mod fun x hx => ?_
    rcases List.mem_cons.1 hx with rfl | hx
    · exact s4.bey 0 rfl x (by simp [blk])
    · exact s4.bey 1 rfl x hx

def diskrPart (p : Nat) (bs : List (List Int)) (F : List Nat) : Part := ⟨F, fun w => DiskR w p bs F, fun h k => h.keep k, fun h => h.lt⟩

end Go.Proofs

set_option linter.unusedSimpArgs false
namespace Go.Proofs
open Go Go.Den

end Go.Proofs
