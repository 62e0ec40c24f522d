/-
  Rows of words: lists that are cut into parts of 32, and their cells.
  Memory: contracts of the program's memory.
  Memory: a frame's words, handed out.
  Tables: contracts of the program's page table.
-/
import Derived.Test.YthpcakhhemdibaaGreatDenC
import Derived.Test.YthpcakhhemdibaaGreatRes
set_option linter.unusedVariables false
set_option linter.unusedSimpArgs false
namespace Go.Proofs
open Go Go.Den

def All32 (bs : List (List Int)) : Prop := ∀ b ∈ bs, b.length = 32
theorem All32.set {bs : List (List Int)} (h : All32 bs) (k : Nat) {ws : List Int} (hw : ws.length = 32) : All32 (bs.set k ws) := by
  intro b hb
  rcases List.mem_or_eq_of_mem_set hb with hb | rfl
  · exact h b hb
  · exact hw
theorem All32.get {bs : List (List Int)} (h : All32 bs) {k : Nat} {b : List Int} (hk : bs[k]? = some b) : b.length = 32 := h b (List.mem_of_getElem? hk)
theorem All32.rep (n : Nat) : All32 (List.replicate n (List.replicate 32 0)) := by
  intro b hb
  rw [List.eq_of_mem_replicate hb]; simp

theorem flatten_length {bs : List (List Int)} (h : All32 bs) : bs.flatten.length = bs.length * 32 := by
  induction bs with
  | nil => rfl
  | cons x bs ih =>
    have := ih (fun b hb => h b (by simp [hb]))
    have hx := h x (by simp)
    rw [List.flatten_cons, List.length_append, List.length_cons, this, hx]; omega
theorem flatten_take {bs : List (List Int)} (h : All32 bs) : ∀ (k : Nat) (b : List Int), bs[k]? = some b → (bs.flatten.drop (k * 32)).take 32 = b := by
  induction bs with
  | nil => intro k b hk; simp at hk
  | cons x bs ih =>
    intro k b hk
    have hx : x.length = 32 := h x (by simp)
    cases k with
    | zero => simp at hk; subst hk; simp [hx]
    | succ k =>
      have := ih (fun b hb => h b (by simp [hb])) k b (by simpa using hk)
      rw [List.flatten_cons, show (k + 1) * 32 = x.length + k * 32 by omega, List.drop_append, List.drop_eq_nil_of_le (by omega), List.nil_append, show x.length + k * 32 - x.length = k * 32 by omega]
      exact this
theorem flatten_get {bs : List (List Int)} (h : All32 bs) {k : Nat} {b : List Int} (hk : bs[k]? = some b) {j : Nat} (hj : j < 32) : bs.flatten[k * 32 + j]? = b[j]? := by
  have := flatten_take h k b hk
  rw [← this, List.getElem?_take, if_pos hj, List.getElem?_drop]
theorem flatten_set {bs : List (List Int)} (h : All32 bs) {ws : List Int} (hw : ws.length = 32) : ∀ (k : Nat), k < bs.length → (bs.set k ws).flatten = bs.flatten.take (k * 32) ++ ws ++ bs.flatten.drop (k * 32 + 32) := by
  induction bs with
  | nil => intro k hk; simp at hk
  | cons x bs ih =>
    intro k hk
    have hx : x.length = 32 := h x (by simp)
    cases k with
    | zero => simp [List.drop_append, hx, List.drop_eq_nil_of_le]
    | succ k =>
      have := ih (fun b hb => h b (by simp [hb])) k (by simpa using hk)
      have e1 : (x ++ bs.flatten).take ((k + 1) * 32) = x ++ bs.flatten.take (k * 32) := by
        rw [List.take_append, List.take_of_length_le (by omega), hx, show (k + 1) * 32 - 32 = k * 32 by omega]
      have e2 : (x ++ bs.flatten).drop ((k + 1) * 32 + 32) = bs.flatten.drop (k * 32 + 32) := by
        rw [List.drop_append, List.drop_eq_nil_of_le (by omega), hx, show (k + 1) * 32 + 32 - 32 = k * 32 + 32 by omega, List.nil_append]
      rw [List.set_cons_succ, List.flatten_cons, this, List.flatten_cons, e1, e2]
      simp
theorem flatten_set1 {bs : List (List Int)} (h : All32 bs) (v : Int) : ∀ (k : Nat) (b : List Int) (j : Nat), bs[k]? = some b → j < 32 → bs.flatten.set (k * 32 + j) v = (bs.set k (b.set j v)).flatten := by
  induction bs with
  | nil => intro k b j hk; simp at hk
  | cons x bs ih =>
    intro k b j hk hj
    have hx : x.length = 32 := h x (by simp)
    cases k with
    | zero =>
      simp only [List.getElem?_cons_zero, Option.some.injEq] at hk
      subst hk
      rw [List.flatten_cons, List.set_append_left _ _ (by omega)]
      simp
    | succ k =>
      have := ih (fun b hb => h b (by simp [hb])) k b j (by simpa using hk) hj
      rw [List.flatten_cons, List.set_append_right _ _ (by omega), hx, show (k + 1) * 32 + j - 32 = k * 32 + j by omega, this, List.set_cons_succ, List.flatten_cons]

theorem zrow_const {z : Value} {x : Value} {m : Nat} (h : z.cells.toList = List.replicate m x) (hm : 0 < m) (n : Nat) : zrow z n = List.replicate n x := by
  unfold zrow
  apply List.ext_getElem?
  intro i
  rw [h, List.getElem?_map, List.getElem?_replicate]
  by_cases hi : i < n
  · rw [if_pos hi, List.getElem?_range hi, Option.map_some, List.length_replicate]
    have : i % m < m := Nat.mod_lt _ hm
    simp [this]
  · rw [if_neg hi, List.getElem?_eq_none (by simpa using hi)]
    rfl

/-- A part of a row is a row. -/
theorem SlB.sub {w : World} {q o l c sz : Nat} {vs : List Value} {F : List Nat} (h : SlB w (some ⟨q, o, none⟩) l c sz vs F) {j m : Nat} (hj : j + m ≤ vs.length) : SlB w (some ⟨q, o + j, none⟩) m m 1 ((vs.drop j).take m) [q] := by
  rcases h with ⟨h, _⟩ | ⟨b, o', arr, T, ha, rfl, hb, hlc, hcap, hlen, hget⟩
  · cases h
  · cases ha
    have : l * sz ≤ c * sz := Nat.mul_le_mul_right _ hlc
    refine .inr ⟨q, o + j, arr, T, rfl, rfl, hb, Nat.le_refl _, by omega, by simp; omega, ?_⟩
    intro i hi
    simp at hi
    rw [List.getElem?_take, if_pos (by omega), List.getElem?_drop, Nat.add_assoc]
    exact hget (j + i) (by omega)

end Go.Proofs

set_option linter.unusedSimpArgs false
namespace Go.Proofs
open Go Go.Den

/-- The program's memory at block 'p': the frames 'bs'. -/
def MemP (w : World) (p : Nat) (bs : List (List Int)) (F : List Nat) : Prop :=
  ∃ (q : Nat) (T : TypeId), w.heap[p]? = some (.cells #[.slice (some ⟨q, 0, none⟩) bs.length bs.length] T (0, 0)) ∧
    SlB w (some ⟨q, 0, none⟩) bs.length bs.length 32 (u64s bs.flatten) [q] ∧ F = [p, q] ∧ p ≠ q ∧ All32 bs ∧ bs.length ≤ 1024

theorem MemP.keep {w w' : World} {p : Nat} {bs : List (List Int)} {F : List Nat} (h : MemP w p bs F) (hk : ∀ b ∈ F, w'.heap[b]? = w.heap[b]?) : MemP w' p bs F := by
  obtain ⟨q, T, h1, h2, rfl, h3⟩ := h
  exact ⟨q, T, (hk p (by simp)).trans h1, h2.keep (fun b hb => hk b (by simp at hb; simp [hb])), rfl, h3⟩
theorem MemP.lt {w : World} {p : Nat} {bs : List (List Int)} {F : List Nat} (h : MemP w p bs F) : ∀ b ∈ F, b < w.heap.size := by
  obtain ⟨q, T, h1, h2, rfl, h3⟩ := h
  intro b hb
  simp at hb
  rcases hb with rfl | rfl
  · exact lt_of_get h1
  · exact h2.lt _ (by simp)
theorem MemP.all {w : World} {p : Nat} {bs : List (List Int)} {F : List Nat} (h : MemP w p bs F) : All32 bs := by
  obtain ⟨q, T, h1, h2, rfl, h3, h4, h5⟩ := h
  exact h4

theorem mem_at {w : World} {p : Nat} {bs : List (List Int)} {F : List Nat} (h : MemP w p bs F) (n : Int) {K : Value → World → Prop} (h0 : n < 0 ∨ (bs.length : Int) ≤ n → K (.pointer none) w)
    (h1 : ∀ (k q : Nat) (b : List Int), n = k → bs[k]? = some b → F = [p, q] → K (.pointer (some ⟨q, k * 32, none⟩)) w) : CallsR Tryz.prog F_mem_Mem_at #[.pointer (some ⟨p, 0, none⟩), .int .i64 n] w K := by
  apply R_mem_Mem_at_ok
  obtain ⟨q, T, hp, hs, rfl, hpq, hb, hn⟩ := h
  simp only [R_mem_Mem_at, Option.isNone_some, spl_false, spl_decide, nilK_some, addr_add, cell_get hp]
  refine ⟨fun h => h0 (.inl h), fun hge => ⟨_, _, _, rfl, fun h => h0 (.inr h), fun hlt => ⟨_, _, _, rfl, ⟨by omega, by omega⟩, ?_⟩⟩⟩
  obtain ⟨k, rfl⟩ := nat_of (by omega : 0 ≤ n)
  have hk : k < bs.length := by omega
  have := h1 k q bs[k] rfl (List.getElem?_eq_getElem hk) rfl
  simpa [addr_add] using this

theorem mem_word {w : World} {p : Nat} {bs : List (List Int)} {F : List Nat} (h : MemP w p bs F) (n wd : Int) {K : Value → World → Prop} (h0 : n < 0 ∨ (bs.length : Int) ≤ n ∨ wd < 0 ∨ 32 ≤ wd → K (.pointer none) w)
    (h1 : ∀ (k j q : Nat) (b : List Int), n = k → wd = j → j < 32 → bs[k]? = some b → F = [p, q] → K (.pointer (some ⟨q, k * 32 + j, none⟩)) w) : CallsR Tryz.prog F_mem_Mem_word #[.pointer (some ⟨p, 0, none⟩), .int .i64 n, .int .i64 wd] w K := by
  apply R_mem_Mem_word_ok
  refine mem_at h n (fun hb => ⟨_, rfl, ?_⟩) (fun k q b hn hb hF => ⟨_, rfl, ?_⟩)
  · simpa using h0 (by omega)
  · simp only [Option.isNone_some, spl_false, spl_decide, nilK_some, addr_add]
    refine ⟨fun h => h0 (by omega), fun h => ⟨fun h => h0 (by omega), fun h' => ⟨⟨by omega, by omega⟩, ?_⟩⟩⟩
    obtain ⟨j, rfl⟩ := nat_of (by omega : 0 ≤ wd)
    exact h1 k j q b hn rfl (by omega) hb hF

theorem mem_read {w : World} {p : Nat} {bs : List (List Int)} {F : List Nat} (h : MemP w p bs F) (n wd : Int) {K : Value → World → Prop} (h0 : n < 0 ∨ (bs.length : Int) ≤ n ∨ wd < 0 ∨ 32 ≤ wd → K (.tuple #[.int .u64 0, .int .i64 101]) w)
    (h1 : ∀ (k j : Nat) (b : List Int) (x : Int), n = k → wd = j → j < 32 → bs[k]? = some b → b[j]? = some x → K (.tuple #[.int .u64 x, .int .i64 0]) w) : CallsR Tryz.prog F_mem_Mem_Read #[.pointer (some ⟨p, 0, none⟩), .int .i64 n, .int .i64 wd] w K := by
  apply R_mem_Mem_Read_ok
  refine mem_word h n wd (fun hb => ⟨_, rfl, ?_⟩) (fun k j q b hn hwd hj hb hF => ⟨_, rfl, ?_⟩)
  · simpa using h0 hb
  · obtain ⟨q', T, hp, hs, rfl, hpq, hb32, hn'⟩ := h
    simp only [List.cons.injEq, true_and, and_true] at hF
    subst hF
    have hbl := hb32.get hb
    have hk : k < bs.length := (List.getElem?_eq_some_iff.1 hb).1
    have hx : b[j]? = some b[j] := List.getElem?_eq_getElem (by omega)
    have c := hs.cell (i := k * 32 + j) (by rw [u64s_length, flatten_length hb32]; omega)
    rw [u64s_get, flatten_get hb32 hb hj, hx] at c
    simp only [addr_add, Nat.zero_add, Option.map_some] at c
    simp only [Option.isNone_some, spl_false, nilK_some]
    exact ⟨_, c, h1 k j b _ hn hwd hj hb hx⟩

theorem mem_write {w : World} {p : Nat} {bs : List (List Int)} {F : List Nat} (h : MemP w p bs F) (n wd v : Int) {K : Value → World → Prop} (h0 : n < 0 ∨ (bs.length : Int) ≤ n ∨ wd < 0 ∨ 32 ≤ wd → K (.int .i64 101) w)
    (h1 : ∀ (k j : Nat) (b : List Int) (w' : World), n = k → wd = j → j < 32 → bs[k]? = some b → MemP w' p (bs.set k (b.set j v)) F → Mod F w w' → K (.int .i64 0) w') : CallsR Tryz.prog F_mem_Mem_Write #[.pointer (some ⟨p, 0, none⟩), .int .i64 n, .int .i64 wd, .int .u64 v] w K := by
  apply R_mem_Mem_Write_ok
  refine mem_word h n wd (fun hb => ⟨_, rfl, ?_⟩) (fun k j q b hn hwd hj hb hF => ⟨_, rfl, ?_⟩)
  · simpa using h0 hb
  · obtain ⟨q', T, hp, hs, rfl, hpq, hb32, hn'⟩ := h
    simp only [List.cons.injEq, true_and, and_true] at hF
    subst hF
    have hbl := hb32.get hb
    have hk : k < bs.length := (List.getElem?_eq_some_iff.1 hb).1
    have hfl := flatten_length hb32
    obtain ⟨arr, T2, hq, hcap, _⟩ := hs.block
    simp only [Option.isNone_some, spl_false, nilK_some]
    refine stK_of hq (by simp; omega) ?_
    simp only [splice_cons, splice_nil]
    have hset := hs.set hq (j := k * 32 + j) (by rw [u64s_length, hfl]; omega) (.int .u64 v)
    rw [u64s_set, flatten_set1 hb32 v k b j hb hj, Nat.zero_add] at hset
    refine h1 k j b _ hn hwd hj hb ⟨q', T, ?_, ?_, rfl, hpq, hb32.set k (by simp [hbl]), by simpa using hn'⟩ ((Mod.refl _ _).upd (.inl (by simp)) _)
    · rw [upd_ne _ (Ne.symm hpq), List.length_set]; exact hp
    · rw [List.length_set]; exact hset

theorem mem_copy {w : World} {p : Nat} {bs : List (List Int)} {F : List Nat} (h : MemP w p bs F) (to_ from_ : Int) {K : Value → World → Prop} (h0 : to_ < 0 ∨ (bs.length : Int) ≤ to_ ∨ from_ < 0 ∨ (bs.length : Int) ≤ from_ → K (.int .i64 101) w)
    (h1 : ∀ (t f : Nat) (b : List Int) (w' : World), to_ = t → from_ = f → t < bs.length → bs[f]? = some b → MemP w' p (bs.set t b) F → Mod F w w' → K (.int .i64 0) w') : CallsR Tryz.prog F_mem_Mem_Copy #[.pointer (some ⟨p, 0, none⟩), .int .i64 to_, .int .i64 from_] w K := by
  apply R_mem_Mem_Copy_ok
  refine mem_at h to_ (fun hb => ⟨_, rfl, mem_at h from_ (fun _ => ⟨_, rfl, ?_⟩) (fun f q b hf hb' hF => ⟨_, rfl, ?_⟩)⟩) (fun t q bt ht hbt hF => ⟨_, rfl, mem_at h from_ (fun _ => ⟨_, rfl, ?_⟩) (fun f q2 b hf hb hF2 => ⟨_, rfl, ?_⟩)⟩)
  · simpa using h0 (by omega)
  · simpa using h0 (by omega)
  · simpa using h0 (by omega)
  · obtain ⟨q', T, hp, hs, rfl, hpq, hb32, hn'⟩ := h
    simp only [List.cons.injEq, true_and, and_true] at hF hF2
    subst hF
    subst hF2
    have hbl := hb32.get hb
    have hkt : t < bs.length := (List.getElem?_eq_some_iff.1 hbt).1
    have hkf : f < bs.length := (List.getElem?_eq_some_iff.1 hb).1
    have hfl := flatten_length hb32
    obtain ⟨arr, T2, hq, hcap, _⟩ := hs.block
    have hs' : SlB w.drew (some ⟨q', 0, none⟩) bs.length bs.length 32 (u64s bs.flatten) [q'] := hs.keep fun _ _ => rfl
    have hsrc := SlB.sub hs' (j := f * 32) (m := 32) (by rw [u64s_length, hfl]; omega)
    have hv : ((u64s bs.flatten).drop (f * 32)).take 32 = u64s b := by simp only [u64s, ← List.map_drop, ← List.map_take, flatten_take hb32 f b hb]
    rw [hv, Nat.zero_add] at hsrc
    simp only [Option.isNone_some, spl_false, nilK_some, drK_eq, slK, slA, sOK, sM]
    refine ⟨trivial, fun _ => rfl, trivial, trivial, ⟨trivial, fun _ => rfl, trivial, trivial, ?_⟩⟩
    simp only [show ¬ ((32 : Nat) = 0) by decide, if_false, Option.map_some, addr_add, Nat.zero_mul, Nat.add_zero, Nat.sub_zero]
    have hrun := fun (t2 ty : TypeId) => copy_at (t2 := t2) slT_u64 (w := w.drew) hq (o := t * 32) (l := 32) (c := 32) (by omega) hsrc (u64s_cell b) ty
    refine ⟨_, _, hrun _ _, _, rfl, ?_⟩
    have e : (u64s b).take (Nat.min 32 32 * 1) = u64s b := List.take_of_length_le (by simp [u64s, hbl])
    rw [e]
    have hsp := hs'.splice hq (j := t * 32) (us := u64s b) (by rw [u64s_length, u64s_length, hfl]; omega)
    simp only [Nat.zero_add, u64s_length, hbl] at hsp
    refine h1 t f b _ ht hf hkt hb ⟨q', T, ?_, ?_, rfl, hpq, hb32.set t hbl, by simpa using hn'⟩ ((Mod.refl _ w).drew.upd (.inl (by simp)) _)
    · rw [upd_ne _ (Ne.symm hpq), List.length_set]; exact hp
    · rw [List.length_set, flatten_set hb32 hbl t hkt]
      simpa [u64s] using hsp

theorem mem_zero {w : World} {p : Nat} {bs : List (List Int)} {F : List Nat} (h : MemP w p bs F) (n : Int) {K : Value → World → Prop} (h0 : n < 0 ∨ (bs.length : Int) ≤ n → K (.int .i64 101) w)
    (h1 : ∀ (k : Nat) (w' : World), n = k → k < bs.length → MemP w' p (bs.set k (List.replicate 32 0)) F → Mod F w w' → K (.int .i64 0) w') : CallsR Tryz.prog F_mem_Mem_Zero #[.pointer (some ⟨p, 0, none⟩), .int .i64 n] w K := by
  apply R_mem_Mem_Zero_ok
  refine mem_at h n (fun hb => ⟨_, rfl, ?_⟩) (fun k q b hn hb hF => ⟨_, rfl, ?_⟩)
  · simpa using h0 hb
  · obtain ⟨q', T, hp, hs, rfl, hpq, hb32, hn'⟩ := h
    simp only [List.cons.injEq, true_and, and_true] at hF
    subst hF
    have hk : k < bs.length := (List.getElem?_eq_some_iff.1 hb).1
    have hfl := flatten_length hb32
    obtain ⟨arr, T2, hq, hcap, _⟩ := hs.block
    simp only [Option.isNone_some, spl_false, nilK_some]
    refine ⟨⟨by decide, by decide⟩, stK_of hq (by simp; omega) ?_⟩
    have hsp := hs.splice hq (j := k * 32) (us := u64s (List.replicate 32 0)) (by rw [u64s_length, u64s_length, hfl]; simp; omega)
    rw [Nat.zero_add] at hsp
    refine h1 k _ hn hk ⟨q', T, ?_, ?_, rfl, hpq, hb32.set k (by simp), by simpa using hn'⟩ ((Mod.refl _ _).upd (.inl (by simp)) _)
    · rw [upd_ne _ (Ne.symm hpq), List.length_set]; exact hp
    · rw [List.length_set, flatten_set hb32 (by simp) k hk]
      simpa [u64s] using hsp

theorem mem_frames {w : World} {p : Nat} {bs : List (List Int)} {F : List Nat} (h : MemP w p bs F) {K : Value → World → Prop} (h1 : K (.int .i64 (bs.length : Int)) w) : CallsR Tryz.prog F_mem_Mem_Frames #[.pointer (some ⟨p, 0, none⟩)] w K := by
  apply R_mem_Mem_Frames_ok
  obtain ⟨q', T, hp, _⟩ := h
  simp only [R_mem_Mem_Frames, Option.isNone_some, spl_false, nilK_some, addr_add, cell_get hp]
  exact ⟨_, _, _, rfl, h1⟩

theorem mem_new (n : Int) (w : World) {K : Value → World → Prop} (h0 : n < 1 ∨ 1024 < n → K (.pointer none) w)
    (h1 : ∀ (k p : Nat) (F : List Nat) (w' : World), n = k → 1 ≤ k → k ≤ 1024 → MemP w' p (List.replicate k (List.replicate 32 0)) F → Mod [] w w' → (∀ b ∈ F, w.heap.size ≤ b) → K (.pointer (some ⟨p, 0, none⟩)) w') :
    CallsR Tryz.prog F_mem_New #[.int .i64 n] w K := by
  apply R_mem_New_ok
  simp only [R_mem_New, spl_decide]
  refine ⟨fun h => h0 (.inl h), fun hge => ⟨fun h => h0 (.inr h), fun hle => ?_⟩⟩
  obtain ⟨k, rfl⟩ := nat_of (by omega : 0 ≤ n)
  obtain ⟨w1, hr, hs, hm⟩ := makeSlice_run slT_mem_frame w (k := .i64) (k' := .i64) (l := k) (c := k) (Nat.le_refl _) (by omega) (by omega)
  refine ⟨_, _, hr, _, _, _, rfl, ?_⟩
  simp only [newK_eq]
  have e2 : ∀ z : Value, z.cells.toList = List.replicate 32 (.int .u64 0) → zrow z (k * 32) = u64s (List.replicate k (List.replicate 32 (0 : Int))).flatten := fun z hz => by
    rw [zrow_const hz (by decide), List.flatten_replicate_replicate, u64s_rep]
  rw [e2] at hs
  rotate_left
  · kernel_rfl
  have hlt := hs.lt w.heap.size (by simp)
  refine h1 k w1.heap.size [w1.heap.size, w.heap.size] _ rfl (by omega) (by omega) ⟨w.heap.size, _, by simpa using alloc_new _ _, ?_, rfl, by omega, All32.rep k, by simp; omega⟩ (hm.alloc _) ?_
  · have := fun T : TypeId => hs.alloc (.cells #[.slice (some ⟨w.heap.size, 0, none⟩) k k] T)
    simpa using this _
  · intro b hb
    simp at hb
    have := hm.size
    omega

end Go.Proofs

set_option linter.unusedSimpArgs false
namespace Go.Proofs
open Go Go.Den

theorem mem_page {w : World} {p : Nat} {bs : List (List Int)} {F : List Nat} (h : MemP w p bs F) (n : Int) {K : Value → World → Prop} (h0 : n < 0 ∨ (bs.length : Int) ≤ n → K (.slice none 0 0) w)
    (h1 : ∀ (k : Nat) (b : List Int) (a : Option Addr) (G : List Nat) (w' : World), n = k → bs[k]? = some b → SlB w' a 32 32 1 (u64s b) G → (∀ x ∈ G, w.heap.size ≤ x) → Mod [] w w' → K (.slice a 32 32) w') : CallsR Tryz.prog F_mem_Mem_Page #[.pointer (some ⟨p, 0, none⟩), .int .i64 n] w K := by
  apply R_mem_Mem_Page_ok
  refine mem_at h n (fun hb => ⟨_, rfl, ?_⟩) (fun k q b hn hb hF => ⟨_, rfl, ?_⟩)
  · simpa using h0 hb
  · obtain ⟨q', T, hp, hs, rfl, hpq, hb32, hn'⟩ := h
    simp only [List.cons.injEq, true_and, and_true] at hF
    subst hF
    have hbl := hb32.get hb
    have hk : k < bs.length := (List.getElem?_eq_some_iff.1 hb).1
    have hfl := flatten_length hb32
    obtain ⟨w1, hr, hs1, hm1⟩ := makeSlice_run slT_u64 w (k := .i64) (k' := .i64) (l := 32) (c := 32) (Nat.le_refl _) (by omega) (by omega)
    simp only [Option.isNone_some, spl_false, nilK_some, slK, slA, sOK, sM]
    refine ⟨_, _, hr, _, _, _, rfl, trivial, fun _ => rfl, trivial, trivial, ?_⟩
    simp only [show ¬ ((32 : Nat) = 0) by decide, if_false, Option.map_some, addr_add, Nat.zero_mul, Nat.add_zero, Nat.sub_zero]
    have hsrc := SlB.sub (hs.mod hm1 (by simp)) (j := k * 32) (m := 32) (by rw [u64s_length, hfl]; omega)
    have hv : ((u64s bs.flatten).drop (k * 32)).take 32 = u64s b := by simp only [u64s, ← List.map_drop, ← List.map_take, flatten_take hb32 k b hb]
    rw [hv, Nat.zero_add] at hsrc
    refine copy_K slT_u64 hs1 hsrc (u64s_cell b) fun w2 hs2 hm2 => ?_
    refine ⟨_, rfl, h1 k b (some ⟨w.heap.size, 0, none⟩) [w.heap.size] w2 hn hb ?_ (fun x hx => by simp only [List.mem_singleton] at hx; omega) (hm1.trans hm2 fun b hb hlt => by simp only [List.mem_singleton] at hb; omega)⟩
    have e1 : (u64s b).take (Nat.min 32 32 * 1) = u64s b := List.take_of_length_le (by simp [u64s, hbl])
    have e2 : (zrow (.int .u64 0) (32 * 1)).drop (Nat.min 32 32 * 1) = [] := by rw [zrow_one rfl]; simp
    rw [e1, e2, List.append_nil] at hs2
    exact hs2

end Go.Proofs

set_option linter.unusedSimpArgs false
namespace Go.Proofs
open Go Go.Den

/-- A table: of each page number, nothing or frame and right. -/
abbrev Tb := Int → Option (Int × Bool)
def tput (t : Tb) (k : Int) (x : Int × Bool) : Tb := fun j => if k = j then some x else t j
def tdel (t : Tb) (k : Int) : Tb := fun j => if k = j then none else t j
def TbOk (t : Tb) : Prop := ∀ k x, t k = some x → 0 ≤ k ∧ k < 4
def pvT (x : Int × Bool) : Value := .agg #[.int .i64 x.1, .bool x.2]
def pz (x : Option (Int × Bool)) : Int × Bool := x.getD (0, false)
def tMapE (k f : Int) : Int := if k < 0 ∨ 4 ≤ k ∨ f < 0 then 101 else 0
def tMap (t : Tb) (k : Int) (x : Int × Bool) : Tb := if k < 0 ∨ 4 ≤ k ∨ x.1 < 0 then t else tput t k x
def tUnE (t : Tb) (k : Int) : Int := if k < 0 ∨ 4 ≤ k then 101 else if t k = none then 102 else 0
def use3 (x : Int × Bool) (addr : Int) (wr : Bool) : Int × Int × Int := if wr = true ∧ x.2 = false then (0, 0, 103) else (x.1, addr % 32, 0)
def walk3 (t : Tb) (addr : Int) (wr : Bool) : Int × Int × Int := if 128 ≤ addr then (0, 0, 102) else match t (addr / 32) with
  | none => (0, 0, 102)
  | some x => use3 x addr wr

theorem TbOk.none {t : Tb} (h : TbOk t) {k : Int} (hk : k < 0 ∨ 4 ≤ k) : t k = none := by
  cases ht : t k with
  | none => rfl
  | some x => have := h k x ht; omega
theorem TbOk.map {t : Tb} (h : TbOk t) (k : Int) (x : Int × Bool) : TbOk (tMap t k x) := by
  unfold tMap
  split
  · exact h
  · rename_i hk
    intro j y hj
    unfold tput at hj
    split at hj
    · omega
    · exact h j y hj
theorem TbOk.del {t : Tb} (h : TbOk t) (k : Int) : TbOk (tdel t k) := by
  intro j y hj
  unfold tdel at hj
  split at hj
  · cases hj
  · exact h j y hj
theorem tdel_none {t : Tb} {k : Int} (h : t k = none) : tdel t k = t := by
  funext j
  unfold tdel
  split
  · rename_i e; rw [← e, h]
  · rfl

/-- The program's table at block 'p'. -/
def TblP (w : World) (p : Nat) (t : Tb) (F : List Nat) : Prop :=
  ∃ (m : Nat) (kv : KV) (T : TypeId), w.heap[p]? = some (.cells #[.map (some m)] T (0, 0)) ∧ MapP w m kv ∧ (∀ k, mlook kv k = (t k).map pvT) ∧ p ≠ m ∧ F = [p, m] ∧ TbOk t

theorem TblP.keep {w w' : World} {p : Nat} {t : Tb} {F : List Nat} (h : TblP w p t F) (hk : ∀ b ∈ F, w'.heap[b]? = w.heap[b]?) : TblP w' p t F := by
  obtain ⟨m, kv, T, h1, h2, h3, h4, rfl, h6⟩ := h
  exact ⟨m, kv, T, (hk p (by simp)).trans h1, h2.keep (hk m (by simp)), h3, h4, rfl, h6⟩
theorem TblP.lt {w : World} {p : Nat} {t : Tb} {F : List Nat} (h : TblP w p t F) : ∀ b ∈ F, b < w.heap.size := by
  obtain ⟨m, kv, T, h1, h2, h3, h4, rfl, h6⟩ := h
  intro b hb
  simp only [List.mem_cons, List.not_mem_nil, or_false] at hb
  rcases hb with rfl | rfl
  · exact lt_of_get h1
  · exact h2.lt
theorem TblP.ok {w : World} {p : Nat} {t : Tb} {F : List Nat} (h : TblP w p t F) : TbOk t := by
  obtain ⟨m, kv, T, h1, h2, h3, h4, rfl, h6⟩ := h
  exact h6

theorem mmu_new (w : World) {K : Value → World → Prop} (h : ∀ (p : Nat) (F : List Nat) (w' : World), TblP w' p (fun _ => none) F → Mod [] w w' → Beyond w.heap.size F → K (.pointer (some ⟨p, 0, none⟩)) w') : CallsR Tryz.prog F_mmu_New #[] w K := by
  apply R_mmu_New_ok
  simp only [R_mmu_New, newK_eq]
  have m1 := MapP.new w
  have e1 := alloc_size w (.map #[] 0)
  have hm : Mod [] w (w.alloc (.map #[] 0)) := (Mod.refl _ _).alloc _
  generalize w.alloc (.map #[] 0) = w1 at m1 e1 hm ⊢
  exact h _ [w1.heap.size, w.heap.size] _ ⟨w.heap.size, [], _, alloc_new w1 _, m1.keep (alloc_old _ (by omega)), fun k => rfl, by omega, rfl, fun k x h => by cases h⟩ (hm.alloc _) (by intro b hb; simp at hb; omega)

theorem mmu_page (n : Int) {w : World} {K : Value → World → Prop} (h : K (.bool (decide (0 ≤ n ∧ n < 4))) w) : CallsR Tryz.prog F_mmu_page #[.int .i64 n] w K := by
  apply R_mmu_page_ok
  simp only [R_mmu_page, spl_decide]
  refine ⟨fun h1 => ?_, fun h1 => ?_⟩
  · rw [show decide (n < 4) = decide (0 ≤ n ∧ n < 4) by simp; omega]; exact h
  · rw [show false = decide (0 ≤ n ∧ n < 4) by simp; omega]; exact h

theorem mmu_map {w : World} {p : Nat} {t : Tb} {F : List Nat} (h : TblP w p t F) (k f : Int) (b : Bool) {K : Value → World → Prop} (hK : ∀ w', TblP w' p (tMap t k (f, b)) F → Mod F w w' → K (.int .i64 (tMapE k f)) w') :
    CallsR Tryz.prog F_mmu_Table_Map #[.pointer (some ⟨p, 0, none⟩), .int .i64 k, .agg #[.int .i64 f, .bool b]] w K := by
  apply R_mmu_Table_Map_ok
  simp only [R_mmu_Table_Map, Option.isNone_some, spl_false, spl_decide, nilK_some, drK_eq]
  refine (Sep.nil (Mod.refl [] w)).new fun bn w1 s1 m1 hb => ?_
  have h1 := h.keep (m1.at0 h.lt)
  have bad : (k < 0 ∨ 4 ≤ k ∨ f < 0) → K (.int .i64 101) w1 := fun hbad => by
    have := hK w1 (by unfold tMap; rw [if_pos hbad]; exact h1) m1.of0
    rwa [tMapE, if_pos hbad] at this
  refine mmu_page k ⟨_, rfl, ?_⟩
  rw [spl_decide]
  refine ⟨fun hk => ⟨f, s1.cell 0 rfl rfl, fun hf => bad (by omega), fun hf => ?_⟩, fun hk => bad (by omega)⟩
  have hgood : ¬ (k < 0 ∨ 4 ≤ k ∨ f < 0) := by omega
  obtain ⟨m, kv, T, hp, hmap, hkv, hpm, rfl, hok⟩ := h1
  have s2 := s1.mod0 ((Mod.refl [] w1).drew)
  have hp : w1.drew.heap[p]? = some (.cells #[.map (some m)] T (0, 0)) := hp
  have hmap := hmap.keep (w' := w1.drew) rfl
  generalize w1.drew = w2 at s2 hp hmap ⊢
  refine ⟨some m, by rw [cell_get hp]; rfl, f, b, ⟨s2.cell 0 rfl rfl, s2.cell 0 rfl rfl⟩, ?_⟩
  refine mapUpdate_K mapT_api_Page hmap fun w3 hmap3 hm3 => ?_
  have := hK w3 ⟨m, _, T, hm3.get hp (by simpa using hpm), hmap3, fun j => ?_, hpm, rfl, hok.map k (f, b)⟩ (s2.mod.of0.trans' (hm3.mono (by simp)))
  · rwa [tMapE, if_neg hgood] at this
  · unfold tMap
    rw [if_neg hgood, mlook_mput]
    unfold tput
    split
    · rfl
    · exact hkv j

theorem mmu_at {w : World} {p : Nat} {t : Tb} {F : List Nat} (h : TblP w p t F) (k : Int) {K : Value → World → Prop} (hK : ∀ w', Mod [] w w' → K (.tuple #[.agg #[.int .i64 (pz (t k)).1, .bool (pz (t k)).2], .bool (t k).isSome]) w') :
    CallsR Tryz.prog F_mmu_Table_At #[.pointer (some ⟨p, 0, none⟩), .int .i64 k] w K := by
  apply R_mmu_Table_At_ok
  simp only [R_mmu_Table_At, Option.isNone_some, spl_false, nilK_some]
  refine (Sep.nil (Mod.refl [] w)).new fun bn w1 s1 m1 hb => ?_
  obtain ⟨m, kv, T, hp, hmap, hkv, hpm, rfl, hok⟩ := h.keep (m1.at0 h.lt)
  refine ⟨some m, by rw [cell_get hp]; rfl, ?_⟩
  refine lookup_K mapT_api_Page hmap ?_
  obtain ⟨x, hx⟩ : ∃ x, x = pz (t k) := ⟨_, rfl⟩
  rw [hkv k]
  refine ⟨x.1, x.2, (t k).isSome, by rw [hx]; cases t k <;> rfl, ?_⟩
  refine s1.new fun b2 w2 s2 m2 hb2 => s2.st0 0 rfl rfl fun w3 s3 m3 => ⟨x.1, x.2, ⟨s3.cell 0 rfl rfl, s3.cell 0 rfl rfl⟩, ?_⟩
  refine s3.st0 1 rfl rfl fun w4 s4 m4 => ⟨x.1, x.2, ⟨s4.cell 1 rfl rfl, s4.cell 1 rfl rfl⟩, ?_⟩
  rw [hx]
  exact hK w4 s4.mod

theorem mmu_unmap {w : World} {p : Nat} {t : Tb} {F : List Nat} (h : TblP w p t F) (k : Int) {K : Value → World → Prop} (hK : ∀ w', TblP w' p (tdel t k) F → Mod F w w' → K (.int .i64 (tUnE t k)) w') :
    CallsR Tryz.prog F_mmu_Table_Unmap #[.pointer (some ⟨p, 0, none⟩), .int .i64 k] w K := by
  apply R_mmu_Table_Unmap_ok
  simp only [R_mmu_Table_Unmap, Option.isNone_some, spl_false, nilK_some]
  refine mmu_page k ⟨_, rfl, ?_⟩
  rw [spl_decide]
  have hok := h.ok
  refine ⟨fun hk => ?_, fun hk => ?_⟩
  · have h1 := h
    obtain ⟨m, kv, T, hp, hmap, hkv, hpm, rfl, -⟩ := h1
    refine ⟨some m, by rw [cell_get hp]; rfl, ?_⟩
    refine lookup_K mapT_api_Page hmap ?_
    rw [hkv k]
    refine ⟨(pz (t k)).1, (pz (t k)).2, (t k).isSome, by cases t k <;> rfl, ?_⟩
    refine (Sep.nil (Mod.refl [] w)).new fun b1 w1 s1 m1 hb1 => s1.st0 0 rfl rfl fun w2 s2 m2 => ?_
    have h2 := h.keep (s2.mod.at0 h.lt)
    cases ht : t k with
    | none =>
      refine spl_f rfl ?_
      have := hK w2 (by rw [tdel_none ht]; exact h2) s2.mod.of0
      rwa [tUnE, if_neg (by omega), if_pos ht] at this
    | some x =>
      refine spl_t rfl ?_
      obtain ⟨m', kv', T', hp', hmap', hkv', hpm', hF, -⟩ := h2
      simp only [List.cons.injEq, and_true, true_and] at hF
      subst hF
      refine ⟨some m, by rw [cell_get hp']; rfl, ?_⟩
      refine delete_K mapT_api_Page hmap' fun w3 hmap3 hm3 => ⟨rfl, ?_⟩
      have := hK w3 ⟨m, _, T', hm3.get hp' (by simpa using hpm), hmap3, fun j => ?_, hpm, rfl, hok.del k⟩ (s2.mod.of0.trans' (hm3.mono (by simp)))
      · rwa [tUnE, if_neg (by omega), if_neg (by simp [ht])] at this
      · obtain ⟨es, c, _, _, hnd, _⟩ := hmap'
        rw [mlook_mdel hnd]
        unfold tdel
        split
        · rfl
        · exact hkv' j
  · have hbad : k < 0 ∨ 4 ≤ k := by omega
    have := hK w (by rw [tdel_none (hok.none hbad)]; exact h) (Mod.refl _ _)
    rwa [tUnE, if_pos hbad] at this

theorem pg {addr : Int} (h0 : 0 ≤ addr) (h : addr < 128) : IntKind.i64.wrap (IntKind.u64.wrap (Int.tdiv addr 32)) = addr / 32 := by
  rw [Int.tdiv_eq_ediv_of_nonneg h0, wu64 (by omega) (by omega), w64 (by omega) (by omega)]
theorem pw {addr : Int} (h0 : 0 ≤ addr) (h : addr < 128) : IntKind.i64.wrap (Int.tmod addr 32) = addr % 32 := by
  rw [Int.tmod_eq_emod_of_nonneg h0, w64 (by omega) (by omega)]

theorem mmu_use (x : Int × Bool) {addr : Int} (h0 : 0 ≤ addr) (ha : addr < 128) (wr : Bool) {w : World} {K : Value → World → Prop} (hK : ∀ w', Mod [] w w' → K (.tuple #[.int .i64 (use3 x addr wr).1, .int .i64 (use3 x addr wr).2.1, .int .i64 (use3 x addr wr).2.2]) w') :
    CallsR Tryz.prog F_mmu_use #[.agg #[.int .i64 x.1, .bool x.2], .int .u64 addr, .bool wr] w K := by
  apply R_mmu_use_ok
  simp only [R_mmu_use]
  refine (Sep.nil (Mod.refl [] w)).new fun b1 w1 s1 m1 hb1 => ?_
  have c0 : w1.cell? ⟨b1, 0, none⟩ = some (.int .i64 x.1) := s1.cell 0 rfl rfl
  have c1 : w1.cell? ⟨b1, 1, none⟩ = some (.bool x.2) := s1.cell 0 rfl rfl
  have := hK w1 m1
  refine ⟨fun w' => w' = w1 ∧ ¬ (wr = true ∧ x.2 = false), ?_, ?_⟩
  · rintro - w' ⟨rfl, hn⟩
    rw [use3, if_neg hn] at this
    rw [pw h0 ha]
    exact ⟨_, c0, by decide, this⟩
  · cases wr with
    | false => exact ⟨fun h => (by cases h), fun _ => ⟨rfl, by simp⟩⟩
    | true =>
      rw [spl_true]
      refine ⟨x.2, c1, ?_⟩
      cases hx : x.2 with
      | true => exact spl_t rfl ⟨rfl, by simp⟩
      | false =>
        rw [use3, if_pos ⟨rfl, hx⟩] at this
        exact spl_f rfl this

theorem mmu_walk {w : World} {p : Nat} {t : Tb} {F : List Nat} (h : TblP w p t F) {addr : Int} (h0 : 0 ≤ addr) (wr : Bool) {K : Value → World → Prop} (hK : ∀ w', Mod [] w w' → K (.tuple #[.int .i64 (walk3 t addr wr).1, .int .i64 (walk3 t addr wr).2.1, .int .i64 (walk3 t addr wr).2.2]) w') :
    CallsR Tryz.prog F_mmu_Table_Walk #[.pointer (some ⟨p, 0, none⟩), .int .u64 addr, .bool wr] w K := by
  apply R_mmu_Table_Walk_ok
  simp only [R_mmu_Table_Walk, spl_decide]
  refine ⟨fun hge => ?_, fun hlt => ⟨by decide, ?_⟩⟩
  · have := hK w (Mod.refl _ _)
    rwa [walk3, if_pos (show 128 ≤ addr from hge)] at this
  · have hlt' : addr < 128 := by omega
    rw [pg h0 hlt']
    refine mmu_at h (addr / 32) fun w1 hm1 => ⟨_, _, _, rfl, ?_⟩
    refine (Sep.nil hm1).new fun b2 w2 s2 m2 hb2 => s2.st0 0 rfl rfl fun w3 s3 m3 => ?_
    unfold walk3 at hK
    rw [if_neg (by omega)] at hK
    cases ht : t (addr / 32) with
    | none =>
      rw [ht] at hK
      exact spl_f rfl (hK w3 s3.mod)
    | some x =>
      rw [ht] at hK s3
      refine spl_t rfl ⟨x.1, x.2, ⟨s3.cell 0 rfl rfl, s3.cell 0 rfl rfl⟩, ?_⟩
      exact mmu_use x h0 hlt' wr fun w4 hm4 => ⟨_, _, _, rfl, hK w4 (s3.mod.trans' hm4)⟩

end Go.Proofs
