/-
  Layer 1: contracts of the program's memory.
-/
import Derived.Test.YtgepekoanaammaaW32
set_option linter.unusedSimpArgs false
namespace Go.Proofs
open Go Go.Den

/-- The program's memory at block 'p': the frames 'bs'. -/
def MemP (w : World) (p : Nat) (bs : List (List Int)) (F : List Nat) : Prop :=
  ∃ (q : Nat) (T : TypeId), w.heap[p]? = some (.cells #[.slice (some ⟨q, 0, none⟩) bs.length bs.length] T (0, 0)) ∧
    SlB w (some ⟨q, 0, none⟩) bs.length bs.length 32 (u64s bs.flatten) [q] ∧ F = [p, q] ∧ p ≠ q ∧ All32 bs ∧ bs.length ≤ 1024

theorem MemP.keep {w w' : World} {p : Nat} {bs : List (List Int)} {F : List Nat} (h : MemP w p bs F) (hk : ∀ b ∈ F, w'.heap[b]? = w.heap[b]?) : MemP w' p bs F := by
  obtain ⟨q, T, h1, h2, rfl, h3⟩ := h
  exact ⟨q, T, (hk p (by simp)).trans h1, h2.keep (fun b hb => hk b (by simp at hb; simp [hb])), rfl, h3⟩
theorem MemP.lt {w : World} {p : Nat} {bs : List (List Int)} {F : List Nat} (h : MemP w p bs F) : ∀ b ∈ F, b < w.heap.size := by
  obtain ⟨q, T, h1, h2, rfl, h3⟩ := h
  intro b hb
  simp at hb
  rcases hb with rfl | rfl
  · exact lt_of_get h1
  · exact h2.lt _ (by simp)
theorem MemP.all {w : World} {p : Nat} {bs : List (List Int)} {F : List Nat} (h : MemP w p bs F) : All32 bs := by
  obtain ⟨q, T, h1, h2, rfl, h3, h4, h5⟩ := h
  exact h4

theorem mem_at {w : World} {p : Nat} {bs : List (List Int)} {F : List Nat} (h : MemP w p bs F) (n : Int) {K : Value → World → Prop} (h0 : n < 0 ∨ (bs.length : Int) ≤ n → K (.pointer none) w)
    (h1 : ∀ (k q : Nat) (b : List Int), n = k → bs[k]? = some b → F = [p, q] → K (.pointer (some ⟨q, k * 32, none⟩)) w) : CallsR Try.prog F_mem_Mem_at #[.pointer (some ⟨p, 0, none⟩), .int .i64 n] w K := by
  apply R_mem_Mem_at_ok
  obtain ⟨q, T, hp, hs, rfl, hpq, hb, hn⟩ := h
  simp only [R_mem_Mem_at, Option.isNone_some, spl_false, spl_decide, nilK_some, addr_add, cell_get hp]
  refine ⟨fun h => h0 (.inl h), fun hge => ⟨_, _, _, rfl, fun h => h0 (.inr h), fun hlt => ⟨_, _, _, rfl, ⟨by omega, by omega⟩, ?_⟩⟩⟩
  obtain ⟨k, rfl⟩ := nat_of (by omega : 0 ≤ n)
  have hk : k < bs.length := by omega
  have := h1 k q bs[k] rfl (List.getElem?_eq_getElem hk) rfl
  simpa [addr_add] using this

theorem mem_word {w : World} {p : Nat} {bs : List (List Int)} {F : List Nat} (h : MemP w p bs F) (n wd : Int) {K : Value → World → Prop} (h0 : n < 0 ∨ (bs.length : Int) ≤ n ∨ wd < 0 ∨ 32 ≤ wd → K (.pointer none) w)
    (h1 : ∀ (k j q : Nat) (b : List Int), n = k → wd = j → j < 32 → bs[k]? = some b → F = [p, q] → K (.pointer (some ⟨q, k * 32 + j, none⟩)) w) : CallsR Try.prog F_mem_Mem_word #[.pointer (some ⟨p, 0, none⟩), .int .i64 n, .int .i64 wd] w K := by
  apply R_mem_Mem_word_ok
  refine mem_at h n (fun hb => ⟨_, rfl, ?_⟩) (fun k q b hn hb hF => ⟨_, rfl, ?_⟩)
  · simpa using h0 (by omega)
  · simp only [Option.isNone_some, spl_false, spl_decide, nilK_some, addr_add]
    refine ⟨fun h => h0 (by omega), fun h => ⟨fun h => h0 (by omega), fun h' => ⟨⟨by omega, by omega⟩, ?_⟩⟩⟩
    obtain ⟨j, rfl⟩ := nat_of (by omega : 0 ≤ wd)
    exact h1 k j q b hn rfl (by omega) hb hF

theorem mem_read {w : World} {p : Nat} {bs : List (List Int)} {F : List Nat} (h : MemP w p bs F) (n wd : Int) {K : Value → World → Prop} (h0 : n < 0 ∨ (bs.length : Int) ≤ n ∨ wd < 0 ∨ 32 ≤ wd → K (.tuple #[.int .u64 0, .int .i64 101]) w)
    (h1 : ∀ (k j : Nat) (b : List Int) (x : Int), n = k → wd = j → j < 32 → bs[k]? = some b → b[j]? = some x → K (.tuple #[.int .u64 x, .int .i64 0]) w) : CallsR Try.prog F_mem_Mem_Read #[.pointer (some ⟨p, 0, none⟩), .int .i64 n, .int .i64 wd] w K := by
  apply R_mem_Mem_Read_ok
  refine mem_word h n wd (fun hb => ⟨_, rfl, ?_⟩) (fun k j q b hn hwd hj hb hF => ⟨_, rfl, ?_⟩)
  · simpa using h0 hb
  · obtain ⟨q', T, hp, hs, rfl, hpq, hb32, hn'⟩ := h
    simp only [List.cons.injEq, true_and, and_true] at hF
    subst hF
    have hbl := hb32.get hb
    have hk : k < bs.length := (List.getElem?_eq_some_iff.1 hb).1
    have hx : b[j]? = some b[j] := List.getElem?_eq_getElem (by omega)
    have c := hs.cell (i := k * 32 + j) (by rw [u64s_length, flatten_length hb32]; omega)
    rw [u64s_get, flatten_get hb32 hb hj, hx] at c
    simp only [addr_add, Nat.zero_add, Option.map_some] at c
    simp only [Option.isNone_some, spl_false, nilK_some]
    exact ⟨_, c, h1 k j b _ hn hwd hj hb hx⟩

theorem mem_write {w : World} {p : Nat} {bs : List (List Int)} {F : List Nat} (h : MemP w p bs F) (n wd v : Int) {K : Value → World → Prop} (h0 : n < 0 ∨ (bs.length : Int) ≤ n ∨ wd < 0 ∨ 32 ≤ wd → K (.int .i64 101) w)
    (h1 : ∀ (k j : Nat) (b : List Int) (w' : World), n = k → wd = j → j < 32 → bs[k]? = some b → MemP w' p (bs.set k (b.set j v)) F → Mod F w w' → K (.int .i64 0) w') : CallsR Try.prog F_mem_Mem_Write #[.pointer (some ⟨p, 0, none⟩), .int .i64 n, .int .i64 wd, .int .u64 v] w K := by
  apply R_mem_Mem_Write_ok
  refine mem_word h n wd (fun hb => ⟨_, rfl, ?_⟩) (fun k j q b hn hwd hj hb hF => ⟨_, rfl, ?_⟩)
  · simpa using h0 hb
  · obtain ⟨q', T, hp, hs, rfl, hpq, hb32, hn'⟩ := h
    simp only [List.cons.injEq, true_and, and_true] at hF
    subst hF
    have hbl := hb32.get hb
    have hk : k < bs.length := (List.getElem?_eq_some_iff.1 hb).1
    have hfl := flatten_length hb32
    obtain ⟨arr, T2, hq, hcap, _⟩ := hs.block
    simp only [Option.isNone_some, spl_false, nilK_some]
    refine stK_of hq (by simp; omega) ?_
    simp only [splice_cons, splice_nil]
    have hset := hs.set hq (j := k * 32 + j) (by rw [u64s_length, hfl]; omega) (.int .u64 v)
    rw [u64s_set, flatten_set1 hb32 v k b j hb hj, Nat.zero_add] at hset
    refine h1 k j b _ hn hwd hj hb ⟨q', T, ?_, ?_, rfl, hpq, hb32.set k (by simp [hbl]), by simpa using hn'⟩ ((Mod.refl _ _).upd (.inl (by simp)) _)
    · rw [upd_ne _ (Ne.symm hpq), List.length_set]; exact hp
    · rw [List.length_set]; exact hset

theorem mem_copy {w : World} {p : Nat} {bs : List (List Int)} {F : List Nat} (h : MemP w p bs F) (to_ from_ : Int) {K : Value → World → Prop} (h0 : to_ < 0 ∨ (bs.length : Int) ≤ to_ ∨ from_ < 0 ∨ (bs.length : Int) ≤ from_ → K (.int .i64 101) w)
    (h1 : ∀ (t f : Nat) (b : List Int) (w' : World), to_ = t → from_ = f → t < bs.length → bs[f]? = some b → MemP w' p (bs.set t b) F → Mod F w w' → K (.int .i64 0) w') : CallsR Try.prog F_mem_Mem_Copy #[.pointer (some ⟨p, 0, none⟩), .int .i64 to_, .int .i64 from_] w K := by
  apply R_mem_Mem_Copy_ok
  refine mem_at h to_ (fun hb => ⟨_, rfl, mem_at h from_ (fun _ => ⟨_, rfl, ?_⟩) (fun f q b hf hb' hF => ⟨_, rfl, ?_⟩)⟩) (fun t q bt ht hbt hF => ⟨_, rfl, mem_at h from_ (fun _ => ⟨_, rfl, ?_⟩) (fun f q2 b hf hb hF2 => ⟨_, rfl, ?_⟩)⟩)
  · simpa using h0 (by omega)
  · simpa using h0 (by omega)
  · simpa using h0 (by omega)
  · obtain ⟨q', T, hp, hs, rfl, hpq, hb32, hn'⟩ := h
    simp only [List.cons.injEq, true_and, and_true] at hF hF2
    subst hF
    subst hF2
    have hbl := hb32.get hb
    have hkt : t < bs.length := (List.getElem?_eq_some_iff.1 hbt).1
    have hkf : f < bs.length := (List.getElem?_eq_some_iff.1 hb).1
    have hfl := flatten_length hb32
    obtain ⟨arr, T2, hq, hcap, _⟩ := hs.block
    have hs' : SlB w.drew (some ⟨q', 0, none⟩) bs.length bs.length 32 (u64s bs.flatten) [q'] := hs.keep fun _ _ => rfl
    have hsrc := SlB.sub hs' (j := f * 32) (m := 32) (by rw [u64s_length, hfl]; omega)
    have hv : ((u64s bs.flatten).drop (f * 32)).take 32 = u64s b := by simp only [u64s, ← List.map_drop, ← List.map_take, flatten_take hb32 f b hb]
    rw [hv, Nat.zero_add] at hsrc
    simp only [Option.isNone_some, spl_false, nilK_some, drK_eq, slK, slA, sOK, sM]
    refine ⟨trivial, fun _ => rfl, trivial, trivial, ⟨trivial, fun _ => rfl, trivial, trivial, ?_⟩⟩
    simp only [show ¬ ((32 : Nat) = 0) by decide, if_false, Option.map_some, addr_add, Nat.zero_mul, Nat.add_zero, Nat.sub_zero]
    have hrun := copy_at (t2 := 32) slT_u64 (w := w.drew) hq (o := t * 32) (l := 32) (c := 32) (by omega) hsrc (u64s_cell b) 3
    refine ⟨_, _, hrun, _, rfl, ?_⟩
    have e : (u64s b).take (Nat.min 32 32 * 1) = u64s b := List.take_of_length_le (by simp [u64s, hbl])
    rw [e]
    have hsp := hs'.splice hq (j := t * 32) (us := u64s b) (by rw [u64s_length, u64s_length, hfl]; omega)
    simp only [Nat.zero_add, u64s_length, hbl] at hsp
    refine h1 t f b _ ht hf hkt hb ⟨q', T, ?_, ?_, rfl, hpq, hb32.set t hbl, by simpa using hn'⟩ ((Mod.refl _ w).drew.upd (.inl (by simp)) _)
    · rw [upd_ne _ (Ne.symm hpq), List.length_set]; exact hp
    · rw [List.length_set, flatten_set hb32 hbl t hkt]
      simpa [u64s] using hsp

theorem mem_zero {w : World} {p : Nat} {bs : List (List Int)} {F : List Nat} (h : MemP w p bs F) (n : Int) {K : Value → World → Prop} (h0 : n < 0 ∨ (bs.length : Int) ≤ n → K (.int .i64 101) w)
    (h1 : ∀ (k : Nat) (w' : World), n = k → k < bs.length → MemP w' p (bs.set k (List.replicate 32 0)) F → Mod F w w' → K (.int .i64 0) w') : CallsR Try.prog F_mem_Mem_Zero #[.pointer (some ⟨p, 0, none⟩), .int .i64 n] w K := by
  apply R_mem_Mem_Zero_ok
  refine mem_at h n (fun hb => ⟨_, rfl, ?_⟩) (fun k q b hn hb hF => ⟨_, rfl, ?_⟩)
  · simpa using h0 hb
  · obtain ⟨q', T, hp, hs, rfl, hpq, hb32, hn'⟩ := h
    simp only [List.cons.injEq, true_and, and_true] at hF
    subst hF
    have hk : k < bs.length := (List.getElem?_eq_some_iff.1 hb).1
    have hfl := flatten_length hb32
    obtain ⟨arr, T2, hq, hcap, _⟩ := hs.block
    simp only [Option.isNone_some, spl_false, nilK_some]
    refine ⟨⟨by decide, by decide⟩, stK_of hq (by simp; omega) ?_⟩
    have hsp := hs.splice hq (j := k * 32) (us := u64s (List.replicate 32 0)) (by rw [u64s_length, u64s_length, hfl]; simp; omega)
    rw [Nat.zero_add] at hsp
    refine h1 k _ hn hk ⟨q', T, ?_, ?_, rfl, hpq, hb32.set k (by simp), by simpa using hn'⟩ ((Mod.refl _ _).upd (.inl (by simp)) _)
    · rw [upd_ne _ (Ne.symm hpq), List.length_set]; exact hp
    · rw [List.length_set, flatten_set hb32 (by simp) k hk]
      simpa [u64s] using hsp

theorem mem_page {w : World} {p : Nat} {bs : List (List Int)} {F : List Nat} (h : MemP w p bs F) (n : Int) {K : Value → World → Prop} (h0 : n < 0 ∨ (bs.length : Int) ≤ n → K (.slice none 0 0) w)
    (h1 : ∀ (k : Nat) (b : List Int) (a : Option Addr) (G : List Nat) (w' : World), n = k → bs[k]? = some b → SlB w' a 32 32 1 (u64s b) G → (∀ x ∈ G, w.heap.size ≤ x) → Mod [] w w' → K (.slice a 32 32) w') : CallsR Try.prog F_mem_Mem_Page #[.pointer (some ⟨p, 0, none⟩), .int .i64 n] w K := by
  apply R_mem_Mem_Page_ok
  refine mem_at h n (fun hb => ⟨_, rfl, ?_⟩) (fun k q b hn hb hF => ⟨_, rfl, ?_⟩)
  · simpa using h0 hb
  · obtain ⟨q', T, hp, hs, rfl, hpq, hb32, hn'⟩ := h
    simp only [List.cons.injEq, true_and, and_true] at hF
    subst hF
    have hbl := hb32.get hb
    have hk : k < bs.length := (List.getElem?_eq_some_iff.1 hb).1
    have hfl := flatten_length hb32
    obtain ⟨w1, hr, hs1, hm1⟩ := makeSlice_run slT_u64 w (k := .i64) (k' := .i64) (l := 32) (c := 32) (Nat.le_refl _) (by omega) (by omega)
    simp only [Option.isNone_some, spl_false, nilK_some, slK, slA, sOK, sM]
    refine ⟨_, _, hr, _, _, _, rfl, trivial, fun _ => rfl, trivial, trivial, ?_⟩
    simp only [show ¬ ((32 : Nat) = 0) by decide, if_false, Option.map_some, addr_add, Nat.zero_mul, Nat.add_zero, Nat.sub_zero]
    have hsrc := SlB.sub (hs.mod hm1 (by simp)) (j := k * 32) (m := 32) (by rw [u64s_length, hfl]; omega)
    have hv : ((u64s bs.flatten).drop (k * 32)).take 32 = u64s b := by simp only [u64s, ← List.map_drop, ← List.map_take, flatten_take hb32 k b hb]
    rw [hv, Nat.zero_add] at hsrc
    obtain ⟨w2, hr2, hs2, hm2⟩ := copy_run (t2 := 32) slT_u64 hs1 hsrc (u64s_cell b) 3
    refine ⟨_, _, hr2, _, rfl, h1 k b (some ⟨w.heap.size, 0, none⟩) [w.heap.size] w2 hn hb ?_ (fun x hx => by simp only [List.mem_singleton] at hx; omega) (hm1.trans hm2 fun b hb hlt => by simp only [List.mem_singleton] at hb; omega)⟩
    have e1 : (u64s b).take (Nat.min 32 32 * 1) = u64s b := List.take_of_length_le (by simp [u64s, hbl])
    have e2 : (zrow (.int .u64 0) (32 * 1)).drop (Nat.min 32 32 * 1) = [] := by rw [zrow_one rfl]; simp
    rw [e1, e2, List.append_nil] at hs2
    exact hs2

theorem mem_frames {w : World} {p : Nat} {bs : List (List Int)} {F : List Nat} (h : MemP w p bs F) {K : Value → World → Prop} (h1 : K (.int .i64 (bs.length : Int)) w) : CallsR Try.prog F_mem_Mem_Frames #[.pointer (some ⟨p, 0, none⟩)] w K := by
  apply R_mem_Mem_Frames_ok
  obtain ⟨q', T, hp, _⟩ := h
  simp only [R_mem_Mem_Frames, Option.isNone_some, spl_false, nilK_some, addr_add, cell_get hp]
  exact ⟨_, _, _, rfl, h1⟩

theorem mem_new (n : Int) (w : World) {K : Value → World → Prop} (h0 : n < 1 ∨ 1024 < n → K (.pointer none) w)
    (h1 : ∀ (k p : Nat) (F : List Nat) (w' : World), n = k → 1 ≤ k → k ≤ 1024 → MemP w' p (List.replicate k (List.replicate 32 0)) F → Mod [] w w' → (∀ b ∈ F, w.heap.size ≤ b) → K (.pointer (some ⟨p, 0, none⟩)) w') :
    CallsR Try.prog F_mem_New #[.int .i64 n] w K := by
  apply R_mem_New_ok
  simp only [R_mem_New, spl_decide]
  refine ⟨fun h => h0 (.inl h), fun hge => ⟨fun h => h0 (.inr h), fun hle => ?_⟩⟩
  obtain ⟨k, rfl⟩ := nat_of (by omega : 0 ≤ n)
  obtain ⟨w1, hr, hs, hm⟩ := makeSlice_run slT_mem_frame w (k := .i64) (k' := .i64) (l := k) (c := k) (Nat.le_refl _) (by omega) (by omega)
  refine ⟨_, _, hr, _, _, _, rfl, ?_⟩
  simp only [newK_eq]
  have e2 : zrow (.agg (zc Try.prog 63)) (k * 32) = u64s (List.replicate k (List.replicate 32 (0 : Int))).flatten := by
    rw [zrow_const (x := .int .u64 0) (m := 32) (by kernel_rfl) (by decide), List.flatten_replicate_replicate, u64s_rep]
  rw [e2] at hs
  have hlt := hs.lt w.heap.size (by simp)
  refine h1 k w1.heap.size [w1.heap.size, w.heap.size] _ rfl (by omega) (by omega) ⟨w.heap.size, _, by simpa using alloc_new _ _, ?_, rfl, by omega, All32.rep k, by simp; omega⟩ (hm.alloc _) ?_
  · have := hs.alloc (.cells #[.slice (some ⟨w.heap.size, 0, none⟩) k k] 56)
    simpa using this
  · intro b hb
    simp at hb
    have := hm.size
    omega

/-! ### A memory that is none -/
theorem none_at (n : Int) {w : World} {K : Value → World → Prop} (h : K (.pointer none) w) : CallsR Try.prog F_mem_Mem_at #[.pointer none, .int .i64 n] w K := by
  apply R_mem_Mem_at_ok
  simpa [R_mem_Mem_at] using h
theorem none_word (n wd : Int) {w : World} {K : Value → World → Prop} (h : K (.pointer none) w) : CallsR Try.prog F_mem_Mem_word #[.pointer none, .int .i64 n, .int .i64 wd] w K := by
  apply R_mem_Mem_word_ok
  exact none_at n ⟨_, rfl, by simpa using h⟩
theorem none_read (n wd : Int) {w : World} {K : Value → World → Prop} (h : K (.tuple #[.int .u64 0, .int .i64 101]) w) : CallsR Try.prog F_mem_Mem_Read #[.pointer none, .int .i64 n, .int .i64 wd] w K := by
  apply R_mem_Mem_Read_ok
  exact none_word n wd ⟨_, rfl, by simpa using h⟩
theorem none_write (n wd v : Int) {w : World} {K : Value → World → Prop} (h : K (.int .i64 101) w) : CallsR Try.prog F_mem_Mem_Write #[.pointer none, .int .i64 n, .int .i64 wd, .int .u64 v] w K := by
  apply R_mem_Mem_Write_ok
  exact none_word n wd ⟨_, rfl, by simpa using h⟩
theorem none_copy (n m : Int) {w : World} {K : Value → World → Prop} (h : K (.int .i64 101) w) : CallsR Try.prog F_mem_Mem_Copy #[.pointer none, .int .i64 n, .int .i64 m] w K := by
  apply R_mem_Mem_Copy_ok
  exact none_at n ⟨_, rfl, none_at m ⟨_, rfl, by simpa using h⟩⟩
theorem none_zero (n : Int) {w : World} {K : Value → World → Prop} (h : K (.int .i64 101) w) : CallsR Try.prog F_mem_Mem_Zero #[.pointer none, .int .i64 n] w K := by
  apply R_mem_Mem_Zero_ok
  exact none_at n ⟨_, rfl, by simpa using h⟩
theorem none_page (n : Int) {w : World} {K : Value → World → Prop} (h : K (.slice none 0 0) w) : CallsR Try.prog F_mem_Mem_Page #[.pointer none, .int .i64 n] w K := by
  apply R_mem_Mem_Page_ok
  exact none_at n ⟨_, rfl, by simpa using h⟩
theorem none_frames {w : World} {K : Value → World → Prop} (h : K (.int .i64 0) w) : CallsR Try.prog F_mem_Mem_Frames #[.pointer none] w K := by
  apply R_mem_Mem_Frames_ok
  simpa [R_mem_Mem_Frames] using h

end Go.Proofs
