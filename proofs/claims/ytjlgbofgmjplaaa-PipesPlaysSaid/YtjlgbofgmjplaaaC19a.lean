/-
  Layer 19: contracts of a pipe's ring.
-/
import Derived.Test.YtjlgbofgmjplaaaRes
set_option linter.unusedSimpArgs false
namespace Go.Proofs
open Go Go.Den

def u8v (b : UInt8) : Value := .int .u8 (b.toNat : Int)

/-- The ring at block 'r' holds the bytes 'bs', the eldest first. -/
def RingP (w : World) (r : Nat) (bs : List UInt8) : Prop :=
  ∃ (arr : Array Value) (T : TypeId) (f : Nat), w.heap[r]? = some (.cells arr T (0, 0)) ∧ arr.size = 10 ∧ arr[8]? = some (.int .i64 (f : Int)) ∧ arr[9]? = some (.int .i64 (bs.length : Int)) ∧ f < 8 ∧ bs.length ≤ 8 ∧
    (∀ i, i < 8 → ∃ c : UInt8, arr[i]? = some (u8v c)) ∧ ∀ i, i < bs.length → arr[(f + i) % 8]? = (bs[i]?).map u8v

theorem RingP.keep {w w' : World} {r : Nat} {bs : List UInt8} (h : RingP w r bs) (hk : w'.heap[r]? = w.heap[r]?) : RingP w' r bs := by
  obtain ⟨arr, T, f, h1, h2⟩ := h
  exact ⟨arr, T, f, hk.trans h1, h2⟩
theorem RingP.lt {w : World} {r : Nat} {bs : List UInt8} (h : RingP w r bs) : r < w.heap.size := by
  obtain ⟨arr, T, f, h1, h2⟩ := h
  exact lt_of_get h1
theorem RingP.len {w : World} {r : Nat} {bs : List UInt8} (h : RingP w r bs) : bs.length ≤ 8 := by
  obtain ⟨arr, T, f, h1, h2, h3, h4, h5, h6, h7⟩ := h
  exact h6

theorem ring_put {w : World} {r : Nat} {bs : List UInt8} (h : RingP w r bs) (c : UInt8) {K : Value → World → Prop} (h0 : bs.length = 8 → K (.bool false) w)
    (h1 : bs.length < 8 → ∀ w', RingP w' r (bs ++ [c]) → Mod [r] w w' → K (.bool true) w') : CallsR Try.prog F_pipes_ring_put #[.pointer (some ⟨r, 0, none⟩), u8v c] w K := by
  unfold u8v
  apply R_pipes_ring_put_ok
  obtain ⟨arr, T, f, hr, hsz, h8, h9, hf, hl, hb, hget⟩ := h
  simp only [R_pipes_ring_put, nilK_some, addr_add, spl_beq, drK_eq]
  refine ⟨_, by rw [cell_get hr]; exact h9, fun h => h0 (by omega), fun hne => ?_⟩
  have hlt : bs.length < 8 := by omega
  have hrd : w.drew.heap[r]? = some (.cells arr T (0, 0)) := hr
  refine ⟨_, by rw [cell_get hrd]; exact h8, _, by rw [cell_get hrd]; exact h9, by decide, ?_⟩
  have e : Int.tmod (IntKind.i64.wrap ((f : Int) + (bs.length : Int))) 8 = (((f + bs.length) % 8 : Nat) : Int) := by
    rw [w64 (by omega) (by omega), ← Int.natCast_add, Int.tmod_eq_emod_of_nonneg (by omega)]
    omega
  rw [e]
  have hm : (f + bs.length) % 8 < 8 := Nat.mod_lt _ (by decide)
  refine ⟨⟨by omega, by omega⟩, ?_⟩
  simp only [Int.toNat_natCast, Nat.zero_add]
  refine stK_of hrd (by simp; omega) ?_
  simp only [splice_cons, splice_nil]
  have hu := upd_same (x := .cells (arr.setIfInBounds ((f + bs.length) % 8) (.int .u8 (c.toNat : Int))) T (0, 0)) hrd
  have h9' : (arr.setIfInBounds ((f + bs.length) % 8) (.int .u8 (c.toNat : Int)))[9]? = some (.int .i64 (bs.length : Int)) := by
    rw [Array.getElem?_setIfInBounds_ne (by omega)]; exact h9
  refine ⟨_, by rw [cell_get hu]; exact h9', stK_of hu (by simp; omega) ?_⟩
  simp only [splice_cons, splice_nil]
  rw [w64 (by omega) (by omega)]
  refine h1 hlt _ ⟨_, T, f, upd_same hu, by simpa using hsz, ?_, ?_, hf, by simp; omega, ?_, ?_⟩ (((Mod.refl _ w).drew.upd (.inl (by simp)) _).upd (.inl (by simp)) _)
  · rw [Array.getElem?_setIfInBounds_ne (by omega), Array.getElem?_setIfInBounds_ne (by omega)]; exact h8
  · rw [Array.getElem?_setIfInBounds_self_of_lt (by simp; omega)]
    simp
  · intro i hi
    rw [Array.getElem?_setIfInBounds_ne (by omega)]
    by_cases h : (f + bs.length) % 8 = i
    · subst h
      exact ⟨c, by rw [Array.getElem?_setIfInBounds_self_of_lt (by omega)]; rfl⟩
    · rw [Array.getElem?_setIfInBounds_ne h]
      exact hb i hi
  · intro i hi
    simp at hi
    have hmi : (f + i) % 8 < 8 := Nat.mod_lt _ (by decide)
    rw [Array.getElem?_setIfInBounds_ne (by omega)]
    by_cases h : i = bs.length
    · subst h
      rw [Array.getElem?_setIfInBounds_self_of_lt (by omega)]
      simp [u8v]
    · rw [Array.getElem?_setIfInBounds_ne (by omega), List.getElem?_append_left (by omega)]
      exact hget i (by omega)

theorem ring_take {w : World} {r : Nat} {bs : List UInt8} (h : RingP w r bs) {K : Value → World → Prop} (h0 : bs = [] → K (.tuple #[.int .u8 0, .bool false]) w)
    (h1 : ∀ (b : UInt8) (bs' : List UInt8) (w' : World), bs = b :: bs' → RingP w' r bs' → Mod [r] w w' → K (.tuple #[u8v b, .bool true]) w') : CallsR Try.prog F_pipes_ring_take #[.pointer (some ⟨r, 0, none⟩)] w K := by
  apply R_pipes_ring_take_ok
  obtain ⟨arr, T, f, hr, hsz, h8, h9, hf, hl, hb, hget⟩ := h
  simp only [R_pipes_ring_take, nilK_some, addr_add, spl_beq, drK_eq]
  refine ⟨_, by rw [cell_get hr]; exact h9, fun h => h0 (List.eq_nil_of_length_eq_zero (by omega)), fun hne => ?_⟩
  have hrd : w.drew.heap[r]? = some (.cells arr T (0, 0)) := hr
  cases bs with
  | nil => simp at hne
  | cons b bs' =>
    have hg0 := hget 0 (by simp)
    rw [Nat.add_zero, Nat.mod_eq_of_lt hf] at hg0
    refine ⟨_, by rw [cell_get hrd]; exact h8, ⟨by omega, by omega⟩, _, by rw [cell_get hrd]; simpa [u8v] using hg0, _, by rw [cell_get hrd]; exact h8, by decide, ?_⟩
    have e : Int.tmod (IntKind.i64.wrap ((f : Int) + 1)) 8 = (((f + 1) % 8 : Nat) : Int) := by
      rw [w64 (by omega) (by omega), Int.tmod_eq_emod_of_nonneg (by omega)]
      omega
    rw [e]
    refine stK_of hrd (by simp; omega) ?_
    simp only [splice_cons, splice_nil]
    have hu := upd_same (x := .cells (arr.setIfInBounds (0 + 8) (.int .i64 (((f + 1) % 8 : Nat) : Int))) T (0, 0)) hrd
    have h9' : (arr.setIfInBounds (0 + 8) (.int .i64 (((f + 1) % 8 : Nat) : Int)))[9]? = some (.int .i64 ((b :: bs').length : Int)) := by
      rw [Array.getElem?_setIfInBounds_ne (by omega)]; exact h9
    refine ⟨_, by rw [cell_get hu]; exact h9', stK_of hu (by simp; omega) ?_⟩
    simp only [splice_cons, splice_nil]
    simp only [List.length_cons] at hl
    rw [w64 (by simp only [List.length_cons]; omega) (by simp only [List.length_cons]; omega)]
    have hm : (f + 1) % 8 < 8 := Nat.mod_lt _ (by decide)
    refine h1 b bs' _ rfl ⟨_, T, (f + 1) % 8, upd_same hu, by simpa using hsz, ?_, ?_, hm, by omega, ?_, ?_⟩ (((Mod.refl _ w).drew.upd (.inl (by simp)) _).upd (.inl (by simp)) _)
    · rw [Array.getElem?_setIfInBounds_ne (by omega), Array.getElem?_setIfInBounds_self_of_lt (by omega)]
    · rw [Array.getElem?_setIfInBounds_self_of_lt (by simp; omega)]
      simp
    · intro i hi
      rw [Array.getElem?_setIfInBounds_ne (by omega), Array.getElem?_setIfInBounds_ne (by omega)]
      exact hb i hi
    · intro i hi
      have hmi : ((f + 1) % 8 + i) % 8 < 8 := Nat.mod_lt _ (by decide)
      rw [Array.getElem?_setIfInBounds_ne (by omega), Array.getElem?_setIfInBounds_ne (by omega)]
      have := hget (i + 1) (by simp; omega)
      rw [List.getElem?_cons_succ] at this
      rw [← this, show ((f + 1) % 8 + i) % 8 = (f + (i + 1)) % 8 by omega]

end Go.Proofs
