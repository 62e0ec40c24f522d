/-
  A state of several parts: local variables, whatever their type's number.
-/
import Derived.Test.YtkcnchnlhdhcbaaDen16
set_option linter.unusedSimpArgs false
namespace Go.Den
open Go

section
variable {w0 w : World} {l : List Part}

theorem Sep.new (h : Sep w0 w l) {o : Obj} {K : Nat → World → Prop} (hK : ∀ (b : Nat) (w' : World), Sep w0 w' (blk b o :: l) → Mod [] w w' → w.heap.size ≤ b → K b w') : newK w o K := by
  rw [newK_eq]
  exact hK _ _ (h.alloc o) ((Mod.refl [] w).alloc o) (Nat.le_refl _)

/-- A variable is written. -/
theorem Sep.st (h : Sep w0 w l) (i : Nat) {b off : Nat} {arr : Array Value} {T : TypeId} (hi : l[i]? = some (blk b (.cells arr T (0, 0)))) {vs : List Value} {K : World → Prop} (hl : off + vs.length ≤ arr.size)
    (hK : ∀ w', Sep w0 w' (l.set i (blk b (.cells (splice arr off vs) T (0, 0)))) → Mod [b] w w' → K w') : Go.Den.stK ⟨b, off, none⟩ vs w K := by
  have hb : w.heap[b]? = some _ := h.nth i hi
  refine stK_of hb hl ?_
  have hm : Mod [b] w (w.upd b (.cells (splice arr off vs) T (0, 0))) := (Mod.refl _ _).upd (.inl (by simp)) _
  exact hK _ (h.turn i hi (blk b (.cells (splice arr off vs) T (0, 0))) (upd_same hb) hm) hm

theorem Sep.cell (h : Sep w0 w l) (i : Nat) {b off : Nat} {arr : Array Value} {T : TypeId} {v : Value} (hi : l[i]? = some (blk b (.cells arr T (0, 0)))) (hv : arr[off]? = some v) : w.cell? ⟨b, off, none⟩ = some v := by
  have hb : w.heap[b]? = some _ := h.nth i hi
  rw [cell_get hb]
  exact hv
theorem Sep.out (h : Sep w0 w l) {b : Nat} (hb : b < w0.heap.size) (i : Nat) {p : Part} (hi : l[i]? = some p) : b ∉ p.F := fun hh => by
  have := h.bey i hi b hh
  omega
end

/-- A variable is written whole. -/
theorem Sep.st0 {w0 w : World} {l : List Part} (h : Sep w0 w l) (i : Nat) {b : Nat} {arr : Array Value} {T : TypeId} (hi : l[i]? = some (blk b (.cells arr T (0, 0)))) {vs : List Value} {K : World → Prop} (hl : vs.length = arr.size)
    (hK : ∀ w', Sep w0 w' (l.set i (blk b (.cells vs.toArray T (0, 0)))) → Mod [b] w w' → K w') : Go.Den.stK ⟨b, 0, none⟩ vs w K := by
  have e : splice arr 0 vs = vs.toArray := by
    have := splice_all vs [] arr.toList (by simpa using hl)
    simpa using this
  refine h.st i hi (by omega) fun w' s' m' => ?_
  rw [e] at s'
  exact hK w' s' m'

/-- A block, whole, as a row. -/
theorem SlB.of {w : World} {b : Nat} {vs : List Value} {T : TypeId} {l sz : Nat} (h : w.heap[b]? = some (.cells vs.toArray T (0, 0))) (hl : vs.length = l * sz) : SlB w (some ⟨b, 0, none⟩) l l sz vs [b] :=
  .inr ⟨b, 0, vs.toArray, T, rfl, rfl, h, Nat.le_refl _, by simp [hl], hl, fun i _ => by simp⟩

/-- A row's cells, the places written out. -/
theorem Rd.rowc {α : Type} {f : α → List Value} {k : Nat} {w : World} {a : Option Addr} {l : Nat} {L : List α} {F : List Nat} (h : Rd w a l k (rows f L) F) (hf : ∀ x, (f x).length = k) (hk : 0 < k) {i : Nat} (hi : i < l) :
    ∃ ad x, a = some ad ∧ L[i]? = some x ∧ F = [ad.block] ∧ ad.block < w.heap.size ∧ ∀ j, j < k → w.cell? (Addr.add ad (i * k + j)) = (f x)[j]? := by
  obtain ⟨ad, x, h1, h2, h3, h4, h5⟩ := h.row hf hk hi
  exact ⟨ad, x, h1, h2, h3, h4, fun j hj => by rw [← add_add]; exact h5 j hj⟩

end Go.Den
