/-
  Rows of elements that are each the same number of cells.
-/
import Derived.Test.YtkcnchnlhdhcbaaDen14
set_option linter.unusedSimpArgs false
namespace Go.Den
open Go

def rows {α : Type} (f : α → List Value) (L : List α) : List Value := (L.map f).flatten

section
variable {α : Type} {f : α → List Value} {k : Nat}

@[simp] theorem rows_nil : rows f [] = [] := rfl
theorem rows_one (x : α) : rows f [x] = f x := by simp [rows]
theorem rows_cons (x : α) (L : List α) : rows f (x :: L) = f x ++ rows f L := by simp [rows]
theorem rows_app (a b : List α) : rows f (a ++ b) = rows f a ++ rows f b := by simp [rows]
theorem rows_len (hf : ∀ x, (f x).length = k) (L : List α) : (rows f L).length = L.length * k := by
  induction L with
  | nil => simp
  | cons x L ih => rw [rows_cons, List.length_append, hf, ih, List.length_cons, Nat.succ_mul]; omega
theorem rows_cell (hc : ∀ x, ∀ u ∈ f x, isCell u = true) (L : List α) : ∀ u ∈ rows f L, isCell u = true := by
  intro u hu
  simp only [rows, List.mem_flatten, List.mem_map] at hu
  obtain ⟨vs, ⟨x, _, rfl⟩, hu⟩ := hu
  exact hc x u hu
theorem rows_take (hf : ∀ x, (f x).length = k) : ∀ (L : List α) (n : Nat), (rows f L).take (n * k) = rows f (L.take n)
  | [], n => by simp
  | x :: L, 0 => by simp
  | x :: L, n + 1 => by
    rw [List.take_succ_cons, rows_cons, rows_cons, Nat.succ_mul, Nat.add_comm, ← hf x, List.take_length_add_append, hf x, rows_take hf L n]
theorem rows_drop (hf : ∀ x, (f x).length = k) : ∀ (L : List α) (n : Nat), (rows f L).drop (n * k) = rows f (L.drop n)
  | [], n => by simp
  | x :: L, 0 => by simp
  | x :: L, n + 1 => by
    rw [List.drop_succ_cons, rows_cons, Nat.succ_mul, Nat.add_comm, ← hf x, List.drop_length_add_append, hf x, rows_drop hf L n]
theorem rows_set (hf : ∀ x, (f x).length = k) {L : List α} {i : Nat} (hi : i < L.length) (x : α) : (rows f L).take (i * k) ++ f x ++ (rows f L).drop (i * k + (f x).length) = rows f (L.set i x) := by
  rw [hf x, show i * k + k = (i + 1) * k by rw [Nat.succ_mul], rows_take hf, rows_drop hf, List.set_eq_take_append_cons_drop, if_pos hi, rows_app, rows_cons]
  simp

variable {w : World} {a : Option Addr} {l c : Nat} {L : List α} {F : List Nat}
theorem Rd.count (h : Rd w a l k (rows f L) F) (hf : ∀ x, (f x).length = k) (hk : 0 < k) : L.length = l := by
  have := h.length
  rw [rows_len hf] at this
  exact Nat.eq_of_mul_eq_mul_right hk this
theorem SlB.count (h : SlB w a l c k (rows f L) F) (hf : ∀ x, (f x).length = k) (hk : 0 < k) : L.length = l := h.rd.count hf hk
theorem Rd.row (h : Rd w a l k (rows f L) F) (hf : ∀ x, (f x).length = k) (hk : 0 < k) {i : Nat} (hi : i < l) :
    ∃ ad x, a = some ad ∧ L[i]? = some x ∧ F = [ad.block] ∧ ad.block < w.heap.size ∧ ∀ j, j < k → w.cell? (Addr.add (Addr.add ad (i * k)) j) = (f x)[j]? := by
  have hL := h.count hf hk
  obtain ⟨ad, rfl, hF, hlt, hc⟩ := h.at (by omega)
  have hx : L[i]? = some (L[i]'(by omega)) := List.getElem?_eq_getElem _
  refine ⟨ad, _, rfl, hx, hF, hlt, fun j hj => ?_⟩
  rw [add_add, hc _ (by
    rw [rows_len hf]
    calc i * k + j < i * k + k := by omega
      _ = (i + 1) * k := by rw [Nat.succ_mul]
      _ ≤ L.length * k := Nat.mul_le_mul_right _ (by omega))]
  have := flatten_at (vss := L.map f) (k := k) (by intro vs hv; simp only [List.mem_map] at hv; obtain ⟨x, _, rfl⟩ := hv; exact hf x) (i := i) (j := j) (vs := f (L[i]'(by omega))) (by simp [hx]) hj
  exact this
end

end Go.Den
