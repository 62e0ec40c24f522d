/-
  Rows of words and of ints: their cells.
-/
import Derived.Test.YtkcnchnlhdhcbaaDen10
set_option linter.unusedSimpArgs false
namespace Go.Den
open Go

def u64s (l : List Int) : List Value := l.map (.int .u64)
theorem u64s_length (l : List Int) : (u64s l).length = l.length := by simp [u64s]
theorem u64s_get (l : List Int) (i : Nat) : (u64s l)[i]? = (l[i]?).map (.int .u64) := by simp [u64s]
theorem u64s_cell (l : List Int) : ∀ u ∈ u64s l, isCell u = true := by
  intro u hu
  simp only [u64s, List.mem_map] at hu
  obtain ⟨n, _, rfl⟩ := hu
  rfl
theorem u64s_rep (n : Nat) : u64s (List.replicate n 0) = List.replicate n (.int .u64 0) := by simp [u64s]
theorem u64s_set (l : List Int) (i : Nat) (v : Int) : (u64s l).set i (.int .u64 v) = u64s (l.set i v) := by simp [u64s, List.map_set]
theorem u64s_append (l l' : List Int) : u64s (l ++ l') = u64s l ++ u64s l' := by simp [u64s]
theorem u64s_drop (l : List Int) (n : Nat) : (u64s l).drop n = u64s (l.drop n) := by simp [u64s]
theorem u64s_take (l : List Int) (n : Nat) : (u64s l).take n = u64s (l.take n) := by simp [u64s]

@[simp] theorem u64s_nil : u64s [] = [] := rfl
def i64s (l : List Int) : List Value := l.map (.int .i64)
@[simp] theorem i64s_nil : i64s [] = [] := rfl
theorem i64s_length (l : List Int) : (i64s l).length = l.length := by simp [i64s]
theorem i64s_get (l : List Int) (i : Nat) : (i64s l)[i]? = (l[i]?).map (.int .i64) := by simp [i64s]
theorem i64s_cell (l : List Int) : ∀ u ∈ i64s l, isCell u = true := by
  intro u hu
  simp only [i64s, List.mem_map] at hu
  obtain ⟨n, _, rfl⟩ := hu
  rfl
theorem i64s_set (l : List Int) (i : Nat) (v : Int) : (i64s l).set i (.int .i64 v) = i64s (l.set i v) := by simp [i64s, List.map_set]
theorem i64s_append (l l' : List Int) : i64s (l ++ l') = i64s l ++ i64s l' := by simp [i64s]
theorem i64s_drop (l : List Int) (n : Nat) : (i64s l).drop n = i64s (l.drop n) := by simp [i64s]
theorem i64s_take (l : List Int) (n : Nat) : (i64s l).take n = i64s (l.take n) := by simp [i64s]
theorem u64s_inj {l l' : List Int} (h : u64s l = u64s l') : l = l' := by
  have := congrArg (List.map fun v : Value => match v with | .int _ n => n | _ => 0) h
  simpa [u64s, List.map_map, Function.comp_def] using this

theorem Rd.u64 {w : World} {a : Option Addr} {l : Nat} {xs : List Int} {F : List Nat} (h : Rd w a l 1 (u64s xs) F) : xs.length = l := by have := h.length; simpa [u64s] using this
theorem Rd.i64 {w : World} {a : Option Addr} {l : Nat} {xs : List Int} {F : List Nat} (h : Rd w a l 1 (i64s xs) F) : xs.length = l := by have := h.length; simpa [i64s] using this
theorem SlB.u64 {w : World} {a : Option Addr} {l c : Nat} {xs : List Int} {F : List Nat} (h : SlB w a l c 1 (u64s xs) F) : xs.length = l := by have := h.length; simpa [u64s] using this
theorem SlB.i64 {w : World} {a : Option Addr} {l c : Nat} {xs : List Int} {F : List Nat} (h : SlB w a l c 1 (i64s xs) F) : xs.length = l := by have := h.length; simpa [i64s] using this

/-- A word of a row. -/
theorem Rd.u64at {w : World} {a : Option Addr} {l : Nat} {xs : List Int} {F : List Nat} (h : Rd w a l 1 (u64s xs) F) {k : Nat} (hk : k < l) : ∃ ad x, a = some ad ∧ xs[k]? = some x ∧ w.cell? (Addr.add ad k) = some (.int .u64 x) ∧ F = [ad.block] ∧ ad.block < w.heap.size := by
  have hl := h.u64
  obtain ⟨ad, ha, hF, hb, hc⟩ := h.at (by omega)
  have hx : xs[k]? = some (xs[k]'(by omega)) := List.getElem?_eq_getElem _
  exact ⟨ad, _, ha, hx, by rw [hc k (by simp [u64s]; omega), u64s_get, hx]; rfl, hF, hb⟩
theorem Rd.i64at {w : World} {a : Option Addr} {l : Nat} {xs : List Int} {F : List Nat} (h : Rd w a l 1 (i64s xs) F) {k : Nat} (hk : k < l) : ∃ ad x, a = some ad ∧ xs[k]? = some x ∧ w.cell? (Addr.add ad k) = some (.int .i64 x) ∧ F = [ad.block] ∧ ad.block < w.heap.size := by
  have hl := h.i64
  obtain ⟨ad, ha, hF, hb, hc⟩ := h.at (by omega)
  have hx : xs[k]? = some (xs[k]'(by omega)) := List.getElem?_eq_getElem _
  exact ⟨ad, _, ha, hx, by rw [hc k (by simp [i64s]; omega), i64s_get, hx]; rfl, hF, hb⟩

theorem flat1 {k : IntKind} (vss : List (List Value)) (h : ∀ vs ∈ vss, ∃ n : Int, vs = [.int k n] ∧ (Lit.int k n).wf = true) : ∃ xs : List Int, vss.flatten = xs.map (.int k) ∧ xs.length = vss.length ∧ ∀ x ∈ xs, (Lit.int k x).wf = true := by
  induction vss with
  | nil => exact ⟨[], rfl, rfl, by simp⟩
  | cons v vss ih =>
    obtain ⟨xs, h1, h2, h3⟩ := ih fun vs hv => h vs (by simp [hv])
    obtain ⟨n, rfl, hn⟩ := h v (by simp)
    refine ⟨n :: xs, by simp [h1], by simp [h2], ?_⟩
    intro x hx
    simp only [List.mem_cons] at hx
    rcases hx with rfl | hx
    · exact hn
    · exact h3 x hx

end Go.Den
