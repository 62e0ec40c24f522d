/-
  A block of pointers, each nil or to a block of its own; behind them other cells.
-/
import Derived.Test.YtkcnchnlhdhcbaaDen14
set_option linter.unusedSimpArgs false
namespace Go.Den
open Go

def ptrTo : Option Nat → Value
  | none => .pointer none
  | some r => .pointer (some ⟨r, 0, none⟩)

theorem ptrTo_eq (o : Option Nat) : ptrTo o = .pointer (o.map fun r => ⟨r, 0, none⟩) := by cases o <;> rfl

theorem mem_ids {ps : List (Option Nat)} {r : Nat} : r ∈ ps.filterMap id ↔ ∃ i : Nat, ps[i]? = some (some r) := by
  rw [List.mem_filterMap]
  constructor
  · rintro ⟨a, ha, rfl⟩
    exact List.getElem?_of_mem ha
  · rintro ⟨i, hi⟩
    exact ⟨some r, List.mem_of_getElem? hi, rfl⟩

/-- 'ob i' says what the block at place 'i' holds. -/
structure PT (w : World) (p : Nat) (ps : List (Option Nat)) (ob : Nat → Option (Array Value)) (rest : List Value) (F : List Nat) : Prop where
  row : ∃ T, w.heap[p]? = some (.cells (ps.map ptrTo ++ rest).toArray T (0, 0))
  at_ : ∀ (i q : Nat), ps[i]? = some (some q) → ∃ arr T, ob i = some arr ∧ w.heap[q]? = some (.cells arr T (0, 0))
  no : ∀ i : Nat, ps[i]? = some none → ob i = none
  inj : ∀ i j q : Nat, ps[i]? = some (some q) → ps[j]? = some (some q) → i = j
  np : ∀ i : Nat, ps[i]? ≠ some (some p)
  F_ : F = p :: ps.filterMap id

section
variable {w w' : World} {p : Nat} {ps : List (Option Nat)} {ob : Nat → Option (Array Value)} {rest : List Value} {F : List Nat}

theorem PT.mem (h : PT w p ps ob rest F) {i q : Nat} (hi : ps[i]? = some (some q)) : q ∈ F := by
  rw [h.F_, List.mem_cons]; exact .inr (mem_ids.2 ⟨i, hi⟩)
theorem PT.pmem (h : PT w p ps ob rest F) : p ∈ F := by rw [h.F_]; simp
theorem PT.lt (h : PT w p ps ob rest F) : ∀ b ∈ F, b < w.heap.size := by
  intro b hb
  rw [h.F_, List.mem_cons] at hb
  rcases hb with rfl | hb
  · obtain ⟨T, h1⟩ := h.row; exact lt_of_get h1
  · obtain ⟨i, hi⟩ := mem_ids.1 hb
    obtain ⟨arr, T, _, h2⟩ := h.at_ i b hi
    exact lt_of_get h2
theorem PT.keep (h : PT w p ps ob rest F) (hk : ∀ b ∈ F, w'.heap[b]? = w.heap[b]?) : PT w' p ps ob rest F := by
  obtain ⟨T, h1⟩ := h.row
  refine ⟨⟨T, (hk p h.pmem).trans h1⟩, fun i q hi => ?_, h.no, h.inj, h.np, h.F_⟩
  obtain ⟨arr, T, h2, h3⟩ := h.at_ i q hi
  exact ⟨arr, T, h2, (hk q (h.mem hi)).trans h3⟩
theorem PT.cell (h : PT w p ps ob rest F) {i : Nat} (hi : i < ps.length) : ∃ o, ps[i]? = some o ∧ w.cell? ⟨p, i, none⟩ = some (ptrTo o) := by
  obtain ⟨T, h1⟩ := h.row
  refine ⟨_, List.getElem?_eq_getElem hi, ?_⟩
  rw [cell_get h1]
  simp [List.getElem?_append, hi]
theorem PT.rcell (h : PT w p ps ob rest F) {i : Nat} {v : Value} (hi : rest[i]? = some v) : w.cell? ⟨p, ps.length + i, none⟩ = some v := by
  obtain ⟨T, h1⟩ := h.row
  rw [cell_get h1]
  simp [List.getElem?_append, hi]

/-- The other cells are written. -/
theorem PT.turn (h : PT w p ps ob rest F) {rest' : List Value} {T : TypeId} (hp : w'.heap[p]? = some (.cells (ps.map ptrTo ++ rest').toArray T (0, 0))) (hm : ∀ b ∈ F, b ≠ p → w'.heap[b]? = w.heap[b]?) : PT w' p ps ob rest' F := by
  refine ⟨⟨T, hp⟩, fun i q hi => ?_, h.no, h.inj, h.np, h.F_⟩
  obtain ⟨arr, T, h2, h3⟩ := h.at_ i q hi
  exact ⟨arr, T, h2, (hm q (h.mem hi) fun e => h.np i (e ▸ hi)).trans h3⟩

/-- What the blocks hold is said anew. -/
theorem PT.say (h : PT w p ps ob rest F) {ob' : Nat → Option (Array Value)} (he : ∀ i < ps.length, ob' i = ob i) : PT w p ps ob' rest F := by
  refine ⟨h.row, fun i q hi => ?_, fun i hi => ?_, h.inj, h.np, h.F_⟩
  · obtain ⟨arr, T, h2, h3⟩ := h.at_ i q hi
    exact ⟨arr, T, by rw [he i (List.getElem?_eq_some_iff.1 hi).1]; exact h2, h3⟩
  · rw [he i (List.getElem?_eq_some_iff.1 hi).1]; exact h.no i hi

/-- A pointer is set to a new block. -/
theorem PT.put (h : PT w p ps ob rest F) {k q : Nat} {arr : Array Value} {T Tq : TypeId} (hk : ps[k]? = some none) (hp : w'.heap[p]? = some (.cells ((ps.set k (some q)).map ptrTo ++ rest).toArray T (0, 0))) (hq : w'.heap[q]? = some (.cells arr Tq (0, 0))) (hqF : q ∉ F)
    (hm : ∀ b ∈ F, b ≠ p → w'.heap[b]? = w.heap[b]?) : ∃ F', PT w' p (ps.set k (some q)) (fun i => if k = i then some arr else ob i) rest F' ∧ (∀ b ∈ F', b ∈ F ∨ b = q) := by
  have hkl := (List.getElem?_eq_some_iff.1 hk).1
  have hqp : q ≠ p := fun e => hqF (e ▸ h.pmem)
  refine ⟨p :: (ps.set k (some q)).filterMap id, ⟨⟨T, hp⟩, fun i r hi => ?_, fun i hi => ?_, fun i j r hi hj => ?_, fun i hi => ?_, rfl⟩, fun b hb => ?_⟩
  · rw [List.getElem?_set] at hi
    by_cases hik : k = i
    · rw [if_pos hik, if_pos hkl] at hi
      obtain rfl : q = r := Option.some.inj (Option.some.inj hi)
      exact ⟨arr, Tq, if_pos hik, hq⟩
    · rw [if_neg hik] at hi
      obtain ⟨arr', T', h2, h3⟩ := h.at_ i r hi
      exact ⟨arr', T', by rw [if_neg hik]; exact h2, (hm r (h.mem hi) fun e => h.np i (e ▸ hi)).trans h3⟩
  · rw [List.getElem?_set] at hi
    by_cases hik : k = i
    · rw [if_pos hik, if_pos hkl] at hi; cases hi
    · rw [if_neg hik] at hi
      rw [if_neg hik]; exact h.no i hi
  · rw [List.getElem?_set] at hi hj
    by_cases hik : k = i <;> by_cases hjk : k = j
    · omega
    · rw [if_pos hik, if_pos hkl] at hi
      rw [if_neg hjk] at hj
      obtain rfl : q = r := Option.some.inj (Option.some.inj hi)
      exact absurd (h.mem hj) hqF
    · rw [if_neg hik] at hi
      rw [if_pos hjk, if_pos hkl] at hj
      obtain rfl : q = r := Option.some.inj (Option.some.inj hj)
      exact absurd (h.mem hi) hqF
    · rw [if_neg hik] at hi; rw [if_neg hjk] at hj
      exact h.inj i j r hi hj
  · rw [List.getElem?_set] at hi
    by_cases hik : k = i
    · rw [if_pos hik, if_pos hkl] at hi
      exact hqp (Option.some.inj (Option.some.inj hi))
    · rw [if_neg hik] at hi
      exact h.np i hi
  · rw [List.mem_cons] at hb
    rcases hb with rfl | hb
    · exact .inl h.pmem
    · obtain ⟨i, hi⟩ := mem_ids.1 hb
      rw [List.getElem?_set] at hi
      by_cases hik : k = i
      · rw [if_pos hik, if_pos hkl] at hi
        exact .inr (Option.some.inj (Option.some.inj hi)).symm
      · rw [if_neg hik] at hi
        exact .inl (h.mem hi)

/-- A pointer is set to nil. -/
theorem PT.del (h : PT w p ps ob rest F) {k : Nat} {T : TypeId} (hp : w'.heap[p]? = some (.cells ((ps.set k none).map ptrTo ++ rest).toArray T (0, 0)))
    (hm : ∀ b ∈ F, b ≠ p → w'.heap[b]? = w.heap[b]?) : ∃ F', PT w' p (ps.set k none) (fun i => if k = i then none else ob i) rest F' ∧ (∀ b ∈ F', b ∈ F) ∧ (∀ q, ps[k]? = some (some q) → q ∉ F') := by
  refine ⟨p :: (ps.set k none).filterMap id, ⟨⟨T, hp⟩, fun i r hi => ?_, fun i hi => ?_, fun i j r hi hj => ?_, fun i hi => ?_, rfl⟩, fun b hb => ?_, fun q hq hb => ?_⟩
  · rw [List.getElem?_set] at hi
    by_cases hik : k = i
    · rw [if_pos hik] at hi; split at hi <;> cases hi
    · rw [if_neg hik] at hi
      obtain ⟨arr', T', h2, h3⟩ := h.at_ i r hi
      exact ⟨arr', T', by rw [if_neg hik]; exact h2, (hm r (h.mem hi) fun e => h.np i (e ▸ hi)).trans h3⟩
  · rw [List.getElem?_set] at hi
    by_cases hik : k = i
    · rw [if_pos hik]
    · rw [if_neg hik] at hi
      rw [if_neg hik]; exact h.no i hi
  · rw [List.getElem?_set] at hi hj
    by_cases hik : k = i
    · rw [if_pos hik] at hi; split at hi <;> cases hi
    · by_cases hjk : k = j
      · rw [if_pos hjk] at hj; split at hj <;> cases hj
      · rw [if_neg hik] at hi; rw [if_neg hjk] at hj
        exact h.inj i j r hi hj
  · rw [List.getElem?_set] at hi
    by_cases hik : k = i
    · rw [if_pos hik] at hi; split at hi <;> cases hi
    · rw [if_neg hik] at hi
      exact h.np i hi
  · rw [List.mem_cons] at hb
    rcases hb with rfl | hb
    · exact h.pmem
    · obtain ⟨i, hi⟩ := mem_ids.1 hb
      rw [List.getElem?_set] at hi
      by_cases hik : k = i
      · rw [if_pos hik] at hi; split at hi <;> cases hi
      · rw [if_neg hik] at hi
        exact h.mem hi
  · rw [List.mem_cons] at hb
    rcases hb with rfl | hb
    · exact h.np k hq
    · obtain ⟨i, hi⟩ := mem_ids.1 hb
      rw [List.getElem?_set] at hi
      by_cases hik : k = i
      · rw [if_pos hik] at hi; split at hi <;> cases hi
      · rw [if_neg hik] at hi
        exact hik (h.inj k i q hq hi)

/-- A block that is pointed to is written. -/
theorem PT.mod1 (h : PT w p ps ob rest F) {k q : Nat} {arr : Array Value} {T : TypeId} (hk : ps[k]? = some (some q)) (hq : w'.heap[q]? = some (.cells arr T (0, 0)))
    (hm : ∀ b ∈ F, b ≠ q → w'.heap[b]? = w.heap[b]?) : PT w' p ps (fun i => if k = i then some arr else ob i) rest F := by
  obtain ⟨T1, h1⟩ := h.row
  refine ⟨⟨T1, (hm p h.pmem fun e => h.np k (e ▸ hk)).trans h1⟩, fun i r hi => ?_, fun i hi => ?_, h.inj, h.np, h.F_⟩
  · by_cases hik : k = i
    · subst hik
      obtain rfl : q = r := Option.some.inj (Option.some.inj (hk.symm.trans hi))
      exact ⟨arr, T, if_pos rfl, hq⟩
    · obtain ⟨arr', T', h2, h3⟩ := h.at_ i r hi
      exact ⟨arr', T', by rw [if_neg hik]; exact h2, (hm r (h.mem hi) fun e => hik (h.inj k i q hk (e ▸ hi))).trans h3⟩
  · by_cases hik : k = i
    · subst hik
      rw [hk] at hi; cases hi
    · rw [if_neg hik]; exact h.no i hi
end

theorem ptrs_set (ps : List (Option Nat)) (rest : List Value) {k : Nat} (hk : k < ps.length) (o : Option Nat) : (ps.map ptrTo ++ rest).toArray.setIfInBounds k (ptrTo o) = ((ps.set k o).map ptrTo ++ rest).toArray := by
  rw [List.setIfInBounds_toArray, List.set_append_left _ _ (by simpa using hk), List.map_set]
theorem rest_set (ps : List (Option Nat)) (rest : List Value) (j : Nat) (v : Value) : (ps.map ptrTo ++ rest).toArray.setIfInBounds (ps.length + j) v = (ps.map ptrTo ++ rest.set j v).toArray := by
  rw [List.setIfInBounds_toArray, List.set_append_right _ _ (by simp), List.length_map, Nat.add_sub_cancel_left]

end Go.Den
