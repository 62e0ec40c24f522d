/-
  A state of several parts that lie apart.
-/
import Derived.Test.YtkcnchnlhdhcbaaDen10
set_option linter.unusedSimpArgs false
namespace Go.Den
open Go

structure Part where
  F : List Nat
  P : World → Prop
  keep : ∀ {w w' : World}, P w → (∀ b ∈ F, w'.heap[b]? = w.heap[b]?) → P w'
  lt : ∀ {w : World}, P w → ∀ b ∈ F, b < w.heap.size

/-- One block, as it is. -/
def blk (b : Nat) (o : Obj) : Part := ⟨[b], fun w => w.heap[b]? = some o, fun h k => (k b (by simp)).trans h, fun h c hc => by simp only [List.mem_singleton] at hc; subst hc; exact lt_of_get h⟩
/-- A row. -/
def sl (a : Option Addr) (l c sz : Nat) (vs : List Value) (F : List Nat) : Part := ⟨F, fun w => SlB w a l c sz vs F, fun h k => h.keep k, fun h => h.lt⟩

/-- Behind 'w0' nothing that was has turned; the parts 'l' are new, and lie apart. -/
def Sep (w0 w : World) (l : List Part) : Prop :=
  Mod [] w0 w ∧ (∀ (i : Nat) p, l[i]? = some p → p.P w ∧ Beyond w0.heap.size p.F) ∧ ∀ (i j : Nat) p q, i ≠ j → l[i]? = some p → l[j]? = some q → ∀ x ∈ p.F, x ∉ q.F

theorem Sep.mod {w0 w : World} {l : List Part} (h : Sep w0 w l) : Mod [] w0 w := h.1
theorem Sep.nil {w0 w : World} (h : Mod [] w0 w) : Sep w0 w [] := ⟨h, by simp, by simp⟩
theorem Sep.nth {w0 w : World} {l : List Part} (h : Sep w0 w l) (i : Nat) {p : Part} (hi : l[i]? = some p) : p.P w := (h.2.1 i p hi).1
theorem Sep.bey {w0 w : World} {l : List Part} (h : Sep w0 w l) (i : Nat) {p : Part} (hi : l[i]? = some p) : Beyond w0.heap.size p.F := (h.2.1 i p hi).2
theorem Sep.dj {w0 w : World} {l : List Part} (h : Sep w0 w l) (i j : Nat) {p q : Part} (hij : i ≠ j) (hi : l[i]? = some p) (hj : l[j]? = some q) : ∀ x ∈ p.F, x ∉ q.F := h.2.2 i j p q hij hi hj

theorem Sep.mod0 {w0 w w' : World} {l : List Part} (h : Sep w0 w l) (hm : Mod [] w w') : Sep w0 w' l :=
  ⟨h.1.trans' hm, fun i p hi => ⟨p.keep (h.nth i hi) (hm.at0 (p.lt (h.nth i hi))), h.bey i hi⟩, h.2.2⟩

/-- A part turns. -/
theorem Sep.step {w0 w w' : World} {l : List Part} (h : Sep w0 w l) (i : Nat) {p : Part} (hi : l[i]? = some p) (p' : Part) (hp : p'.P w') (hm : Mod p.F w w') (ho : Own w p.F p'.F) : Sep w0 w' (l.set i p') := by
  have hil : i < l.length := (List.getElem?_eq_some_iff.1 hi).1
  have hb := (h.bey i hi).own ho h.1.size
  have other : ∀ (j : Nat) q, i ≠ j → l[j]? = some q → q.P w' ∧ (∀ x ∈ p'.F, x ∉ q.F) := fun j q hij hj => by
    have hq := h.nth j hj
    obtain ⟨h1, h2⟩ := side hm (fun _ h => h) ho (q.lt hq) (h.dj i j hij hi hj)
    exact ⟨q.keep hq h1, h2⟩
  refine ⟨(h.bey i hi).mod h.1 hm, fun j q hj => ?_, fun j k q r hjk hj hk => ?_⟩
  · rw [List.getElem?_set] at hj
    by_cases hij : i = j
    · rw [if_pos hij, if_pos (by omega)] at hj
      obtain rfl := Option.some.inj hj
      exact ⟨hp, hb⟩
    · rw [if_neg hij] at hj
      exact ⟨(other j q hij hj).1, h.bey j hj⟩
  · rw [List.getElem?_set] at hj hk
    by_cases hij : i = j <;> by_cases hik : i = k
    · omega
    · rw [if_pos hij, if_pos (by omega)] at hj
      rw [if_neg hik] at hk
      obtain rfl := Option.some.inj hj
      exact (other k r hik hk).2
    · rw [if_pos hik, if_pos (by omega)] at hk
      rw [if_neg hij] at hj
      obtain rfl := Option.some.inj hk
      exact fun x hx hx' => (other j q hij hj).2 x hx' hx
    · rw [if_neg hij] at hj
      rw [if_neg hik] at hk
      exact h.dj j k hjk hj hk

/-- A part turns within its blocks. -/
theorem Sep.turn {w0 w w' : World} {l : List Part} (h : Sep w0 w l) (i : Nat) {p : Part} (hi : l[i]? = some p) (p' : Part) (hp : p'.P w') (hm : Mod p.F w w') (hF : p'.F = p.F := by rfl) : Sep w0 w' (l.set i p') :=
  h.step i hi p' hp hm (fun b hb => .inl (hF ▸ hb))

/-- One more part, laid behind 'w'. -/
theorem Sep.push {w0 w w' : World} {l : List Part} (h : Sep w0 w l) (q : Part) (hm : Mod [] w w') (hq : q.P w') (hF : Beyond w.heap.size q.F) : Sep w0 w' (q :: l) := by
  have h' := h.mod0 hm
  have ap : ∀ (j : Nat) r, l[j]? = some r → ∀ x ∈ q.F, x ∉ r.F := fun j r hj x hx hx' => by
    have := r.lt (h.nth j hj) x hx'
    have := hF x hx
    omega
  refine ⟨h'.1, fun i p hi => ?_, fun i j p r hij hi hj => ?_⟩
  · cases i with
    | zero =>
      obtain rfl := Option.some.inj hi
      exact ⟨hq, fun x hx => Nat.le_trans h.1.size (hF x hx)⟩
    | succ i => exact ⟨h'.nth i hi, h'.bey i hi⟩
  · cases i with
    | zero =>
      obtain rfl := Option.some.inj hi
      cases j with
      | zero => omega
      | succ j => exact ap j r hj
    | succ i =>
      cases j with
      | zero =>
        obtain rfl := Option.some.inj hj
        exact fun x hx hx' => ap i p hi x hx' hx
      | succ j => exact h.dj i j (by omega) hi hj

theorem Sep.pop {w0 w : World} {q : Part} {l : List Part} (h : Sep w0 w (q :: l)) : Sep w0 w l :=
  ⟨h.1, fun i p hi => h.2.1 (i + 1) p hi, fun i j p r hij hi hj => h.2.2 (i + 1) (j + 1) p r (by omega) hi hj⟩

/-- A block that is a part of both worlds. -/
theorem Sep.kept {w0 w w' : World} {l l' : List Part} {b : Nat} {o : Obj} (h : Sep w0 w l) (h' : Sep w0 w' l') (i j : Nat) (hi : l[i]? = some (blk b o)) (hj : l'[j]? = some (blk b o)) : w'.heap[b]? = w.heap[b]? :=
  (show w'.heap[b]? = some o from h'.nth j hj).trans (show w.heap[b]? = some o from h.nth i hi).symm
theorem keepB1 {b : Nat} {w w' : World} (h : w'.heap[b]? = w.heap[b]?) : keepB [b] w w' := fun x hx => by
  simp only [List.mem_singleton] at hx
  subst hx
  exact h

theorem splice_all : ∀ (vs : List Value) (pre rest : List Value), vs.length = rest.length → splice (pre ++ rest).toArray pre.length vs = (pre ++ vs).toArray
  | [], pre, rest, h => by
    have : rest = [] := List.eq_nil_of_length_eq_zero (by simpa using h.symm)
    subst this
    rfl
  | v :: vs, pre, [], h => by simp at h
  | v :: vs, pre, r :: rest, h => by
    have := splice_all vs (pre ++ [v]) rest (by simpa using h)
    simp only [splice_cons, List.setIfInBounds_toArray]
    rw [List.set_append_right _ _ (Nat.le_refl _)]
    simp only [Nat.sub_self, List.set_cons_zero]
    simpa using this

/-- A new block. -/
theorem Sep.alloc {w0 w : World} {l : List Part} (h : Sep w0 w l) (o : Obj) : Sep w0 (w.alloc o) (blk w.heap.size o :: l) :=
  h.push (blk w.heap.size o) ((Mod.refl [] w).alloc o) (alloc_new w o) (by intro x hx; simp only [blk, List.mem_singleton] at hx; omega)

/-- A variable that is laid and written. -/
theorem Sep.stK {w0 w : World} {l : List Part} (h : Sep w0 w l) {vs : List Value} {zs : Array Value} {T : TypeId} {K : World → Prop} (hl : vs.length = zs.size)
    (hK : ∀ w', Sep w0 w' (blk w.heap.size (.cells vs.toArray T (0, 0)) :: l) → Mod [] w w' → K w') : stK ⟨w.heap.size, 0, none⟩ vs (w.alloc (.cells zs T)) K := by
  refine stK_of (alloc_new _ _) (by omega) ?_
  have e : splice zs 0 vs = vs.toArray := by
    have := splice_all vs [] zs.toList (by simpa using hl)
    simpa using this
  rw [e]
  have hm : Mod [] w ((w.alloc (.cells zs T)).upd w.heap.size (.cells vs.toArray T (0, 0))) := ((Mod.refl [] w).alloc _).upd (.inr (Nat.le_refl _)) _
  exact hK _ (h.push (blk w.heap.size (.cells vs.toArray T (0, 0))) hm (upd_same (alloc_new w _)) (by intro x hx; simp only [blk, List.mem_singleton] at hx; omega)) hm

end Go.Den
