/-
  '==' of structs whose fields are numbers, bools and texts.
-/
import Derived.Test.YtkcnchnlhdhcbaaDen11
import Derived.ChangeKeysEq
import Derived.Laws.StructEq
set_option linter.unusedSimpArgs false
namespace Go.Den
open Go

def shOK : Option TypeDesc → Sh → Bool
  | some (.int k), .int k' => k == k'
  | some .bool, .bool => true
  | some .string, .str => true
  | _, _ => false

def flatF (P : Program) : Nat → List Field → List Sh → Bool
  | _, [], [] => true
  | o, f :: fs, s :: ss => f.offset == o && f.name != "_" && P.plainKey f.type && shOK (P.underlying f.type) s && flatF P (o + 1) fs ss
  | _, _, _ => false

/-- A struct type of such fields. -/
def EqT (P : Program) (t : TypeId) (ss : List Sh) : Prop := P.underlying t = some (.struct (P.fieldsOf t)) ∧ P.stoodInHeld t = false ∧ flatF P 0 (P.fieldsOf t).toList ss = true

def matchS : Sh → Value → Prop
  | .int k, .int k' _ => k = k'
  | .bool, .bool _ => True
  | .str, .string _ => True
  | _, _ => False
def matchL : List Sh → List Value → Prop
  | [], [] => True
  | s :: ss, v :: vs => matchS s v ∧ matchL ss vs
  | _, _ => False

theorem cellsEq_cons (x y : Value) (xs ys : List Value) : cellsEq (x :: xs) (y :: ys) = (cellEq x y && cellsEq xs ys) := by
  cases xs with
  | nil => simp [cellsEq]
  | cons z zs => simp [cellsEq]

theorem eqFields_run {P : Program} {d : Nat} {X Y : Array Value} : ∀ (fs : List Field) (ss : List Sh) (xs ys : List Value) (o : Nat) (w : World), flatF P o fs ss = true → X.toList.drop o = xs → Y.toList.drop o = ys → matchL ss xs → matchL ss ys →
    (Op.eqFields (d + 1) X Y fs).run P w = .ok (cellsEq xs ys) w
  | [], [], [], [], o, w, _, _, _, _, _ => by simp [Op.eqFields, cellsEq]
  | [], [], [], y :: ys, o, w, _, _, _, _, h => by simp [matchL] at h
  | [], [], x :: xs, ys, o, w, _, _, _, h, _ => by simp [matchL] at h
  | [], s :: ss, xs, ys, o, w, h, _, _, _, _ => by simp [flatF] at h
  | f :: fs, [], xs, ys, o, w, h, _, _, _, _ => by simp [flatF] at h
  | f :: fs, s :: ss, [], ys, o, w, _, _, _, h, _ => by simp [matchL] at h
  | f :: fs, s :: ss, x :: xs, [], o, w, _, _, _, _, h => by simp [matchL] at h
  | f :: fs, s :: ss, x :: xs, y :: ys, o, w, hf, hx, hy, hmx, hmy => by
    simp only [flatF, Bool.and_eq_true, beq_iff_eq, bne_iff_ne, ne_eq] at hf
    obtain ⟨⟨⟨⟨rfl, hn⟩, hp⟩, hs⟩, hf⟩ := hf
    have hx0 : X[f.offset]? = some x := by
      have := congrArg (·[0]?) hx
      simpa using this
    have hy0 : Y[f.offset]? = some y := by
      have := congrArg (·[0]?) hy
      simpa using this
    have hx1 : X.toList.drop (f.offset + 1) = xs := by
      have := congrArg List.tail hx
      simpa using this
    have hy1 : Y.toList.drop (f.offset + 1) = ys := by
      have := congrArg List.tail hy
      simpa using this
    have ih := fun w => eqFields_run (d := d) fs ss xs ys (f.offset + 1) w hf hx1 hy1 hmx.2 hmy.2
    have hc : (Op.equalIn (d + 1) f.type x y).run P w = .ok (cellEq x y) w := by
      cases hu : P.underlying f.type with
      | none => simp [hu, shOK] at hs
      | some u =>
        rw [hu] at hs
        cases u <;> cases s <;> simp [shOK] at hs
        · have h1 := hmx.1; have h2 := hmy.1
          cases x <;> cases y <;> simp [matchS] at h1 h2
          simp [Op.equalIn, run_underlying hu, cellEq]
        · subst hs
          have h1 := hmx.1; have h2 := hmy.1
          cases x <;> simp [matchS] at h1
          cases y <;> simp [matchS] at h2
          subst h1; subst h2
          simp [Op.equalIn, run_underlying hu, cellEq]
        · have h1 := hmx.1; have h2 := hmy.1
          cases x <;> cases y <;> simp [matchS] at h1 h2
          simp [Op.equalIn, run_underlying hu, cellEq]
    simp only [Op.eqFields, hn, ne_eq, not_false_eq_true, if_true, Sem.run_bind, run_part_plain w hp hx0, run_part_plain w hp hy0, Result.andThen_ok, hc]
    rw [cellsEq_cons]
    cases cellEq x y
    · simp
    · simpa using ih w

theorem eqAgg_K {P : Program} {t : TypeId} {ss : List Sh} (h : EqT P t ss) {xs ys : List Value} (hx : matchL ss xs) (hy : matchL ss ys) {K : Bool → Prop} (hK : K (cellsEq xs ys)) : eqAgg P t xs.toArray ys.toArray K := by
  obtain ⟨hu, hs, hf⟩ := h
  refine ⟨cellsEq xs ys, fun w => ?_, hK⟩
  have : Op.equal t (.agg xs.toArray) (.agg ys.toArray) = Op.equalIn (9998 + 1 + 1) t (.agg xs.toArray) (.agg ys.toArray) := rfl
  rw [this, run_equalIn_agg w _ t _ _ hu hs]
  exact eqFields_run _ ss xs ys 0 w hf rfl rfl hx hy

theorem cellsEq_self : ∀ {ss : List Sh} {xs : List Value}, matchL ss xs → cellsEq xs xs = true
  | [], [], _ => rfl
  | [], x :: xs, h => by simp [matchL] at h
  | s :: ss, [], h => by simp [matchL] at h
  | s :: ss, x :: xs, h => by
    rw [cellsEq_cons, cellsEq_self h.2]
    have := h.1
    cases s <;> cases x <;> simp [matchS] at this <;> simp [cellEq, beq_toListBytes]

end Go.Den
