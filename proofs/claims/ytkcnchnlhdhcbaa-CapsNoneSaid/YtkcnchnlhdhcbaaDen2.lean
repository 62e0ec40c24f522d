/-
  The operations that only read: what 'opQ' says holds of the model's own run.
-/
import Derived.Test.YtkcnchnlhdhcbaaDen
import Derived.LaidEql
import Derived.Laws.Cells
import Derived.Laws.Concat
set_option linter.unusedSimpArgs false
namespace Go.Den
open Go

variable {P : Program} {ctl : List Nat} {o : Oper} {a : Act} {w : World} {B : Option (List Nat)} {next : Act → Prop}

/-- In 'w', and in every world that has the blocks 'B' as 'w' has them, the operation yields 'v' and does nothing else. -/
def YV (P : Program) (o : Oper) (a : Act) (w : World) (B : Option (List Nat)) (v : Value) : Prop :=
  (execOp a.eval o).run P w = .ok (.value v) w ∧ ∀ bs, B = some bs → ∀ w' : World, (∀ b ∈ bs, w'.heap[b]? = w.heap[b]?) → (execOp a.eval o).run P w' = .ok (.value v) w'

theorem YV.always {v : Value} (h : ∀ w : World, (execOp a.eval o).run P w = .ok (.value v) w) : YV P o a w B v := ⟨h w, fun _ _ w' _ => h w'⟩
theorem YV.now {v : Value} (h : (execOp a.eval o).run P w = .ok (.value v) w) : YV P o a w none v := ⟨h, fun _ h => by cases h⟩

/-- What is to be shown of each operation. -/
def Got (P : Program) (o : Oper) (a : Act) (w : World) (B : Option (List Nat)) (next : Act → Prop) : Prop := ∃ v, YV P o a w B v ∧ next (a.put o.dst v)

theorem Got.of {v : Value} (h : finQ ctl o.dst a next v) (hy : YV P o a w B v) : Got P o a w B next := ⟨v, hy, finQ_of h⟩

theorem cellsOf_of {t : TypeId} {i : TypeInfo} (h : P.info? t = some i) : P.cellsOf t = i.size := by simp [Program.cellsOf, h]

theorem isSome_of_cells {t : TypeId} (h : P.cellsOf t ≠ 0) : ∃ i, P.info? t = some i := by
  cases hi : P.info? t with
  | some i => exact ⟨i, rfl⟩
  | none => simp [Program.cellsOf, hi] at h

theorem run_sizeOf' {t : TypeId} (h : P.cellsOf t ≠ 0) (w : World) : (sizeOf t).run P w = .ok (P.cellsOf t) w := by
  obtain ⟨i, hi⟩ := isSome_of_cells h
  simp [sizeOf, typeInfo, hi, Program.cellsOf]

theorem isAgg_true {t : TypeId} (h : isAgg P t = true) (w : World) : (Go.isAgg t).run P w = .ok true w := by
  unfold isAgg at h
  unfold Go.isAgg
  split at h
  · rename_i h'; simp [run_underlying h']
  · rename_i h'; simp [run_underlying h']
  · cases h

theorem isAgg_false {t : TypeId} (h : isAgg P t = false) (h1 : P.underlying t ≠ none) (w : World) : (Go.isAgg t).run P w = .ok false w := by
  unfold isAgg at h
  unfold Go.isAgg
  cases hu : P.underlying t with
  | none => exact absurd hu h1
  | some d => cases d <;> simp_all [run_underlying hu]

theorem shs_headD {t : TypeId} {K : Value → Prop} (h : exS ((shs P 1 t).headD .any) K) : ∃ v, K v := exS_of h

theorem cellsAre_get : ∀ {vs : List Value} {i : Nat} {ad : Addr} {w : World}, cellsAre w ad i vs → ∀ j v, vs[j]? = some v → w.cell? (ad.add (i + j)) = some v
  | [], _, _, _, _, j, v, hv => by simp at hv
  | [x], i, ad, w, h, j, v, hv => by
    cases j with
    | zero => simp at hv; subst hv; simpa [cellsAre] using h
    | succ j => simp at hv
  | x :: y :: vs, i, ad, w, h, j, v, hv => by
    simp only [cellsAre] at h
    cases j with
    | zero => simp at hv; subst hv; simpa using h.1
    | succ j =>
      have := cellsAre_get (vs := y :: vs) h.2 j v (by simpa using hv)
      rwa [show i + 1 + j = i + (j + 1) by omega] at this

theorem same_cell {w w' : World} {ad : Addr} (h : w'.heap[ad.block]? = w.heap[ad.block]?) : w'.cell? ad = w.cell? ad := by simp [World.cell?, h]

theorem add_block (ad : Addr) (n : Nat) : (ad.add n).block = ad.block := by unfold Addr.add; split <;> rfl

/-- A load, in every world in which the cells are as they are here. -/
theorem ldT_of {t : TypeId} {ad : Addr} {K : Value → Prop} (h : ldT P t ad w K) :
    ∃ v, K v ∧ ∀ w' : World, w'.heap[ad.block]? = w.heap[ad.block]? → (loadVar t ad).run P w' = .ok v w' := by
  unfold ldT ty at h
  by_cases hA : isAgg P t = true
  · simp only [hA, if_true] at h
    by_cases hs : P.cellsOf t ≤ 24
    · simp only [hs, if_true] at h
      split at h
      · rename_i hl
        obtain ⟨vs, hvl, hc, hK⟩ := exL_of h
        refine ⟨_, hK, fun w' hw => ?_⟩
        have hvs : vs.length = P.cellsOf t := hvl.trans hl
        by_cases h0 : P.cellsOf t = 0
        · have hvs0 : vs = [] := List.eq_nil_of_length_eq_zero (by omega)
          subst hvs0
          cases hi : P.info? t with
          | none =>
            exfalso
            unfold isAgg at hA
            have : P.underlying t = none := by simp [Program.underlying, hi]
            simp [this] at hA
          | some i =>
            have : i.size = 0 := by rw [← cellsOf_of hi]; exact h0
            simp [loadVar, isAgg_true hA, sizeOf, typeInfo, hi, this, loadCells, loadCellsFrom]
        · have := run_loadCells_list (P := P) w' ad vs (fun j v hv => by
            have := cellsAre_get hc j v hv
            rw [Nat.zero_add] at this
            exact (same_cell (w := w) (w' := w') (by rw [add_block]; exact hw)).trans this)
          rw [hvs] at this
          simp [loadVar, isAgg_true hA, run_sizeOf' h0, this]
      · exact h.elim
    · simp only [hs, if_false] at h
      obtain ⟨cs, ⟨hsz, hc⟩, hK⟩ := h
      refine ⟨_, hK, fun w' hw => ?_⟩
      have := run_loadCells_list (P := P) w' ad cs.toList (fun j v hv => by
        have hj : j < P.cellsOf t := by
          have := (List.getElem?_eq_some_iff.1 hv).1
          simpa [hsz] using this
        refine (same_cell (w := w) (w' := w') (by rw [add_block]; exact hw)).trans ((hc j hj).trans ?_)
        simpa using hv)
      have h1 : cs.toList.length = P.cellsOf t := by simpa using hsz
      rw [h1] at this
      simp [loadVar, isAgg_true hA, run_sizeOf' (P := P) (t := t) (by omega), this]
  · have hA' : isAgg P t = false := by simpa using hA
    simp only [hA', Bool.false_eq_true, if_false] at h
    split at h
    · rename_i hu
      obtain ⟨v, hc, hK⟩ := exS_of h
      refine ⟨v, hK, fun w' hw => ?_⟩
      have hu' : P.underlying t ≠ none := by intro h0; simp [h0] at hu
      simp [loadVar, isAgg_false hA' hu', same_cell hw, hc]
    · exact h.elim

theorem fieldOff_of {s : TypeId} {f off : Nat} (h : fieldOff P s f = some off) (ad : Addr) (w : World) :
    (Instr.fieldAt s (.pointer (some ad)) f).run P w = .ok (.pointer (some (ad.add off))) w := by
  unfold fieldOff at h
  split at h
  · rename_i fs hu
    split at h
    · rename_i fd hf
      split at h
      · cases h
      · rename_i h0
        simp only [Option.some.injEq] at h
        subst h
        simp [Instr.fieldAt, run_underlying hu, hf, Instr.sureAddr, fieldPlace, run_sizeOf' h0, h0]
    · cases h
  · cases h

theorem mulc_eq (n k : Nat) : mulc n k = n * k := by unfold mulc; split <;> simp_all

theorem ibits_run {op : BinOp} (h : op = .and ∨ op = .or ∨ op = .xor ∨ op = .andNot) (k : IntKind) (x y : Int) (w : World) :
    (Op.intBits op k x y).run P w = .ok (.int k (ibits op k x y)) w := by
  rcases h with rfl | rfl | rfl | rfl <;> simp [Op.intBits, ibits]

theorem binQ_of {t _yt : TypeId} {op : BinOp} {x y : Operand} {vx vy : Value} {K : Value → Prop} (h : binQ op vx vy K) (hop : (op = .eql ∨ op = .neq) → ∃ d, P.underlying t = some d) :
    ∃ v, K v ∧ ∀ w : World, (do eqGuard op t x y vx vy; binOp op t vx vy : Sem Value).run P w = .ok v w := by
  unfold binQ at h
  split at h
  · rename_i k n k' m
    split at h
    · exact ⟨_, h.2, fun w => by simp [eqGuard, binOp, Op.shift, show ¬ m < 0 by omega]⟩
    · exact ⟨_, h.2, fun w => by simp [eqGuard, binOp, Op.shift, show ¬ m < 0 by omega]⟩
    · split at h
      · rename_i hk
        subst hk
        split at h <;> first
          | exact h.elim
          | exact ⟨_, h, fun w => by simp [eqGuard, binOp, Op.intArith, Op.intCmp, ibits_run]⟩
          | exact ⟨_, h.2, fun w => by simp [eqGuard, binOp, Op.intDiv, h.1]⟩
      · exact h.elim
  · rename_i s s'
    split at h <;> first
      | exact h.elim
      | exact ⟨_, h, fun w => by simp [eqGuard, binOp, Op.stringOp]⟩
      | exact ⟨_, h.2, fun w => by have h1 := h.1; simp at h1; simp [eqGuard, binOp, Op.stringOp, show ¬ (9223372036854775807 < (s.size : Int) + s'.size) by omega]⟩
  · exact h.elim

/-- What a comparison by 'Op.equal' yields. -/
def Eqs (P : Program) (t : TypeId) (vx vy : Value) (w : World) (b : Bool) : Prop := (Op.equal t vx vy).run P w = .ok b w

theorem eqs_eql {t : TypeId} {x y : Operand} {vx vy : Value} {b : Bool} (h : Eqs P t vx vy w b) (hg : (eqGuard .eql t x y vx vy).run P w = .ok () w)
    (hb : (binOp .eql t vx vy).run P w = ((Op.equal t vx vy).run P w).andThen fun b w' => .ok (.bool b) w') :
    (do eqGuard .eql t x y vx vy; binOp .eql t vx vy : Sem Value).run P w = .ok (.bool b) w := by
  simp only [Sem.run_bind, hg, Result.andThen_ok, hb]
  unfold Eqs at h
  simp [h]

theorem eqs_neq {t : TypeId} {x y : Operand} {vx vy : Value} {b : Bool} (h : Eqs P t vx vy w b) (hg : (eqGuard .neq t x y vx vy).run P w = .ok () w)
    (hb : (binOp .neq t vx vy).run P w = ((Op.equal t vx vy).run P w).andThen fun b w' => .ok (.bool !b) w') :
    (do eqGuard .neq t x y vx vy; binOp .neq t vx vy : Sem Value).run P w = .ok (.bool !b) w := by
  simp only [Sem.run_bind, hg, Result.andThen_ok, hb]
  unfold Eqs at h
  simp [h]

theorem isNilC_eval {x : Operand} (h : isNilC x = true) (a : Act) : a.eval x = .pointer none ∨ (∃ n c, a.eval x = .slice none n c) ∨ a.eval x = .map none ∨ a.eval x = .nilFunc := by
  unfold isNilC at h
  split at h <;> simp [Act.eval] at *

/-- What is to be shown of a comparison by 'Op.equal'. -/
def EqRes (P : Program) (t : TypeId) (x y : Operand) (vx vy : Value) (w : World) (B : Option (List Nat)) (K : Bool → Prop) : Prop :=
  ∃ b, K b ∧ Eqs P t vx vy w b ∧ (∀ bs, B = some bs → ∀ w', Eqs P t vx vy w' b) ∧
      (∀ op, op = .eql ∨ op = .neq → ∀ w, (eqGuard op t x y vx vy).run P w = .ok () w) ∧
      (∀ w, (binOp .eql t vx vy).run P w = ((Op.equal t vx vy).run P w).andThen fun b w' => .ok (.bool b) w') ∧
      (∀ w, (binOp .neq t vx vy).run P w = ((Op.equal t vx vy).run P w).andThen fun b w' => .ok (.bool !b) w')

theorem eqs_of {t : TypeId} {vx vy : Value} {w : World} {b : Bool} (h : ∀ d : Nat, (Op.equalIn (d + 1) t vx vy).run P w = .ok b w) : Eqs P t vx vy w b := h 9999

/-- The values that 'binOp' hands to 'Op.equal'. -/
def byEqual : Value → Value → Bool
  | .bool _, .bool _ | .pointer _, .pointer _ | .slice _ _ _, .slice _ _ _ | .map _, .map _ | .func _ _ _, .nilFunc | .nilFunc, .nilFunc => true
  | _, _ => false

theorem byEqual_runs {t : TypeId} {x y : Operand} {vx vy : Value} (h : byEqual vx vy = true) :
      (∀ op, op = .eql ∨ op = .neq → ∀ w, (eqGuard op t x y vx vy).run P w = .ok () w) ∧
      (∀ w, (binOp .eql t vx vy).run P w = ((Op.equal t vx vy).run P w).andThen fun b w' => .ok (.bool b) w') ∧
      (∀ w, (binOp .neq t vx vy).run P w = ((Op.equal t vx vy).run P w).andThen fun b w' => .ok (.bool !b) w') := by
  unfold byEqual at h
  split at h <;> first
    | (refine ⟨fun op hop w => ?_, fun w => ?_, fun w => ?_⟩
       · rcases hop with rfl | rfl <;> simp [eqGuard]
       · simp [binOp]
       · simp [binOp])
    | cases h

theorem EqRes.mk' {t : TypeId} {x y : Operand} {vx vy : Value} {K : Bool → Prop} {b : Bool} (hb : byEqual vx vy = true) (hK : K b) (h : ∀ (w : World) (d : Nat), (Op.equalIn (d + 1) t vx vy).run P w = .ok b w) :
    EqRes P t x y vx vy w B K :=
  have := byEqual_runs (P := P) (t := t) (x := x) (y := y) hb
  ⟨b, hK, eqs_of (h w), fun _ _ w' => eqs_of (h w'), this.1, this.2.1, this.2.2⟩

theorem EqRes.now {t : TypeId} {x y : Operand} {vx vy : Value} {K : Bool → Prop} {b : Bool} (hb : byEqual vx vy = true) (hK : K b) (h : ∀ (d : Nat), (Op.equalIn (d + 1) t vx vy).run P w = .ok b w) :
    EqRes P t x y vx vy w none K :=
  have := byEqual_runs (P := P) (t := t) (x := x) (y := y) hb
  ⟨b, hK, eqs_of h, fun _ h => (by cases h), this.1, this.2.1, this.2.2⟩

theorem nil_ptr {x : Operand} {p : Option Addr} (h : isNilC x = true) (hx : a.eval x = .pointer p) : p = none := by
  rcases isNilC_eval h a with h' | ⟨_, _, h'⟩ | h' | h' <;> rw [hx] at h' <;> simp_all
theorem nil_slice {x : Operand} {p : Option Addr} {n c : Nat} (h : isNilC x = true) (hx : a.eval x = .slice p n c) : p = none := by
  rcases isNilC_eval h a with h' | ⟨_, _, h'⟩ | h' | h' <;> rw [hx] at h' <;> simp_all
theorem nil_map {x : Operand} {p : Option Nat} (h : isNilC x = true) (hx : a.eval x = .map p) : p = none := by
  rcases isNilC_eval h a with h' | ⟨_, _, h'⟩ | h' | h' <;> rw [hx] at h' <;> simp_all

/-- The comparisons of 'eqQ': bools, pointers, slices, maps, functions. -/
theorem eqQ_of {t : TypeId} {x y : Operand} {K : Bool → Prop} (h : eqQ P t (isNilC x) (isNilC y) (a.eval x) (a.eval y) w B K) :
    EqRes P t x y (a.eval x) (a.eval y) w B K := by
  unfold eqQ at h
  split at h
  · rename_i hu
    split at h
    · rename_i p q hx hy
      rw [hx, hy]
      exact .mk' rfl h fun w d => by simp [Op.equalIn, run_underlying hu]
    · exact h.elim
  · rename_i e hu
    split at h
    · rename_i p q hx hy
      split at h
      · rename_i hy'
        have hq := nil_ptr hy' hy
        rw [hx, hy]
        subst hq
        exact .mk' rfl h fun w d => by cases p <;> simp [Op.equalIn, run_underlying hu]
      · rename_i hx' _
        have hp := nil_ptr hx' hx
        rw [hx, hy]
        subst hp
        exact .mk' rfl h fun w d => by simp [Op.equalIn, run_underlying hu]
      · split at h
        · obtain ⟨h0, hok, hK⟩ := h
          rw [hx, hy]
          refine .now rfl hK fun d => ?_
          cases p with
          | none => cases q <;> simp [Op.equalIn, run_underlying hu]
          | some p =>
            cases q with
            | none => simp [Op.equalIn, run_underlying hu]
            | some q =>
              simp only [Op.equalIn, Sem.run_bind, run_underlying hu, Result.andThen_ok, run_sizeOf' h0, ne_eq, h0, not_false_eq_true, if_true]
              by_cases hpq : p = q
              · subst hpq; rw [run_sameAddr_same]; simp
              · have hne : (some p == some q) = false := by simpa using hpq
                rw [hne]
                simp only [peqOK] at hok
                rcases hok with hb | ⟨⟨c1, t1, k1⟩, c2, t2, k2⟩
                · simp [sameAddr, hb, hpq]
                · exact run_sameAddr_other w hpq k1 k2
        · exact h.elim
    · exact h.elim
  · rename_i e hu
    split at h
    · rename_i p n c q m d hx hy
      split at h
      · rename_i hy'
        have hq := nil_slice hy' hy
        rw [hx, hy]
        subst hq
        exact .mk' rfl h fun w d => by cases p <;> simp [Op.equalIn, run_underlying hu]
      · rename_i hx' _
        have hp := nil_slice hx' hx
        rw [hx, hy]
        subst hp
        exact .mk' rfl h fun w d => by simp [Op.equalIn, run_underlying hu]
      · exact h.elim
    · exact h.elim
  · rename_i k e hu
    split at h
    · rename_i p q hx hy
      split at h
      · rename_i hy'
        have hq := nil_map hy' hy
        rw [hx, hy]
        subst hq
        exact .mk' rfl h fun w d => by cases p <;> simp [Op.equalIn, run_underlying hu]
      · rename_i hx' _
        have hp := nil_map hx' hx
        rw [hx, hy]
        subst hp
        exact .mk' rfl h fun w d => by simp [Op.equalIn, run_underlying hu]
      · exact h.elim
    · exact h.elim
  · rename_i ps rs vr hu
    split at h
    · rename_i hx hy
      rw [hx, hy]
      exact .mk' rfl h fun w d => by simp [Op.equalIn, run_underlying hu]
    · rename_i hx hy
      rw [hx, hy]
      exact .mk' rfl h fun w d => by simp [Op.equalIn, run_underlying hu]
    · exact h.elim
  · exact h.elim

end Go.Den
