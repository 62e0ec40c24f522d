/-
  The operations that only read, all: 'opQ' is sound.
-/
import Derived.Test.YtkcnchnlhdhcbaaDen2
set_option linter.unusedSimpArgs false
namespace Go.Den
open Go

variable {P : Program} {ctl : List Nat} {o : Oper} {a : Act} {w : World} {B : Option (List Nat)} {next : Act → Prop}

theorem ints_some {x : Option Operand} {n : Int} (h : opQ.ints a x = some n) (h0 : 0 ≤ n) : ∃ y k, x = some y ∧ a.eval y = .int k n := by
  unfold opQ.ints at h
  split at h
  · cases h
  · rename_i y
    split at h
    · rename_i k m hy
      simp only [Option.some.injEq] at h
      subst h
      exact ⟨y, k, rfl, hy⟩
    · simp only [Option.some.injEq] at h
      omega

theorem ints_none {x : Option Operand} (h : opQ.ints a x = none) : x = none := by
  unfold opQ.ints at h
  split at h
  · rfl
  · split at h <;> cases h

theorem sliceBound_of {k : IntKind} {n : Int} {y : Nat} {c : BoundsCode} (h0 : 0 ≤ n) (h1 : n ≤ y) (w : World) : (Instr.sliceBound (.int k n) y c).run P w = .ok n.toNat w := by
  simp [Instr.sliceBound, asIntOf, h0, h1]

/-- The three bounds of a slice expression. -/
theorem sliceBounds_of {isSlice : Bool} {len cap : Nat} {lo hi mx : Option Operand}
    (hm : sOK (opQ.ints a mx) cap) (hn : (opQ.ints a hi).isNone = true → (opQ.ints a mx).isNone = true) (hh : sOK (opQ.ints a hi) (sM (opQ.ints a mx) cap)) (hl : sOK (opQ.ints a lo) (sM (opQ.ints a hi) len)) (w : World) :
    (Instr.sliceBounds isSlice len cap (lo.map a.eval) (hi.map a.eval) (mx.map a.eval)).run P w = .ok (sM (opQ.ints a lo) 0, sM (opQ.ints a hi) len, sM (opQ.ints a mx) cap) w := by
  cases hmx : opQ.ints a mx with
  | none =>
    have e1 := ints_none hmx
    subst e1
    cases hhi : opQ.ints a hi with
    | none =>
      have e2 := ints_none hhi
      subst e2
      cases hlo : opQ.ints a lo with
      | none =>
        have e3 := ints_none hlo
        subst e3
        simp [Instr.sliceBounds, sM]
      | some n =>
        simp only [hhi, hlo, sOK, sM] at hl
        obtain ⟨y, k, rfl, hy⟩ := ints_some hlo hl.1
        simp [Instr.sliceBounds, sM, hy, sliceBound_of hl.1 hl.2]
    | some j =>
      simp only [hmx, hhi, sOK, sM] at hh
      obtain ⟨z, k', rfl, hz⟩ := ints_some hhi hh.1
      cases hlo : opQ.ints a lo with
      | none =>
        have e3 := ints_none hlo
        subst e3
        simp [Instr.sliceBounds, sM, hz, sliceBound_of hh.1 hh.2]
      | some n =>
        simp only [hhi, hlo, sOK, sM] at hl
        obtain ⟨y, k, rfl, hy⟩ := ints_some hlo hl.1
        simp [Instr.sliceBounds, sM, hy, hz, sliceBound_of hh.1 hh.2, sliceBound_of (y := j.toNat) hl.1 (by omega)]
  | some i =>
    simp only [hmx, sOK, sM] at hm hh
    obtain ⟨u, k'', rfl, hu⟩ := ints_some hmx hm.1
    cases hhi : opQ.ints a hi with
    | none => simp [hhi, hmx] at hn
    | some j =>
      simp only [hhi] at hh
      obtain ⟨z, k', rfl, hz⟩ := ints_some hhi hh.1
      cases hlo : opQ.ints a lo with
      | none =>
        have e3 := ints_none hlo
        subst e3
        simp [Instr.sliceBounds, sM, hz, hu, sliceBound_of hm.1 hm.2, sliceBound_of (y := i.toNat) hh.1 (by omega)]
      | some n =>
        simp only [hhi, hlo, sOK, sM] at hl
        obtain ⟨y, k, rfl, hy⟩ := ints_some hlo hl.1
        simp [Instr.sliceBounds, sM, hy, hz, hu, sliceBound_of hm.1 hm.2, sliceBound_of (y := i.toNat) hh.1 (by omega), sliceBound_of (y := j.toNat) hl.1 (by omega)]

theorem opQ_move {x : Operand} (ho : o.op = .move x ∨ o.op = .assign x) (h : finQ ctl o.dst a next (a.eval x)) : Got P o a w B next :=
  .of h (.always fun w => by rcases ho with ho | ho <;> simp [execOp, ho])

theorem Got.pure {v : Value} (h : finQ ctl o.dst a next v) (hr : ∀ w : World, (execOp a.eval o).run P w = .ok (.value v) w) : Got P o a w B next := .of h (.always hr)

theorem fields_mapM : ∀ (l : List Field) (w : World), (∀ f ∈ l, P.cellsOf f.type ≠ 0) →
    (l.mapM fun (f : Field) => do pure (f.offset, ← sizeOf f.type) : Sem (List (Nat × Nat))).run P w = .ok (l.map fun (f : Field) => ((f.offset : Nat), P.cellsOf f.type)) w
  | [], w, _ => by simp
  | f :: l, w, h => by
    have ih := fields_mapM l w (fun g hg => h g (List.mem_cons_of_mem _ hg))
    have h0 := run_sizeOf' (P := P) (h f (by simp)) w
    simp only [List.mapM_cons, Sem.run_bind, h0, Result.andThen_ok, Sem.run_pure, ih, List.map_cons]

theorem buildV_of {t : TypeId} {parts : List (Nat × Value)} {v : Value} (h : buildV P t parts = some v) (w : World) : (Instr.build t parts.toArray).run P w = .ok v w := by
  unfold buildV at h
  split at h
  · rename_i z fs hz hu
    split at h
    · rename_i hall
      split at h
      · rename_i cells hf
        simp only [Option.some.injEq] at h
        subst h
        obtain ⟨i, hi, hz'⟩ := Option.bind_eq_some_iff.1 hz
        have hm := fields_mapM (P := P) fs.toList w (fun f hf => by simpa using (List.all_eq_true.1 hall) f hf)
        have hm' : (fs.mapM fun (f : Field) => do pure (f.offset, ← sizeOf f.type) : Sem (Array (Nat × Nat))).run P w = .ok (fs.toList.map fun (f : Field) => (f.offset, P.cellsOf f.type)).toArray w := by
          rw [Array.mapM_eq_mapM_toList, Sem.run_map, hm]; rfl
        have hzr : (zeroValue t).run P w = .ok z w := by simp [zeroValue, typeInfo, hi, hz']
        have hp : (fun (i : Nat) => ((fs.toList.map fun (f : Field) => (f.offset, P.cellsOf f.type)).toArray[i]? : Option (Nat × Nat))) = fun (i : Nat) => (fs.toList[i]?).map fun (f : Field) => (f.offset, P.cellsOf f.type) := by
          funext i; simp
        simp only [Instr.build, Sem.run_bind, hzr, Result.andThen_ok, run_underlying hu, hm', hp, hf, Sem.run_pure]
      · cases h
    · cases h
  · rename_i z n e hz hu
    split at h
    · cases h
    · rename_i h0
      split at h
      · rename_i cells hf
        simp only [Option.some.injEq] at h
        subst h
        obtain ⟨i, hi, hz'⟩ := Option.bind_eq_some_iff.1 hz
        have hzr : (zeroValue t).run P w = .ok z w := by simp [zeroValue, typeInfo, hi, hz']
        simp only [Instr.build, Sem.run_bind, hzr, Result.andThen_ok, run_underlying hu, run_sizeOf' h0, hf, Sem.run_pure]
      · cases h
  · cases h

theorem part_agg {t : TypeId} {cs : Array Value} {off : Nat} (hA : isAgg P t = true) (h0 : P.cellsOf t ≠ 0) (w : World) :
    (part t cs off).run P w = .ok (.agg ((cs.toList.drop off).take (P.cellsOf t)).toArray) w := by
  simp [part, isAgg_true hA, run_sizeOf' h0]
  apply Array.ext'
  simp [List.take_drop]

theorem part_one {t : TypeId} {cs : Array Value} {off : Nat} {v : Value} (hA : isAgg P t = false) (hu : P.underlying t ≠ none) (hv : cs[off]? = some v) (w : World) :
    (part t cs off).run P w = .ok v w := by
  simp [part, isAgg_false hA hu, hv]

theorem eqAgg_of {t : TypeId} {x y : Operand} {xs ys : Array Value} {K : Bool → Prop} (hd : P.eqGuardType P.depth t = false) (h : eqAgg P t xs ys K) :
    ∃ b, K b ∧ (∀ w, (do eqGuard .eql t x y (.agg xs) (.agg ys); binOp .eql t (.agg xs) (.agg ys) : Sem Value).run P w = .ok (.bool b) w) ∧
      ∀ w, (do eqGuard .neq t x y (.agg xs) (.agg ys); binOp .neq t (.agg xs) (.agg ys) : Sem Value).run P w = .ok (.bool !b) w := by
  obtain ⟨b, hb, hK⟩ := h
  have hg : ∀ op, op = .eql ∨ op = .neq → ∀ w, (eqGuard op t x y (.agg xs) (.agg ys)).run P w = .ok () w := fun op hop w => by
    rcases hop with rfl | rfl <;> simp [eqGuard, hd]
  refine ⟨b, hK, fun w => ?_, fun w => ?_⟩
  · simp only [Sem.run_bind, hg _ (.inl rfl), Result.andThen_ok]
    simp [binOp, hb]
  · simp only [Sem.run_bind, hg _ (.inr rfl), Result.andThen_ok]
    simp [binOp, hb]

set_option maxHeartbeats 1000000 in
theorem opQ_of (h : opQ P ctl o a w B next) : Got P o a w B next := by
  unfold opQ at h
  split at h
  case h_1 x ho => exact opQ_move (.inl ho) h
  case h_2 x ho => exact opQ_move (.inr ho) h
  case h_3 c x y ho =>
    split at h
    · rename_i hc; exact .pure h fun w => by simp [execOp, ho, hc, asBool]
    · rename_i hc; exact .pure h fun w => by simp [execOp, ho, hc, asBool]
    · exact h.elim
  case h_4 t x ho =>
    split at h
    · rename_i ad hx
      have key : ∀ {K : Value → Prop}, ldT P t ad w K → ∃ v, K v ∧ ∀ w' : World, w'.heap[ad.block]? = w.heap[ad.block]? → (execOp a.eval o).run P w' = .ok (.value v) w' := fun hl => by
        obtain ⟨v, hK, hr⟩ := ldT_of hl
        exact ⟨v, hK, fun w' hw => by simp [execOp, ho, hx, Instr.loadAt, Instr.sureAddr, hr w' hw]⟩
      unfold inB at h
      split at h
      · obtain ⟨v, hK, hr⟩ := key h
        exact .of hK (.now (hr w rfl))
      · rename_i bs
        obtain ⟨hin, hl⟩ := h
        obtain ⟨v, hK, hr⟩ := key hl
        exact .of hK ⟨hr w rfl, fun bs' hb w' hw => by cases hb; exact hr w' (hw _ hin)⟩
    · exact h.elim
  case h_5 x ho =>
    split at h
    · rename_i p hx
      cases p with
      | none => exact h.elim
      | some ad => exact .pure h fun w => by simp [execOp, ho, hx]
    · rename_i f fi ca hx
      exact .pure h fun w => by simp [execOp, ho, hx]
    · exact h.elim
  case h_6 s x f ho =>
    split at h
    · rename_i ad hx
      split at h
      · rename_i off hf
        exact .pure h fun w => by simp [execOp, ho, hx, fieldOff_of hf]
      · exact h.elim
    · exact h.elim
  case h_7 t x i ho =>
    split at h
    · rename_i k n hi
      split at h
      · rename_i len elem hu
        split at h
        · rename_i ad hx
          split at h
          · exact h.elim
          · rename_i h0
            refine .pure h.2 fun w => ?_
            rw [mulc_eq]
            simp [execOp, ho, hx, hi, Instr.indexAt, asIntOf, run_underlying hu, Instr.sureAddr, h.1, run_sizeOf' h0]
        · exact h.elim
      · rename_i elem hu
        split at h
        · rename_i base len cap hx
          split at h
          · exact h.elim
          · rename_i h0
            cases base with
            | none => exact h.elim
            | some ad =>
              refine .pure h.2 fun w => ?_
              rw [mulc_eq]
              simp [execOp, ho, hx, hi, Instr.indexAt, asIntOf, run_underlying hu, h.1, run_sizeOf' h0]
        · exact h.elim
      · exact h.elim
    · exact h.elim
  case h_8 t x i ho =>
    split at h
    · rename_i k n hi
      split at h
      · rename_i hu
        split at h
        · rename_i s hx
          obtain ⟨b, ⟨h0, hb⟩, hK⟩ := h
          exact .pure hK fun w => by simp [execOp, ho, hx, hi, Instr.index, asIntOf, run_underlying hu, h0, hb]
        · exact h.elim
      · rename_i len elem hu
        split at h
        · rename_i cs hx
          split at h
          · exact h.elim
          · rename_i hA
            split at h
            · exact h.elim
            · rename_i hn
              split at h
              · rename_i h1
                obtain ⟨hb, h⟩ := h
                obtain ⟨v, hv, hK⟩ := exS_of h
                refine .pure hK fun w => ?_
                have h0 : P.cellsOf elem ≠ 0 := by omega
                have hn' : P.underlying elem ≠ none := by intro hh; simp [hh] at hn
                have hv' : cs[n.toNat * P.cellsOf elem]? = some v := by rw [h1, Nat.mul_one]; exact hv
                simp [execOp, ho, hx, hi, Instr.index, asIntOf, run_underlying hu, hb, run_sizeOf' h0, part_one (by simpa using hA) hn' hv']
              · exact h.elim
        · exact h.elim
      · exact h.elim
    · exact h.elim
  case h_9 t x f ho =>
    split at h
    · rename_i cs hx
      split at h
      · rename_i fs hu
        split at h
        · rename_i fd hf
          split at h
          · exact h.elim
          · rename_i h0
            split at h
            · rename_i hA
              exact .pure h fun w => by simp [execOp, ho, hx, Instr.field, run_underlying hu, hf, asAgg, part_agg hA h0]
            · rename_i hA
              split at h
              · exact h.elim
              · rename_i hn
                have hn' : P.underlying fd.type ≠ none := by intro hh; simp [hh] at hn
                split at h
                · rename_i v hv
                  have hv' : cs[fd.offset]? = some v := by simpa using hv
                  exact .pure h fun w => by simp [execOp, ho, hx, Instr.field, run_underlying hu, hf, asAgg, part_one (by simpa using hA) hn' hv']
                · exact h.elim
        · exact h.elim
      · exact h.elim
    · exact h.elim
  case h_10 op t x y yt ho =>
    split at h
    · split at h
      · rename_i k hu
        obtain ⟨v, hK, hr⟩ := binQ_of (P := P) (t := t) (_yt := yt) (x := x) (y := y) h (fun _ => ⟨_, hu⟩)
        exact .pure hK fun w => by simp only [execOp, ho]; simp only [Sem.run_bind] at hr ⊢; simp [hr w]
      · rename_i hu
        obtain ⟨v, hK, hr⟩ := binQ_of (P := P) (t := t) (_yt := yt) (x := x) (y := y) h (fun _ => ⟨_, hu⟩)
        exact .pure hK fun w => by simp only [execOp, ho]; simp only [Sem.run_bind] at hr ⊢; simp [hr w]
      · rename_i fs hu
        split at h
        · rename_i xs ys hx hy
          split at h
          · rename_i hp
            simp only [Bool.and_eq_true, Bool.not_eq_true'] at hp
            obtain ⟨b, hK, h1, _⟩ := eqAgg_of (x := x) (y := y) hp.2 h
            exact .pure hK fun w => by simp only [execOp, ho, hx, hy]; have := h1 w; simp only [Sem.run_bind] at this ⊢; simp [this]
          · exact h.elim
        · exact h.elim
      · rename_i n e hu
        split at h
        · rename_i xs ys hx hy
          split at h
          · rename_i hp
            simp only [Bool.and_eq_true, Bool.not_eq_true'] at hp
            obtain ⟨b, hK, h1, _⟩ := eqAgg_of (x := x) (y := y) hp.2 h
            exact .pure hK fun w => by simp only [execOp, ho, hx, hy]; have := h1 w; simp only [Sem.run_bind] at this ⊢; simp [this]
          · exact h.elim
        · exact h.elim
      · obtain ⟨b, hK, he, hB, hg, h1, h2⟩ := eqQ_of h
        have run : ∀ w, Eqs P t (a.eval x) (a.eval y) w b → (execOp a.eval o).run P w = .ok (.value (.bool b)) w := fun w he => by
          simp only [execOp, ho]; have := eqs_eql he (hg _ (.inl rfl) w) (h1 w); simp only [Sem.run_bind] at this ⊢; simp [this]
        exact .of hK ⟨run w he, fun bs hb w' _ => run w' (hB bs hb w')⟩
    · split at h
      · rename_i k hu
        obtain ⟨v, hK, hr⟩ := binQ_of (P := P) (t := t) (_yt := yt) (x := x) (y := y) h (fun _ => ⟨_, hu⟩)
        exact .pure hK fun w => by simp only [execOp, ho]; simp only [Sem.run_bind] at hr ⊢; simp [hr w]
      · rename_i hu
        obtain ⟨v, hK, hr⟩ := binQ_of (P := P) (t := t) (_yt := yt) (x := x) (y := y) h (fun _ => ⟨_, hu⟩)
        exact .pure hK fun w => by simp only [execOp, ho]; simp only [Sem.run_bind] at hr ⊢; simp [hr w]
      · rename_i fs hu
        split at h
        · rename_i xs ys hx hy
          split at h
          · rename_i hp
            simp only [Bool.and_eq_true, Bool.not_eq_true'] at hp
            obtain ⟨b, hK, _, h1⟩ := eqAgg_of (x := x) (y := y) hp.2 h
            exact .pure hK fun w => by simp only [execOp, ho, hx, hy]; have := h1 w; simp only [Sem.run_bind] at this ⊢; simp [this]
          · exact h.elim
        · exact h.elim
      · rename_i n e hu
        split at h
        · rename_i xs ys hx hy
          split at h
          · rename_i hp
            simp only [Bool.and_eq_true, Bool.not_eq_true'] at hp
            obtain ⟨b, hK, _, h1⟩ := eqAgg_of (x := x) (y := y) hp.2 h
            exact .pure hK fun w => by simp only [execOp, ho, hx, hy]; have := h1 w; simp only [Sem.run_bind] at this ⊢; simp [this]
          · exact h.elim
        · exact h.elim
      · obtain ⟨b, hK, he, hB, hg, h1, h2⟩ := eqQ_of h
        have run : ∀ w, Eqs P t (a.eval x) (a.eval y) w b → (execOp a.eval o).run P w = .ok (.value (.bool !b)) w := fun w he => by
          simp only [execOp, ho]; have := eqs_neq he (hg _ (.inr rfl) w) (h2 w); simp only [Sem.run_bind] at this ⊢; simp [this]
        exact .of hK ⟨run w he, fun bs hb w' _ => run w' (hB bs hb w')⟩
    · rename_i hne1 hne2
      obtain ⟨v, hK, hr⟩ := binQ_of (P := P) (t := t) (_yt := yt) (x := x) (y := y) h (fun h => by rcases h with rfl | rfl <;> simp_all)
      exact .pure hK fun w => by simp only [execOp, ho]; simp only [Sem.run_bind] at hr ⊢; simp [hr w]
  case h_11 op t x ho =>
    split at h
    · rename_i b hx
      exact .pure h fun w => by simp [execOp, ho, hx, Op.unary]
    · rename_i k n hx
      exact .pure h fun w => by simp [execOp, ho, hx, Op.unary, Op.intArith]
    · exact h.elim
  case h_12 src dst x ho =>
    split at h
    · rename_i d k hs hd
      split at h
      · rename_i k' n hx
        refine .pure h fun w => ?_
        simp only [execOp, ho, hx, convert, Sem.run_bind, run_underlying hs, run_underlying hd, Result.andThen_ok]
        cases d <;> simp [Conv.intToInt]
      · exact h.elim
    · rename_i hs hd
      split at h
      · rename_i s hx
        refine .pure h fun w => ?_
        simp [execOp, ho, hx, convert, run_underlying hs, run_underlying hd]
      · exact h.elim
    · exact h.elim
  case h_13 t x lo hi mx ho =>
    split at h
    · rename_i elem hu
      split at h
      · rename_i base len cap hx
        split at h
        · exact h.elim
        · rename_i h0
          obtain ⟨hm, hn, hh, hl, hK⟩ := h
          refine .pure hK (fun w => ?_)
          have := fun w => sliceBounds_of (P := P) (isSlice := true) hm hn hh hl w
          have hs := run_sizeOf' (P := P) h0 w
          simp only [execOp, ho, hx, Instr.sliceAt, Instr.slice, Sem.run_bind, run_underlying hu, Result.andThen_ok, this, hs]
          simp [slA]
      · exact h.elim
    · rename_i n elem hu
      split at h
      · rename_i ad hx
        split at h
        · exact h.elim
        · rename_i h0
          obtain ⟨hm, hn, hh, hl, hK⟩ := h
          refine .pure hK (fun w => ?_)
          have := fun w => sliceBounds_of (P := P) (isSlice := false) hm hn hh hl w
          have hs := run_sizeOf' (P := P) h0 w
          have e : slA (some ad) (sM (opQ.ints a mx) n) (sM (opQ.ints a lo) 0) (P.cellsOf elem) = some (if sM (opQ.ints a mx) n = sM (opQ.ints a lo) 0 then ad else ad.add (sM (opQ.ints a lo) 0 * P.cellsOf elem)) := by
            unfold slA; split <;> rfl
          simp only [execOp, ho, hx, Instr.sliceAt, Sem.run_bind, run_underlying hu, Result.andThen_ok, this, hs, Instr.sureAddr, Sem.run_pure, e]
      · exact h.elim
    · rename_i hu
      split at h
      · rename_i s hx
        split at h
        · obtain ⟨hh, hl, hK⟩ := h
          refine .pure hK (fun w => ?_)
          have := fun w => sliceBounds_of (P := P) (a := a) (isSlice := false) (len := s.size) (cap := s.size) (lo := lo) (hi := hi) (mx := none) (by simp [opQ.ints, sOK]) (fun _ => by simp [opQ.ints])
            (by simpa [opQ.ints, sM] using hh) hl w
          simp only [Option.map_none] at this
          simp only [execOp, ho, hx, Instr.sliceAt, Instr.slice, Sem.run_bind, run_underlying hu, Result.andThen_ok, Option.map_none, Option.isSome_none, Bool.false_eq_true, if_false, Sem.run_pure, this]
        · exact h.elim
      · exact h.elim
    · exact h.elim
  case h_14 x i ho =>
    split at h
    · rename_i vs hx
      split at h
      · rename_i v hv
        have hv' : vs[i]? = some v := by simpa using hv
        exact .pure h fun w => by simp [execOp, ho, hx, Instr.extract, hv']
      · exact h.elim
    · exact h.elim
  case h_15 fn fi ca ho =>
    refine .pure h fun w => ?_
    have e1 : (fi.toList.map a.eval).toArray = fi.map a.eval := Array.ext' (by simp)
    have e2 : (ca.toList.map a.eval).toArray = ca.map a.eval := Array.ext' (by simp)
    simp only [execOp, ho, Instr.makeFunc, e1, e2, Sem.run_bind, Sem.run_pure, Result.andThen_ok]
  case h_16 t parts ho =>
    split at h
    · rename_i v hv
      refine .pure h fun w => ?_
      have := buildV_of hv w
      have e : (parts.toList.map fun p => (p.1, a.eval p.2)).toArray = parts.map fun x => (x.1, a.eval x.2) := Array.ext' (by simp)
      rw [e] at this
      simp [execOp, ho, this]
    · exact h.elim
  case h_17 t x i ok ho =>
    split at h
    · obtain ⟨v, hr, h⟩ := h
      obtain ⟨v', rfl, hK⟩ := exR_of h
      exact .of hK (.now (by simp [execOp, ho, hr]))
    · exact h.elim
  case h_18 b args argTypes ho =>
    have hargs : ∀ vs, args.toList.map a.eval = vs → args.map a.eval = vs.toArray := fun vs e => by rw [← e]; exact Array.ext' (by simp)
    have hts : ∀ ts, argTypes.toList = ts → argTypes = ts.toArray := fun ts e => by rw [← e]
    split at h
    · rename_i c n d t hv ht
      have e1 := hargs _ hv
      have e2 := hts _ ht
      subst e2
      split at h
      · rename_i hu
        exact .pure h fun w => by simp [execOp, ho, resolve, invoke, builtin, e1, Builtin.len_, run_underlying hu, goInt]
      · exact h.elim
    · rename_i s t hv ht
      have e1 := hargs _ hv
      have e2 := hts _ ht
      subst e2
      split at h
      · rename_i hu
        exact .pure h fun w => by simp [execOp, ho, resolve, invoke, builtin, e1, Builtin.len_, run_underlying hu, goInt]
      · exact h.elim
    · rename_i hv ht
      have e1 := hargs _ hv
      have e2 := hts _ ht
      subst e2
      split at h
      · rename_i hu
        exact .pure h fun w => by simp [execOp, ho, resolve, invoke, builtin, e1, Builtin.len_, run_underlying hu, goInt]
      · exact h.elim
    · rename_i c n d t hv ht
      have e1 := hargs _ hv
      have e2 := hts _ ht
      subst e2
      split at h
      · rename_i hu
        exact .pure h fun w => by simp [execOp, ho, resolve, invoke, builtin, e1, Builtin.cap_, run_underlying hu, goInt]
      · exact h.elim
    · rename_i k x k' y hv
      have e1 := hargs _ hv
      exact .pure h fun w => by simp [execOp, ho, resolve, invoke, builtin, e1, Builtin.min_, Builtin.min2]
    · rename_i k x k' y hv
      have e1 := hargs _ hv
      exact .pure h fun w => by simp [execOp, ho, resolve, invoke, builtin, e1, Builtin.max_, Builtin.max2]
    · exact h.elim
  case h_19 => exact h.elim

end Go.Den
