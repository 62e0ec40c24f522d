/-
  'den' is sound: the operations that act, the regions, the code, a call.
-/
import Derived.Test.YtkcnchnlhdhcbaaDen4
set_option linter.unusedSimpArgs false
namespace Go.Den
open Go

variable {P : Program} {ctl : List Nat} {o : Oper} {a : Act} {w : World}

theorem upd_size (w : World) (b : Nat) (x : Obj) : (w.upd b x).heap.size = w.heap.size := by simp [World.upd]
theorem upd_get (w : World) (b : Nat) (x : Obj) (b' : Nat) : (w.upd b x).heap[b']? = if b = b' then (if b < w.heap.size then some x else none) else w.heap[b']? := by
  simp only [World.upd, Array.getElem?_setIfInBounds]
theorem upd_same {w : World} {b : Nat} {x y : Obj} (h : w.heap[b]? = some y) : (w.upd b x).heap[b]? = some x := by
  have : b < w.heap.size := (Array.getElem?_eq_some_iff.1 h).1
  simp [upd_get, this]
theorem upd_upd (w : World) (b : Nat) (x y : Obj) : (w.upd b x).upd b y = w.upd b y := by simp [World.upd]

theorem upd_id {w : World} {b : Nat} {x : Obj} (h : w.heap[b]? = some x) : w.upd b x = w := by
  have hlt : b < w.heap.size := (Array.getElem?_eq_some_iff.1 h).1
  have hg : w.heap[b] = x := (Array.getElem?_eq_some_iff.1 h).2
  have : w.heap.setIfInBounds b x = w.heap := by
    apply Array.ext
    · simp
    · intro j h1 h2
      by_cases hj : b = j
      · subst hj; simp [hg]
      · simp [Array.getElem_setIfInBounds_ne h2 hj]
  unfold World.upd
  rw [this]

theorem setCell_upd {w : World} {ad : Addr} {cs : Array Value} {T : TypeId} {fr : Nat × Nat} (h : w.heap[ad.block]? = some (.cells cs T fr)) (hs : ad.spot = none) (v : Value) :
    w.setCell ad v = w.upd ad.block (.cells (cs.setIfInBounds ad.off v) T fr) := by
  have hlt : ad.block < w.heap.size := (Array.getElem?_eq_some_iff.1 h).1
  have hg : w.heap[ad.block] = .cells cs T fr := (Array.getElem?_eq_some_iff.1 h).2
  unfold World.setCell World.upd
  congr 1
  apply Array.ext
  · simp
  · intro i h1 h2
    rw [Array.getElem_modify]
    by_cases hi : ad.block = i
    · subst hi; simp [hg, hs]
    · have hs2 : i < w.heap.size := by simpa using h1
      simp [hi, Array.getElem_setIfInBounds_ne hs2 hi]

theorem splice_size (vs : List Value) : ∀ (cs : Array Value) (off : Nat), (splice cs off vs).size = cs.size := by
  induction vs with
  | nil => intros; rfl
  | cons v vs ih => intro cs off; simp [splice, ih]

theorem run_store_cell {ad : Addr} {v : Value} {m : Mode} (hv : isCell v = true) (w : World) : (store ad v m).run P w = stored P w ad v m := by
  apply run_store
  cases v <;> simp_all [isCell] <;> rfl

theorem run_storeCells_upd {b off : Nat} {T : TypeId} {fr : Nat × Nat} (vs : List Value) : ∀ (i : Nat) (cs : Array Value) (w : World), w.heap[b]? = some (.cells cs T fr) → off + i + vs.length ≤ cs.size →
    (fr.2 ≤ off + i ∨ off + i + vs.length ≤ fr.1) → (∀ v ∈ vs, isCell v = true) → (storeCells ⟨b, off, none⟩ vs i).run P w = .ok () (w.upd b (.cells (splice cs (off + i) vs) T fr)) := by
  induction vs with
  | nil =>
    intro i cs w h _ _ _
    have hlt : b < w.heap.size := (Array.getElem?_eq_some_iff.1 h).1
    have hg : w.heap[b] = .cells cs T fr := (Array.getElem?_eq_some_iff.1 h).2
    simp only [storeCells, Sem.run_pure, splice]
    rw [upd_id h]
  | cons v vs ih =>
    intro i cs w h hlen hfr hc
    simp only [List.length_cons] at hlen hfr
    have hadd : Addr.add ⟨b, off, none⟩ i = ⟨b, off + i, none⟩ := Addr.add_lit b off i
    have hcell : w.cell? ⟨b, off + i, none⟩ = some cs[off + i] := by
      simp [World.cell?, h, show off + i < cs.size by omega]
    have hfz : w.frozen? ⟨b, off + i, none⟩ = false := by
      obtain ⟨lo, hi⟩ := fr
      simp only [World.frozen?, h, Bool.and_eq_false_iff, decide_eq_false_iff_not]
      simp only at hfr
      omega
    have hst : stored P w ⟨b, off + i, none⟩ v .plain = .ok () (w.upd b (.cells (cs.setIfInBounds (off + i) v) T fr)) := by
      simp only [stored, hcell, hfz, Bool.false_eq_true, if_false]
      rw [setCell_upd (ad := ⟨b, off + i, none⟩) h rfl]
    simp only [storeCells, Sem.run_bind, hadd]
    rw [run_store_cell (hc v (by simp)), hst]
    simp only [Result.andThen_ok]
    have := ih (i + 1) (cs.setIfInBounds (off + i) v) (w.upd b (.cells (cs.setIfInBounds (off + i) v) T fr)) (upd_same h) (by simp; omega) (by omega) (fun u hu => hc u (by simp [hu]))
    rw [this, upd_upd]
    rfl

theorem stK_run {t : TypeId} {ad : Addr} {v : Value} {K : World → Prop} (hsz : v.cells.size = P.cellsOf t) (h0 : P.cellsOf t ≠ 0) (hc : ∀ c ∈ v.cells.toList, isCell c = true) (h : stK ad v.cells.toList w K) :
    ∃ w', (storeVar t ad v).run P w = .ok () w' ∧ K w' := by
  obtain ⟨cs, T, fr, hb, hs, hl, hf, hK⟩ := h
  refine ⟨_, ?_, hK⟩
  obtain ⟨b, off, spot⟩ := ad
  simp only at hs
  subst hs
  have := run_storeCells_upd (P := P) v.cells.toList 0 cs w hb (by simpa using hl) (by simpa using hf) hc
  simp [storeVar, run_sizeOf' h0, hsz, this]

theorem hasZero_of {t : TypeId} (h : hasZero P t = true) (w : World) : ∃ z, (zeroValue t).run P w = .ok z w ∧ z.cells = zc P t := by
  unfold hasZero at h
  obtain ⟨z, hz⟩ := Option.isSome_iff_exists.1 h
  obtain ⟨i, hi, hz'⟩ := Option.bind_eq_some_iff.1 hz
  exact ⟨z, by simp [zeroValue, typeInfo, hi, hz'], by simp [zc, hi, hz']⟩

theorem sliceV_of {t e : TypeId} {len : Nat} {parts : List (Nat × Value)} {cells : Array Value} (hu : P.underlying t = some (.slice e)) (h : sliceV P e len parts = some cells) (w : World) :
    (Instr.buildSlice t len parts.toArray).run P w = .ok (.slice (some ⟨w.heap.size, 0, none⟩) len len) (w.alloc (.cells cells e)) := by
  unfold sliceV at h
  split at h
  · cases h
  · rename_i h0
    split at h
    · cases h
    · rename_i hz
      split at h
      · cases h
      · rename_i hl
        obtain ⟨z, hzr, hzc⟩ := hasZero_of (P := P) (t := e) (by simpa using hz) w
        split at h
        · rename_i hl0
          split at h
          · rename_i hp
            simp only [Option.some.injEq] at h
            subst h
            have hp' : parts = [] := by simpa using hp
            subst hp'
            simp [Instr.buildSlice, run_underlying hu, run_sizeOf' h0, hl0, Instr.fill, newRow, Array.range_zero']
          · cases h
        · rename_i hl0
          have e2 : ((Array.range (len * P.cellsOf e)).map fun i => (zc P e)[i % (zc P e).size]!) =
              ((List.range (len * P.cellsOf e)).map fun i => (zc P e).toList.getD (i % (zc P e).toList.length) default).toArray := by
            apply Array.ext'
            simp only [Array.toList_map, Array.toList_range]
            apply List.map_congr_left
            intro i _
            simp [Array.getElem!_eq_getD]
          simp only [Instr.buildSlice, Sem.run_bind, run_underlying hu, Result.andThen_ok, run_sizeOf' h0, hl, if_false, hl0, Sem.run_pure, hzr, hzc, e2]
          simp only [h, newRow, Sem.run_bind, run_newObj, Result.andThen_ok, Sem.run_pure, World.alloc_eq]

theorem callFunc_of {f : FuncId} (h : callable P f = true) (args : Array Value) (w : World) : (callFunc f args).run P w = .ok (.enter f args) w := by
  unfold callable at h
  split at h
  · rename_i fn hf
    simp only [Bool.and_eq_true, Bool.not_eq_true'] at h
    have h1 : ¬ fn.name = "runtime.NumGoroutine" := by simpa using h.1
    have h2 : ¬ fn.body = none := by intro hb; have := h.2; simp [hb] at this
    simp [callFunc, hf, h1, h2]
  · cases h

theorem upon_value {r : Result Next} {v : Value} {w' : World} {next : Act → World → Prop} {Q : Exit → Act → World → Prop} (hr : r = .ok (.value v) w') (h : next (a.put o.dst v) w') : o.upon P a next Q r := by
  subst hr; exact h

/-- 'a'' is 'a' but for the slots 'ws'. -/
def Same (ws : List Nat) (a a' : Act) : Prop := a'.defers = a.defers ∧ a'.tmps.size = a.tmps.size ∧ ∀ t, t ∉ ws → a'.tmps[t]? = a.tmps[t]?

theorem Same.refl (ws : List Nat) (a : Act) : Same ws a a := ⟨rfl, rfl, fun _ _ => rfl⟩
theorem Same.trans {ws : List Nat} {a b c : Act} (h : Same ws a b) (h' : Same ws b c) : Same ws a c := ⟨h'.1.trans h.1, h'.2.1.trans h.2.1, fun t ht => (h'.2.2 t ht).trans (h.2.2 t ht)⟩
theorem Same.mono {ws ws' : List Nat} {a b : Act} (h : Same ws a b) (hs : ∀ t ∈ ws, t ∈ ws') : Same ws' a b := ⟨h.1, h.2.1, fun t ht => h.2.2 t fun hm => ht (hs t hm)⟩
theorem Same.put {ws : List Nat} {a b : Act} {dst : Option Tmp} (h : Same ws a b) (hd : ∀ d, dst = some d → d ∈ ws) (v : Value) : Same ws a (b.put dst v) := by
  cases dst with
  | none => exact h
  | some d =>
    refine ⟨h.1, by simp [Act.put, h.2.1], fun t ht => ?_⟩
    have : d ≠ t := fun e => ht (e ▸ hd d rfl)
    simp [Act.put, Array.getElem?_setIfInBounds_ne this, h.2.2 t ht]

/-- What is to be shown of an operation that acts. -/
def Put (o : Oper) (a : Act) (next : Act → World → Prop) : Act → World → Prop := fun a' w' => next a' w' ∧ ∃ u, a' = a.put o.dst u
theorem Put.mk {o : Oper} {a : Act} {next : Act → World → Prop} {v : Value} {w : World} (h : next (a.put o.dst v) w) : Put o a next (a.put o.dst v) w := ⟨h, v, rfl⟩

theorem opM_of {next : Act → World → Prop} {Q : Exit → Act → World → Prop} (h : opM P ctl o a w next) : o.wp P a w (Put o a next) Q := by
  unfold Oper.wp
  unfold opM at h
  have hargs : ∀ args : Array Operand, (args.toList.map a.eval).toArray = args.map a.eval := fun args => Array.ext' (by simp)
  split at h
  case h_1 t x v ho =>
    split at h
    · rename_i ad hx
      split at h
      · exact h.elim
      rename_i h0
      have key : (a.eval v).cells.size = P.cellsOf t → (∀ c ∈ (a.eval v).cells.toList, isCell c = true) → stK ad (a.eval v).cells.toList w (fun w' => next (a.put o.dst undef) w') →
          o.upon P a (Put o a next) Q ((execOp a.eval o).run P w) := fun h1 h2 h3 => by
        obtain ⟨w', hr, hn⟩ := stK_run (P := P) h1 h0 h2 h3
        have : (execOp a.eval o).run P w = .ok .skip w' := by simp [execOp, ho, hx, Instr.storeAt, Instr.sureAddr, hr]
        rw [this]
        exact Put.mk hn
      split at h
      · split at h
        · rename_i hc
          exact key (by simpa using hc.1) (fun c hm => List.all_eq_true.1 hc.2 c hm) h
        · exact h.elim
      · exact key h.1.1 h.1.2 h.2
    · exact h.elim
  case h_2 e ho =>
    split at h
    · rename_i hz
      obtain ⟨z, hzr, hzc⟩ := hasZero_of hz w
      refine upon_value ?_ (Put.mk (finQ_of h))
      simp [execOp, ho, Instr.alloc, hzr, newVar, newRow, hzc]
    · exact h.elim
  case h_3 e x ho =>
    refine upon_value ?_ (Put.mk (finQ_of h))
    simp [execOp, ho, Instr.box, newVar, newRow]
  case h_4 t len parts ho =>
    split at h
    · rename_i e hu
      split at h
      · rename_i cells hc
        refine upon_value ?_ (Put.mk (finQ_of h))
        have e1 : (parts.toList.map fun p => (p.1, a.eval p.2)).toArray = parts.map fun x => (x.1, a.eval x.2) := Array.ext' (by simp)
        have := sliceV_of hu hc w
        rw [e1] at this
        simp [execOp, ho, this]
      · exact h.elim
    · exact h.elim
  case h_5 t l c ho =>
    obtain ⟨v, w', hr, h⟩ := h
    obtain ⟨v', rfl, h⟩ := exS_of h
    refine upon_value ?_ (Put.mk (finQ_of h))
    simp [execOp, ho, hr]
  case h_6 t ho =>
    refine upon_value ?_ (Put.mk (finQ_of h))
    simp [execOp, ho, Instr.makeMap]
  case h_7 t m k x ho =>
    obtain ⟨v, w', hr, h⟩ := h
    have : (execOp a.eval o).run P w = .ok .skip w' := by simp [execOp, ho, hr]
    rw [this]; exact Put.mk h
  case h_8 t m k x ho =>
    obtain ⟨v, w', hr, h⟩ := h
    have : (execOp a.eval o).run P w = .ok .skip w' := by simp [execOp, ho, hr]
    rw [this]; exact Put.mk h
  case h_9 src dst x ho =>
    obtain ⟨v, w', hr, h⟩ := h
    obtain ⟨v', rfl, h⟩ := exT_of h
    refine upon_value ?_ (Put.mk (finQ_of h))
    simp [execOp, ho, hr]
  case h_10 f args ats ho =>
    split at h
    · rename_i g fi ca hf
      split at h
      · rename_i hc
        have e1 : (fi.toList ++ args.toList.map a.eval ++ ca.toList).toArray = fi ++ args.map a.eval ++ ca := Array.ext' (by simp)
        have : (execOp a.eval o).run P w = .ok (.enter g (fi ++ args.map a.eval ++ ca)) w := by
          simp [execOp, ho, resolve, hf, Deferred.ofValue, invoke, callFunc_of hc]
        rw [this]
        rw [e1] at h
        refine Calls.mono h ?_
        rintro e w' ⟨v, rfl, h⟩
        obtain ⟨v', rfl, h⟩ := exR_of h
        exact Put.mk (finQ_of h)
      · exact h.elim
    · exact h.elim
  case h_11 b args ats ho =>
    split at h
    · rename_i f tys hb
      obtain ⟨v, w', hr, h⟩ := h
      obtain ⟨v', rfl, h⟩ := exR_of h
      refine upon_value ?_ (Put.mk (finQ_of h))
      rw [hargs] at hr
      unfold bltn at hb
      split at hb <;> first
        | (simp only [Option.some.injEq, Prod.mk.injEq] at hb
           obtain ⟨rfl, _⟩ := hb
           simp [execOp, ho, resolve, invoke, builtin, hr]
           done)
        | (cases hb; done)
    · exact h.elim
  case h_12 => exact h.elim

theorem opD_of {next : Act → World → Prop} {Q : Exit → Act → World → Prop} (h : opD P ctl o a w next) : o.wp P a w (Put o a next) Q := by
  unfold opD at h
  split at h
  · obtain ⟨v, hy, hn⟩ := opQ_of h
    exact upon_value hy.1 (Put.mk hn)
  · exact opM_of h

/-- All that a list of operations writes lies in 'ws'. -/
def Dsts (ws : List Nat) (l : List Oper) : Prop := ∀ o ∈ l, ∀ d, o.dst = some d → d ∈ ws

theorem denList_of {ops : Array Oper} {K : Act → World → Prop} {Q : Exit → Act → World → Prop} {ws : List Nat} {a0 : Act} (hQ : ∀ a w, Same ws a0 a → K a w → Q .normal a w) :
    ∀ (l : List Oper) (a : Act) (w : World), Dsts ws l → Same ws a0 a → denList P ctl ops K l a w → wpList P ops Q l a w
  | [], a, w, _, hs, h => hQ a w hs h
  | o :: l, a, w, hd, hs, h => by
    have hd' : Dsts ws l := fun o ho => hd o (by simp [ho])
    have hp : ∀ v, Same ws a0 (a.put o.dst v) := fun v => hs.put (hd o (by simp)) v
    simp only [denList] at h
    simp only [wpList]
    split at h
    · rename_i hw
      simp only [hw, if_true]
      refine .inl (Oper.wp_mono ?_ (opD_of h))
      rintro a' w' ⟨h', u, rfl⟩
      exact denList_of hQ l _ w' hd' (hp u) h'
    · rename_i hw
      simp only [hw, Bool.false_eq_true, if_false]
      exact denList_of hQ l _ _ hd' (hp _) h

theorem denStill_of {ops : Array Oper} {K K' : Act → Prop} {ws : List Nat} {a0 : Act} (hK : ∀ a, Same ws a0 a → K a → K' a) :
    ∀ (l : List Oper) (a : Act), Dsts ws l → Same ws a0 a → denStill P ctl ops w K l a → wpStill P ops w K' l a
  | [], a, _, hs, h => hK a hs h
  | o :: l, a, hd, hs, h => by
    have hd' : Dsts ws l := fun o ho => hd o (by simp [ho])
    have hp : ∀ v, Same ws a0 (a.put o.dst v) := fun v => hs.put (hd o (by simp)) v
    simp only [denStill] at h
    simp only [wpStill]
    split at h
    · rename_i hw
      simp only [hw, if_true]
      obtain ⟨v, hy, hn⟩ := opQ_of h
      unfold Oper.still
      rw [hy.1]
      exact ⟨rfl, denStill_of hK l _ hd' (hp v) hn⟩
    · rename_i hw
      simp only [hw, Bool.false_eq_true, if_false]
      exact denStill_of hK l _ hd' (hp _) h

/-! ### A region that draws its order: reads are taken first; behind each operation that acts, but for the late ones, the blocks that are read are as they were. -/

/-- Whatever order is picked from here on; 'S' is shown behind each operation that is not 'late'. -/
def AnyG (P : Program) (ops : Array Oper) (Q : Exit → Act → World → Prop) (S : World → Prop) (late : List Nat) : Nat → Array Bool → Act → World → Prop
  | 0, listed, a, w => Region.ready .any ops listed = [] ∧ Q .normal a w
  | n + 1, listed, a, w => (Region.ready .any ops listed = [] → Q .normal a w) ∧
    ∀ i ∈ Region.ready .any ops listed, wpOp P ops Q i (fun a' w' => (i ∉ late → S w → S w') ∧ AnyG P ops Q S late n (listed.setIfInBounds i true) a' w') a w

theorem AnyG.any {ops : Array Oper} {Q : Exit → Act → World → Prop} {S : World → Prop} {late : List Nat} : ∀ (n : Nat) (listed : Array Bool) (a : Act) (w : World), AnyG P ops Q S late n listed a w → wpAny P .any ops Q n listed a w
  | 0, _, _, _, h => h
  | n + 1, _, _, _, h => ⟨h.1, fun i hi => wpOp_mono (fun a' w' h' => AnyG.any n _ a' w' h'.2) (h.2 i hi)⟩

theorem not_listed {ops : Array Oper} {listed : Array Bool} {i j : Nat} (hi : i ∈ Region.ready .any ops listed) (hj : j ∈ Region.ready .any ops listed) {oj : Oper} (hoj : ops[j]? = some oj) :
    ∀ e ∈ oj.after, Region.binds .any e = true → e.on ≠ i := by
  intro e he hb heq
  obtain ⟨hun, _, _, _⟩ := mem_ready.1 hi
  obtain ⟨_, oj', hoj', hall⟩ := mem_ready.1 hj
  rw [hoj] at hoj'
  cases hoj'
  have h1 := hall e he hb
  rw [heq] at h1
  rcases Nat.lt_or_ge i listed.size with h' | h'
  · simp [h'] at hun h1
    rw [hun] at h1
    cases h1
  · simp [Array.getElem?_eq_none h'] at hun

/-- A read that may come up may be taken first: whoever could come ahead of it leaves the blocks that it reads. -/
theorem AnyG.first {ops : Array Oper} {Q : Exit → Act → World → Prop} {S : World → Prop} {late : List Nat} {i : Nat} {oi : Oper} {v : Value} (hi : ops[i]? = some oi) (hsel : ∀ (j : Nat) (o : Oper) cs b, ops[j]? = some o → o.op ≠ .select cs b)
    (hQ : ∀ c a w, Q (.panic c) (a.put oi.dst v) w → Q (.panic c) a w) :
    ∀ (n : Nat) (listed : Array Bool) (a : Act) (w : World),
      (∀ j oj, ops[j]? = some oj → j ≠ i → listed.getD j true = false → (∀ e ∈ oj.after, Region.binds .any e = true → e.on ≠ i) → oi.apart ops oj = true) →
      (∃ X : List Nat, (∀ d ∈ late, d ∈ X) ∧ ∀ d ∈ X, listed.getD d true = false ∧ ∃ od, ops[d]? = some od ∧ ∃ e ∈ od.after, Region.binds .any e = true ∧ (e.on = i ∨ e.on ∈ X)) →
      i ∈ Region.ready .any ops listed → YieldsIf P ops S oi v a → S w → AnyG P ops Q S late n (listed.setIfInBounds i true) (a.put oi.dst v) w → AnyG P ops Q S late (n + 1) listed a w := by
  intro n
  induction n with
  | zero =>
    intro listed a w _ _ hr hy hS H
    refine ⟨fun h => (by rw [h] at hr; cases hr), fun j hj => ?_⟩
    by_cases hji : j = i
    · subst hji; exact hy.wpOp hi hS ⟨fun _ h => h, H⟩
    · have := ready_mono hj hji
      rw [H.1] at this
      cases this
  | succ n ih =>
    intro listed a w hfree hlate hr hy hS H
    refine ⟨fun h => (by rw [h] at hr; cases hr), fun j hj => ?_⟩
    by_cases hji : j = i
    · subst hji; exact hy.wpOp hi hS ⟨fun _ h => h, H⟩
    · have h1 := H.2 j (ready_mono hj hji)
      obtain ⟨hjun, oj, hoj, _⟩ := mem_ready.1 hj
      have hnot := not_listed hr hj hoj
      obtain ⟨X, hX1, hX2⟩ := hlate
      have hjX : j ∉ X := fun hm => by
        obtain ⟨_, od, hod, e, he, hb, hon⟩ := hX2 j hm
        rw [hoj] at hod
        cases hod
        rcases hon with hon | hon
        · exact hnot e he hb hon
        · obtain ⟨_, oj', hoj', hall⟩ := mem_ready.1 hj
          rw [hoj] at hoj'
          cases hoj'
          have h3 := hall e he hb
          have h4 := (hX2 e.on hon).1
          rcases Nat.lt_or_ge e.on listed.size with h' | h'
          · simp [h'] at h3 h4
            rw [h3] at h4
            cases h4
          · simp [Array.getElem?_eq_none h'] at h3
      have hjl : j ∉ late := fun hm => hjX (hX1 j hm)
      have h2 := wpOp_putIf hoj (hfree j oj hoj hji hjun hnot) (fun cs b => hsel i oi cs b hi) (fun cs b => hsel j oj cs b hoj) hQ hy h1
      have un : ∀ k, (listed.setIfInBounds j true).getD k true = false → listed.getD k true = false := fun k hk => by
        by_cases hjk : j = k
        · subst hjk; exact hjun
        · rwa [getD_set_ne true hjk] at hk
      refine wpOp_mono (fun a' w' h3 => ⟨h3.2.1, ih (listed.setIfInBounds j true) a' w' (fun k ok hk hki hun => hfree k ok hk hki (un k hun)) ⟨X, hX1, fun d hd => ⟨(getD_set_ne true (show j ≠ d from fun e => hjX (by rw [e]; exact hd))).trans (hX2 d hd).1, (hX2 d hd).2⟩⟩ (ready_mono hr (Ne.symm hji)) h3.1 (h3.2.1 hjl hS) ?_⟩) h2
      rw [Array.setIfInBounds_comm _ _ hji]
      exact h3.2.2

/-- The same of an operation that yields its value whatever the world. -/
theorem AnyG.firstP {ops : Array Oper} {Q : Exit → Act → World → Prop} {S : World → Prop} {late : List Nat} {i : Nat} {oi : Oper} {v : Value} (hi : ops[i]? = some oi) (hsel : ∀ (j : Nat) (o : Oper) cs b, ops[j]? = some o → o.op ≠ .select cs b)
    (hQ : ∀ c a w, Q (.panic c) (a.put oi.dst v) w → Q (.panic c) a w) :
    ∀ (n : Nat) (listed : Array Bool) (a : Act) (w : World),
      (∀ j oj, ops[j]? = some oj → j ≠ i → listed.getD j true = false → (∀ e ∈ oj.after, Region.binds .any e = true → e.on ≠ i) → oi.apart ops oj = true) →
      i ∈ Region.ready .any ops listed → YieldsIf P ops (fun _ => True) oi v a → AnyG P ops Q S late n (listed.setIfInBounds i true) (a.put oi.dst v) w → AnyG P ops Q S late (n + 1) listed a w := by
  intro n
  induction n with
  | zero =>
    intro listed a w _ hr hy H
    refine ⟨fun h => (by rw [h] at hr; cases hr), fun j hj => ?_⟩
    by_cases hji : j = i
    · subst hji; exact hy.wpOp hi trivial ⟨fun _ h => h, H⟩
    · have := ready_mono hj hji
      rw [H.1] at this
      cases this
  | succ n ih =>
    intro listed a w hfree hr hy H
    refine ⟨fun h => (by rw [h] at hr; cases hr), fun j hj => ?_⟩
    by_cases hji : j = i
    · subst hji; exact hy.wpOp hi trivial ⟨fun _ h => h, H⟩
    · have h1 := H.2 j (ready_mono hj hji)
      obtain ⟨hjun, oj, hoj, _⟩ := mem_ready.1 hj
      have hnot := not_listed hr hj hoj
      have h2 := wpOp_putIf hoj (hfree j oj hoj hji hjun hnot) (fun cs b => hsel i oi cs b hi) (fun cs b => hsel j oj cs b hoj) hQ hy h1
      have un : ∀ k, (listed.setIfInBounds j true).getD k true = false → listed.getD k true = false := fun k hk => by
        by_cases hjk : j = k
        · subst hjk; exact hjun
        · rwa [getD_set_ne true hjk] at hk
      refine wpOp_mono (fun a' w' h3 => ⟨h3.2.1, ih (listed.setIfInBounds j true) a' w' (fun k ok hk hki hun => hfree k ok hk hki (un k hun)) (ready_mono hr (Ne.symm hji)) h3.1 ?_⟩) h2
      rw [Array.setIfInBounds_comm _ _ hji]
      exact h3.2.2

/-- Does an operation wait for number 'i', or for one of 'X'? -/
def waitsFor (ops : Array Oper) (i : Nat) (X : List Nat) (d : Nat) : Bool := match ops.toList[d]? with
  | some od => od.after.toList.any fun e => Region.binds .any e && (e.on == i || X.contains e.on)
  | none => false
/-- Those that have not come up and wait for number 'i', themselves or through others. -/
def lateSet (ops : Array Oper) (listed : Array Bool) (i : Nat) : List Nat :=
  (List.range ops.size).foldl (fun X d => if !listed.getD d true && waitsFor ops i X d then d :: X else X) []
/-- None of the late operations has come up; each waits for number 'i'. -/
def lateOK (ops : Array Oper) (listed : Array Bool) (late : List Nat) (i : Nat) : Bool := match late with
  | [] => true
  | d :: r => (d :: r).all (fun d => (lateSet ops listed i).contains d) && (lateSet ops listed i).all fun d => !listed.getD d true && waitsFor ops i (lateSet ops listed i) d

theorem lateOK_spec {ops : Array Oper} {listed : Array Bool} {late : List Nat} {i : Nat} (h : lateOK ops listed late i = true) :
    ∃ X : List Nat, (∀ d ∈ late, d ∈ X) ∧ ∀ d ∈ X, listed.getD d true = false ∧ ∃ od, ops[d]? = some od ∧ ∃ e ∈ od.after, Region.binds .any e = true ∧ (e.on = i ∨ e.on ∈ X) := by
  unfold lateOK at h
  split at h
  · exact ⟨[], by simp, by simp⟩
  · rename_i d r
    obtain ⟨X, hX⟩ : ∃ X, X = lateSet ops listed i := ⟨_, rfl⟩
    rw [← hX] at h
    simp only [Bool.and_eq_true] at h
    refine ⟨X, fun d' hd' => by simpa using List.all_eq_true.1 h.1 d' hd', fun d' hd' => ?_⟩
    have h2 := List.all_eq_true.1 h.2 d' hd'
    simp only [Bool.and_eq_true, Bool.not_eq_true'] at h2
    refine ⟨h2.1, ?_⟩
    have h3 := h2.2
    unfold waitsFor at h3
    split at h3
    · rename_i od hod
      obtain ⟨e, he, hb⟩ := List.any_eq_true.1 h3
      simp only [Bool.and_eq_true, Bool.or_eq_true, beq_iff_eq, List.contains_iff_mem] at hb
      exact ⟨od, by simpa using hod, e, by simpa using he, hb.1, hb.2⟩
    · cases h3

/-- The order in which a region is walked is one that serves every order. -/
def schedOK (P : Program) (ops : Array Oper) (late : List Nat) : List Nat → Array Bool → Bool
  | [], listed => (Region.ready .any ops listed).isEmpty
  | i :: rest, listed => (match ops.toList[i]? with
    | some o => (if qk P o then (Region.ready .any ops listed).contains i && Region.free .any ops listed i && (!wq o || lateOK ops listed late i) else Region.ready .any ops listed == [i])
    | none => false) && schedOK P ops late rest (listed.setIfInBounds i true)

theorem denHeld_of {ops : Array Oper} {B late : List Nat} {w0 : World} {K : Act → World → Prop} {Q : Exit → Act → World → Prop} {ws : List Nat} {a0 : Act} (hsel : Region.noSelect ops = true) (hQ : ∀ a w, Same ws a0 a → K a w → Q .normal a w)
    (hpan : ∀ c a w, ¬ Q (.panic c) a w) (hd : Dsts ws ops.toList) :
    ∀ (l : List Nat) (n : Nat) (listed : Array Bool) (a : Act) (w : World), l.length ≤ n → schedOK P ops late l listed = true → ((∀ d ∈ late, listed.getD d true = false) → keepB B w0 w) → Same ws a0 a → denHeld P ctl ops B late w0 K l a w →
      AnyG P ops Q (keepB B w0) late n listed a w
  | [], n, listed, a, w, _, hs, _, hsm, h => by
    simp only [schedOK, List.isEmpty_iff] at hs
    cases n with
    | zero => exact ⟨hs, hQ _ _ hsm h⟩
    | succ n => exact ⟨fun _ => hQ _ _ hsm h, by rw [hs]; simp⟩
  | i :: l, n, listed, a, w, hn, hs, hk, hsm, h => by
    obtain ⟨n, rfl⟩ : ∃ m, n = m + 1 := ⟨n - 1, by simp at hn; omega⟩
    simp only [schedOK, Bool.and_eq_true] at hs
    obtain ⟨hs1, hs2⟩ := hs
    simp only [denHeld] at h
    have un : ∀ d, (listed.setIfInBounds i true).getD d true = false → d ≠ i ∧ listed.getD d true = false := fun d hd => by
      by_cases hid : i = d
      · subst hid
        by_cases hlt : i < listed.size
        · simp [hlt] at hd
        · simp [hlt] at hd
      · exact ⟨fun e => hid e.symm, by rwa [getD_set_ne true hid] at hd⟩
    split at h
    · exact h.elim
    · rename_i o ho
      simp only [ho] at hs1
      have ho' : ops[i]? = some o := by simpa using ho
      have hp : ∀ v, Same ws a0 (a.put o.dst v) := fun v => hsm.put (hd o (List.mem_of_getElem? ho)) v
      have hln : l.length ≤ n := by simp at hn; omega
      by_cases hq : qk P o = true
      · simp only [hq, if_true, Bool.and_eq_true] at hs1
        obtain ⟨⟨hr, hf⟩, hl⟩ := hs1
        by_cases hwq : wq o = true
        · simp only [hwq, Bool.not_true, Bool.false_or] at hl
          have hl' := lateOK_spec hl
          have hkw : keepB B w0 w := hk fun d hd => by obtain ⟨X, h1, h2⟩ := hl'; exact (h2 d (h1 d hd)).1
          have hy : ∃ v, YieldsIf P ops (keepB B w0) o v a ∧ denHeld P ctl ops B late w0 K l (a.put o.dst v) w := by
            split at h
            · rename_i hw
              exact ⟨undef, .inr ⟨hw, rfl⟩, h⟩
            · rename_i hw
              simp only [hq, hwq] at h
              obtain ⟨v, hy, hn⟩ := opQ_of h
              exact ⟨v, .inl ⟨hw, fun w' hw' => hy.2 B rfl w' (fun b hb => (hw' b hb).trans (hkw b hb).symm)⟩, hn⟩
          obtain ⟨v, hy, hdn⟩ := hy
          exact AnyG.first ho' (Region.noSelect_spec hsel) (fun c a w hp => absurd hp (hpan _ _ _)) n listed a w (Region.free_spec ho' hf) hl' (by simpa using hr) hy hkw
            (denHeld_of hsel hQ hpan hd l n _ _ _ hln hs2 (fun hu => hk fun d hd => (un d (hu d hd)).2) (hp v) hdn)
        · have hwq' : wq o = false := by simpa using hwq
          have hy : ∃ v, YieldsIf P ops (fun _ => True) o v a ∧ denHeld P ctl ops B late w0 K l (a.put o.dst v) w := by
            split at h
            · rename_i hw
              exact ⟨undef, .inr ⟨hw, rfl⟩, h⟩
            · rename_i hw
              simp only [hq, hwq'] at h
              obtain ⟨v, hy, hn⟩ := opQ_of h
              exact ⟨v, .inl ⟨hw, fun w' _ => hy.2 [] rfl w' (fun b hb => by cases hb)⟩, hn⟩
          obtain ⟨v, hy, hdn⟩ := hy
          exact AnyG.firstP ho' (Region.noSelect_spec hsel) (fun c a w hp => absurd hp (hpan _ _ _)) n listed a w (Region.free_spec ho' hf) (by simpa using hr) hy
            (denHeld_of hsel hQ hpan hd l n _ _ _ hln hs2 (fun hu => hk fun d hd => (un d (hu d hd)).2) (hp v) hdn)
      · have hq' : qk P o = false := by simpa using hq
        simp only [hq', Bool.false_eq_true, if_false, beq_iff_eq] at hs1
        refine ⟨fun h0 => by rw [hs1] at h0; simp at h0, fun j hj => ?_⟩
        rw [hs1] at hj
        simp only [List.mem_singleton] at hj
        subst hj
        unfold wpOp
        simp only [ho']
        split at h
        · rename_i hw
          simp only [hw, Bool.false_eq_true, if_false]
          exact ⟨fun _ h => h, denHeld_of hsel hQ hpan hd l n _ _ _ hln hs2 (fun hu => hk fun d hd => (un d (hu d hd)).2) (hp _) h⟩
        · rename_i hw
          simp only [hw, if_true]
          simp only [hq'] at h
          refine .inl (Oper.wp_mono ?_ (opM_of h))
          rintro a' w' ⟨hl, u, rfl⟩
          unfold lateK at hl
          split at hl
          · rename_i hlt
            have hm : j ∈ late := by simpa using hlt
            exact ⟨fun hn => absurd hm hn, denHeld_of hsel hQ hpan hd l n _ _ _ hln hs2 (fun hu => absurd rfl (un j (hu j hm)).1) (hp u) hl⟩
          · exact ⟨fun _ _ => hl.1, denHeld_of hsel hQ hpan hd l n _ _ _ hln hs2 (fun _ => hl.1) (hp u) hl.2⟩

/-! ### The same of a region two of whose acting operations may come in either order -/

def Sched.depth : Sched → Nat
  | .nil => 0
  | .op _ r => r.depth + 1
  | .fork _ x _ y => Nat.max x.depth y.depth + 1

def treeOK (P : Program) (ops : Array Oper) (late : List Nat) : Sched → Array Bool → Bool
  | .nil, listed => (Region.ready .any ops listed).isEmpty
  | .op i r, listed => (match ops.toList[i]? with
    | some o => (if qk P o then (Region.ready .any ops listed).contains i && Region.free .any ops listed i && (!wq o || lateOK ops listed late i) else Region.ready .any ops listed == [i])
    | none => false) && treeOK P ops late r (listed.setIfInBounds i true)
  | .fork i x j y, listed => (match ops.toList[i]?, ops.toList[j]? with
    | some o, some o' => !qk P o && !qk P o' && Region.ready .any ops listed == [i, j]
    | _, _ => false) && treeOK P ops late x (listed.setIfInBounds i true) && treeOK P ops late y (listed.setIfInBounds j true)

theorem un_set {listed : Array Bool} {i d : Nat} (hd : (listed.setIfInBounds i true).getD d true = false) : d ≠ i ∧ listed.getD d true = false := by
  by_cases hid : i = d
  · subst hid
    by_cases hlt : i < listed.size
    · simp [hlt] at hd
    · simp [hlt] at hd
  · exact ⟨fun e => hid e.symm, by rwa [getD_set_ne true hid] at hd⟩

/-- An operation that acts. -/
theorem actT_of {ops : Array Oper} {B late : List Nat} {w0 : World} {next : Act → World → Prop} {R : Act → World → Prop} {Q : Exit → Act → World → Prop} {ws : List Nat} {a0 : Act} (hd : Dsts ws ops.toList) {j : Nat} {o : Oper} (ho : ops.toList[j]? = some o) (hq : qk P o = false)
    {listed : Array Bool} (hsm : Same ws a0 a) (hk : (∀ d ∈ late, listed.getD d true = false) → keepB B w0 w) (hR : ∀ a' w', Same ws a0 a' → ((∀ d ∈ late, (listed.setIfInBounds j true).getD d true = false) → keepB B w0 w') → next a' w' → R a' w')
    (h : actT P ctl ops B late w0 j a w next) : wpOp P ops Q j (fun a' w' => (j ∉ late → keepB B w0 w → keepB B w0 w') ∧ R a' w') a w := by
  have ho' : ops[j]? = some o := by simpa using ho
  have hp : ∀ v, Same ws a0 (a.put o.dst v) := fun v => hsm.put (hd o (List.mem_of_getElem? ho)) v
  unfold wpOp
  unfold actT at h
  simp only [ho'] 
  simp only [ho, hq] at h
  split at h
  · rename_i hw
    simp only [hw, Bool.false_eq_true, if_false]
    exact ⟨fun _ h => h, hR _ _ (hp _) (fun hu => hk fun d hd => (un_set (hu d hd)).2) h⟩
  · rename_i hw
    simp only [hw, if_true]
    refine .inl (Oper.wp_mono ?_ (opM_of h))
    rintro a' w' ⟨hl, u, rfl⟩
    unfold lateK at hl
    split at hl
    · rename_i hlt
      have hm : j ∈ late := by simpa using hlt
      exact ⟨fun hn => absurd hm hn, hR _ _ (hp u) (fun hu => absurd rfl (un_set (hu j hm)).1) hl⟩
    · exact ⟨fun _ _ => hl.1, hR _ _ (hp u) (fun _ => hl.1) hl.2⟩

theorem denTree_of {ops : Array Oper} {B late : List Nat} {w0 : World} {K : Act → World → Prop} {Q : Exit → Act → World → Prop} {ws : List Nat} {a0 : Act} (hsel : Region.noSelect ops = true) (hQ : ∀ a w, Same ws a0 a → K a w → Q .normal a w)
    (hpan : ∀ c a w, ¬ Q (.panic c) a w) (hd : Dsts ws ops.toList) :
    ∀ (l : Sched) (n : Nat) (listed : Array Bool) (a : Act) (w : World), l.depth ≤ n → treeOK P ops late l listed = true → ((∀ d ∈ late, listed.getD d true = false) → keepB B w0 w) → Same ws a0 a → denTree P ctl ops B late w0 K l a w →
      AnyG P ops Q (keepB B w0) late n listed a w
  | .nil, n, listed, a, w, _, hs, _, hsm, h => by
    simp only [treeOK, List.isEmpty_iff] at hs
    cases n with
    | zero => exact ⟨hs, hQ _ _ hsm h⟩
    | succ n => exact ⟨fun _ => hQ _ _ hsm h, by rw [hs]; simp⟩
  | .op i l, n, listed, a, w, hn, hs, hk, hsm, h => by
    obtain ⟨n, rfl⟩ : ∃ m, n = m + 1 := ⟨n - 1, by simp [Sched.depth] at hn; omega⟩
    simp only [treeOK, Bool.and_eq_true] at hs
    obtain ⟨hs1, hs2⟩ := hs
    simp only [denTree] at h
    have un : ∀ d, (listed.setIfInBounds i true).getD d true = false → d ≠ i ∧ listed.getD d true = false := fun d hd => un_set hd
    have hln : l.depth ≤ n := by simp [Sched.depth] at hn; omega
    cases ho : ops.toList[i]? with
    | none => simp [ho] at hs1
    | some o =>
      simp only [ho] at hs1
      have ho' : ops[i]? = some o := by simpa using ho
      have hp : ∀ v, Same ws a0 (a.put o.dst v) := fun v => hsm.put (hd o (List.mem_of_getElem? ho)) v
      by_cases hq : qk P o = true
      · simp only [hq, if_true, Bool.and_eq_true] at hs1
        simp only [actT, ho, hq] at h
        obtain ⟨⟨hr, hf⟩, hl⟩ := hs1
        by_cases hwq : wq o = true
        · simp only [hwq, Bool.not_true, Bool.false_or] at hl
          have hl' := lateOK_spec hl
          have hkw : keepB B w0 w := hk fun d hd => by obtain ⟨X, h1, h2⟩ := hl'; exact (h2 d (h1 d hd)).1
          have hy : ∃ v, YieldsIf P ops (keepB B w0) o v a ∧ denTree P ctl ops B late w0 K l (a.put o.dst v) w := by
            split at h
            · rename_i hw
              exact ⟨undef, .inr ⟨hw, rfl⟩, h⟩
            · rename_i hw
              simp only [hwq] at h
              obtain ⟨v, hy, hn⟩ := opQ_of h
              exact ⟨v, .inl ⟨hw, fun w' hw' => hy.2 B rfl w' (fun b hb => (hw' b hb).trans (hkw b hb).symm)⟩, hn⟩
          obtain ⟨v, hy, hdn⟩ := hy
          exact AnyG.first ho' (Region.noSelect_spec hsel) (fun c a w hp => absurd hp (hpan _ _ _)) n listed a w (Region.free_spec ho' hf) hl' (by simpa using hr) hy hkw
            (denTree_of hsel hQ hpan hd l n _ _ _ hln hs2 (fun hu => hk fun d hd => (un d (hu d hd)).2) (hp v) hdn)
        · have hwq' : wq o = false := by simpa using hwq
          have hy : ∃ v, YieldsIf P ops (fun _ => True) o v a ∧ denTree P ctl ops B late w0 K l (a.put o.dst v) w := by
            split at h
            · rename_i hw
              exact ⟨undef, .inr ⟨hw, rfl⟩, h⟩
            · rename_i hw
              simp only [hwq'] at h
              obtain ⟨v, hy, hn⟩ := opQ_of h
              exact ⟨v, .inl ⟨hw, fun w' _ => hy.2 [] rfl w' (fun b hb => by cases hb)⟩, hn⟩
          obtain ⟨v, hy, hdn⟩ := hy
          exact AnyG.firstP ho' (Region.noSelect_spec hsel) (fun c a w hp => absurd hp (hpan _ _ _)) n listed a w (Region.free_spec ho' hf) (by simpa using hr) hy
            (denTree_of hsel hQ hpan hd l n _ _ _ hln hs2 (fun hu => hk fun d hd => (un d (hu d hd)).2) (hp v) hdn)
      · have hq' : qk P o = false := by simpa using hq
        simp only [hq', Bool.false_eq_true, if_false, beq_iff_eq] at hs1
        refine ⟨fun h0 => by rw [hs1] at h0; simp at h0, fun j hj => ?_⟩
        rw [hs1] at hj
        simp only [List.mem_singleton] at hj
        subst hj
        exact actT_of hd ho hq' hsm hk (fun a' w' hsm' hk' hn => denTree_of hsel hQ hpan hd l n _ _ _ hln hs2 hk' hsm' hn) h
  | .fork i x j y, n, listed, a, w, hn, hs, hk, hsm, h => by
    obtain ⟨n, rfl⟩ : ∃ m, n = m + 1 := ⟨n - 1, by simp [Sched.depth] at hn; omega⟩
    simp only [treeOK, Bool.and_eq_true] at hs
    obtain ⟨⟨hs1, hs2⟩, hs3⟩ := hs
    simp only [denTree] at h
    have hlx : x.depth ≤ n := by simp [Sched.depth] at hn; exact Nat.le_trans (Nat.le_max_left _ _) hn
    have hly : y.depth ≤ n := by simp [Sched.depth] at hn; exact Nat.le_trans (Nat.le_max_right _ _) hn
    cases ho : ops.toList[i]? with
    | none => simp [ho] at hs1
    | some o =>
      cases ho2 : ops.toList[j]? with
      | none => simp [ho, ho2] at hs1
      | some o2 =>
        simp only [ho, ho2, Bool.and_eq_true, Bool.not_eq_true', beq_iff_eq] at hs1
        obtain ⟨⟨hq, hq2⟩, hr⟩ := hs1
        refine ⟨fun h0 => by rw [hr] at h0; simp at h0, fun k hk' => ?_⟩
        rw [hr] at hk'
        simp only [List.mem_cons, List.not_mem_nil, or_false] at hk'
        rcases hk' with rfl | rfl
        · exact actT_of hd ho hq hsm hk (fun a' w' hsm' hk' hn => denTree_of hsel hQ hpan hd x n _ _ _ hlx hs2 hk' hsm' hn) h.1
        · exact actT_of hd ho2 hq2 hsm hk (fun a' w' hsm' hk' hn => denTree_of hsel hQ hpan hd y n _ _ _ hly hs3 hk' hsm' hn) h.2

def regOK (P : Program) (k : RK) (ops : Array Oper) (draw : Bool) : Bool := match k, draw with
  | .seq, false => true
  | .still, true => Region.lexB .any ops
  | .tail n, true => Region.lexTailB .any ops n
  | .held s late, true => Region.noSelect ops && decide (s.length ≤ ops.size) && schedOK P ops late s (Array.replicate ops.size false)
  | .tree s late, true => Region.noSelect ops && decide (s.depth ≤ ops.size) && treeOK P ops late s (Array.replicate ops.size false)
  | _, _ => false

theorem denReg_of {k : RK} {id : Nat} {ops : Array Oper} {draw : Bool} {K : Act → World → Prop} {Q : Exit → Act → World → Prop} {ws : List Nat} (hm : P.follows .mixedOrders = true) (hok : regOK P k ops draw = true)
    (hQ : ∀ a' w, Same ws a a' → K a' w → Q .normal a' w) (hpan : ∀ c a w, ¬ Q (.panic c) a w) (hd : Dsts ws ops.toList) (h : denReg P ctl k ops draw K a w) : (Code.region id ops draw).wp P Q a w := by
  obtain ⟨l⟩ := ops
  unfold denReg at h
  split at h
  · exact wp_region_lit (denList_of hQ _ _ _ hd (Same.refl _ _) h)
  · exact wp_region_still_lit hm (by simpa [regOK] using hok) (denStill_of (fun a hs h => hQ _ _ hs h) _ _ hd (Same.refl _ _) h)
  · rename_i n
    exact wp_region_still_tail n hm (by simpa [regOK] using hok)
      (denStill_of (fun a hs h => denList_of hQ _ _ _ (fun o ho => hd o (List.mem_of_mem_drop ho)) hs h) _ _ (fun o ho => hd o (List.mem_of_mem_take ho)) (Same.refl _ _) h)
  · rename_i s late
    simp only [regOK, Bool.and_eq_true, decide_eq_true_eq] at hok
    obtain ⟨B, h⟩ := h
    exact wp_region_any hm (AnyG.any _ _ _ _ (denHeld_of hok.1.1 hQ hpan hd s _ _ _ _ hok.1.2 hok.2 (fun _ _ _ => rfl) (Same.refl _ _) h))
  · rename_i s late
    simp only [regOK, Bool.and_eq_true, decide_eq_true_eq] at hok
    obtain ⟨B, h⟩ := h
    exact wp_region_any hm (AnyG.any _ _ _ _ (denTree_of hok.1.1 hQ hpan hd s _ _ _ _ hok.1.2 hok.2 (fun _ _ _ => rfl) (Same.refl _ _) h))
  · exact h.elim

end Go.Den
