/-
  'den' is sound: the code; a call.
-/
import Derived.Test.YtkcnchnlhdhcbaaDen5
set_option linter.unusedSimpArgs false
namespace Go.Den
open Go

variable {P : Program} {ctl : List Nat}

/-- The slots that code writes. -/
def wr : Code → List Nat
  | .region _ ops _ => ops.toList.filterMap (·.dst)
  | .seq x y => wr x ++ wr y
  | .cond _ x y => wr x ++ wr y
  | .block _ x => wr x
  | .loop x => wr x
  | _ => []

/-- Code that writes few slots is walked to where only those have turned. -/
def Walks (P : Program) (ctl : List Nat) (c : Code) (p : Plan) : Prop :=
  ∀ (Q : Exit → Act → World → Prop) (a : Act) (w : World), (∀ ch a w, ¬ Q (.panic ch) a w) → den P ctl c p Q a w → c.wp P (fun e a' w' => Q e a' w' ∧ Same (wr c) a a') a w

/-- The plan fits the code. -/
noncomputable def okP (P : Program) (c : Code) : Plan → Bool :=
  Code.rec (motive := fun _ => Plan → Bool)
    (fun _ => true)
    (fun _ ops draw p => match p with | .reg k => regOK P k ops draw | _ => false)
    (fun x _y okx oky p => match p with
      | .seq p q => okx p && oky q
      | .join ms p q => okx p && oky q && (wr x).all fun t => (ms.map (·.1)).contains t
      | _ => false)
    (fun _ _ _ okx oky p => match p with | .cond p q => okx p && oky q | _ => false)
    (fun _ _ okx p => match p with | .block p => okx p | _ => false)
    (fun x okx p => match p with | .loop ms p => okx p && (wr x).all fun t => (ms.map (·.1)).contains t | _ => false)
    (fun _ _ _ _ _ _ _ => false)
    (fun _ _ => true)
    (fun _ _ _ => false)
    (fun _ _ => false)
    (fun _ _ => false)
    (fun _ => true)
    (fun _ _ => false)
    c

/-- The slots set back are those of the frame that came. -/
theorem Ms.set_of : ∀ (ms : Ms) (a b : Act), b.defers = a.defers → b.tmps.size = a.tmps.size → (∀ t, t ∉ ms.map (·.1) → b.tmps[t]? = a.tmps[t]?) →
    ms.set (ms.vals b) (fun t => b.tmps.getD t undef) a = b
  | [], a, b, hd, hs, h => by
    simp only [Ms.set]
    cases a; cases b
    simp only at *
    subst hd
    congr 1
    apply Array.ext_getElem?
    intro i
    exact (h i (by simp)).symm
  | (t, x) :: ms, a, b, hd, hs, h => by
    have step : (Ms.set ms (Ms.vals ms b) (fun t => b.tmps.getD t undef) { a with tmps := a.tmps.setIfInBounds t (b.tmps.getD t undef) }) = b := by
      refine Ms.set_of ms _ b hd (by simpa using hs) (fun u hu => ?_)
      by_cases htu : t = u
      · subst htu
        simp only [Array.getElem?_setIfInBounds_self]
        by_cases hlt : t < a.tmps.size
        · simp [hlt, show t < b.tmps.size by omega]
        · simp [hlt, show ¬ t < b.tmps.size by omega]
      · rw [Array.getElem?_setIfInBounds_ne htu]
        exact h u (by simp only [List.map_cons, List.mem_cons, not_or]; exact ⟨fun e => htu e.symm, hu⟩)
    cases x with
    | none => simpa only [Ms.set, Ms.vals] using step
    | some s => simpa only [Ms.set, Ms.vals, List.tail_cons, List.headD_cons] using step

theorem walks : ∀ (c : Code) (p : Plan), P.follows .mixedOrders = true → okP P c p = true → Walks P ctl c p := by
  intro c
  induction c with
  | skip => intro p hm hok Q a w hpan h; exact wp_skip ⟨h, Same.refl _ _⟩
  | region id ops draw =>
    intro p hm hok Q a w hpan h
    cases p <;> simp only [okP, den] at hok h <;> try (exact h.elim)
    refine denReg_of hm hok (ws := wr (.region id ops draw)) (fun a' w hs hk => ⟨hk, hs⟩) (fun c a w hq => hpan _ _ _ hq.1) ?_ h
    intro o ho d hd
    simp only [wr, List.mem_filterMap]
    exact ⟨o, ho, hd⟩
  | seq x y ihx ihy =>
    intro p hm hok Q a w hpan h
    cases p <;> simp only [okP, den] at hok h <;> try (exact h.elim)
    case seq p q =>
      simp only [Bool.and_eq_true] at hok
      refine wp_seq ?_
      refine wp_mono (ihx p hm hok.1 _ a w ?_ h) ?_
      · intro ch a w hp; exact hpan ch a w hp
      · rintro e a' w' ⟨hq, hs⟩
        cases e with
        | normal =>
          refine wp_mono (ihy q hm hok.2 Q a' w' hpan hq) ?_
          rintro e a'' w'' ⟨hq', hs'⟩
          exact ⟨hq', (hs.mono (by intro t ht; simp [wr, ht])).trans (hs'.mono (by intro t ht; simp [wr, ht]))⟩
        | _ => exact ⟨hq, hs.mono (by intro t ht; simp [wr, ht])⟩
    case join ms p q =>
      simp only [Bool.and_eq_true] at hok
      obtain ⟨⟨hokx, hoky⟩, hws⟩ := hok
      obtain ⟨J, hJ, hx⟩ := h
      refine wp_seq ?_
      refine wp_mono (ihx p hm hokx _ a w ?_ hx) ?_
      · intro ch a w hp; exact hpan ch a w hp
      · rintro e a' w' ⟨hq, hs⟩
        cases e with
        | normal =>
          obtain ⟨J', hj, hk⟩ := allI_of _ _ _ _ _ hq hJ
          have hk' := hk (fun t => a'.tmps.getD t undef) w' hj
          have hsub : ∀ t, t ∉ ms.map (·.1) → t ∉ wr x := fun t ht hm => ht (by
            have := List.all_eq_true.1 hws t hm
            simpa using this)
          rw [Ms.set_of ms a a' hs.1 hs.2.1 (fun t ht => hs.2.2 t (hsub t ht))] at hk'
          refine wp_mono (ihy q hm hoky Q a' w' hpan hk') ?_
          rintro e a'' w'' ⟨hq', hs'⟩
          exact ⟨hq', (hs.mono (by intro t ht; simp [wr, ht])).trans (hs'.mono (by intro t ht; simp [wr, ht]))⟩
        | _ => exact ⟨hq, hs.mono (by intro t ht; simp [wr, ht])⟩
  | cond c x y ihx ihy =>
    intro p hm hok Q a w hpan h
    cases p <;> simp only [okP, den] at hok h <;> try (exact h.elim)
    rename_i p q
    simp only [Bool.and_eq_true] at hok
    split at h
    · rename_i hc
      refine wp_cond_true hc (wp_mono (ihx p hm hok.1 Q a w hpan h) ?_)
      rintro e a' w' ⟨hq, hs⟩
      exact ⟨hq, hs.mono (by intro t ht; simp [wr, ht])⟩
    · rename_i hc
      refine wp_cond_false hc (wp_mono (ihy q hm hok.2 Q a w hpan h) ?_)
      rintro e a' w' ⟨hq, hs⟩
      exact ⟨hq, hs.mono (by intro t ht; simp [wr, ht])⟩
    · exact h.elim
  | block id x ihx =>
    intro p hm hok Q a w hpan h
    cases p <;> simp only [okP, den] at hok h <;> try (exact h.elim)
    rename_i p
    refine wp_block (wp_mono (ihx p hm hok _ a w ?_ h) ?_)
    · intro ch a w hp; exact hpan ch a w hp
    · rintro e a' w' ⟨hq, hs⟩
      cases e with
      | exit id' =>
        simp only [Exit.inBlock] at hq ⊢
        split at hq
        · rename_i he; simp only [he, if_true]; exact ⟨hq, hs⟩
        · rename_i he; simp only [he, if_false]; exact ⟨hq, hs⟩
      | _ => exact ⟨hq, hs⟩
  | loop x ihx =>
    intro p hm hok Q a w hpan h
    cases p <;> simp only [okP, den] at hok h <;> try (exact h.elim)
    rename_i ms p
    simp only [Bool.and_eq_true] at hok
    obtain ⟨hokx, hws⟩ := hok
    obtain ⟨I, ⟨n₀, h0⟩, hr⟩ := h
    have hsub : ∀ t, t ∉ ms.map (·.1) → t ∉ wr x := fun t ht hm => ht (by
      have := List.all_eq_true.1 hws t hm
      simpa using this)
    refine wp_loop_ghost (fun n b w => appI ms.shs (I n) (ms.vals b) w ∧ Same (wr x) a b) n₀ ⟨h0, Same.refl _ _⟩ ?_
    rintro n b w' ⟨hI, hs⟩
    obtain ⟨I', hi, hk⟩ := allI_of _ _ _ _ _ hI (hr n)
    have hk' := hk (fun t => b.tmps.getD t undef) w' hi
    rw [Ms.set_of ms a b hs.1 hs.2.1 (fun t ht => hs.2.2 t (hsub t ht))] at hk'
    refine wp_mono (ihx p hm hokx _ b w' ?_ hk') ?_
    · intro ch a w hp; exact hpan ch a w hp
    · rintro e a' w'' ⟨hq, hs'⟩
      cases e with
      | normal =>
        obtain ⟨m, hlt, hm'⟩ := hq
        exact ⟨m, hlt, hm', hs.trans hs'⟩
      | _ => exact ⟨hq, hs.trans hs'⟩
  | rangeFunc f ps x y ihx ihy => intro p hm hok; simp [okP] at hok
  | exit id => intro p hm hok Q a w hpan h; exact wp_exit ⟨h, Same.refl _ _⟩
  | scope x ihx => intro p hm hok; simp [okP] at hok
  | label l => intro p hm hok; simp [okP] at hok
  | goto l => intro p hm hok; simp [okP] at hok
  | ret => intro p hm hok Q a w hpan h; exact wp_ret ⟨h, Same.refl _ _⟩
  | refuse why => intro p hm hok; simp [okP] at hok

def resF (a : Act) : ResultVar → Sem Value
  | .tmp t => pure (a.tmps.getD t undef)
  | .cell b t => do loadVar t (← asAddr (a.tmps.getD b undef))

theorem results_list {a : Act} {w : World} : ∀ (l : List ResultVar) (K : List Value → Prop), retK P a w l K → ∃ vs, (l.mapM (resF a)).run P w = .ok vs w ∧ K vs
  | [], K, h => ⟨[], by simp, h⟩
  | .tmp t :: l, K, h => by
    obtain ⟨vs, hr, hk⟩ := results_list l _ h
    exact ⟨_, by simp only [List.mapM_cons, resF, Sem.run_bind, Sem.run_pure, Result.andThen_ok, hr], hk⟩
  | .cell b t :: l, K, h => by
    simp only [retK] at h
    split at h
    · rename_i ad hb
      obtain ⟨v, h, hl⟩ := ldT_of h
      obtain ⟨vs, hr, hk⟩ := results_list l _ h
      refine ⟨_, ?_, hk⟩
      simp only [List.mapM_cons, resF, Sem.run_bind, hb, asAddr, Sem.run_pure, Result.andThen_ok, hl w rfl, hr]
    · exact h.elim

theorem retT_of {fn : Func} {a : Act} {w : World} {K : Value → World → Prop} (h : retK P a w fn.results.toList (retT K w)) : ∃ v, (results fn a.tmps).run P w = .ok v w ∧ K v w := by
  obtain ⟨vs, hr, hk⟩ := results_list _ _ h
  refine ⟨if h : vs.toArray.size = 1 then vs.toArray[0] else .tuple vs.toArray, ?_, ?_⟩
  · show ((do let vs ← fn.results.mapM (resF a); pure (if h : vs.size = 1 then vs[0] else .tuple vs)) : Sem Value).run P w = _
    simp only [Array.mapM_eq_mapM_toList, Sem.run_bind, Sem.run_map, hr, Result.andThen_ok, Sem.run_pure]
  · match vs, hk with
    | [], hk => exact hk
    | [v], hk => exact hk
    | v :: u :: vs, hk =>
      have : ¬ (v :: u :: vs).toArray.size = 1 := by simp
      rw [dif_neg this]
      exact hk

/-- **A call**: what 'den' says of the body holds of the call. -/
theorem callsR_of {f : FuncId} {fn : Func} {c : Code} {args : List Value} {w : World} {K : Value → World → Prop} {p : Plan} (hm : P.follows .mixedOrders = true) (hf : P.funcs[f]? = some fn) (hb : fn.body = some c)
    (hok : okP P c p = true) (h : den P ctl c p (endD P fn K) (frame args fn.ntmps) w) : CallsR P f args.toArray w K := by
  refine calls_of_wp hf hb ?_
  have e : ({ tmps := args.toArray ++ Array.replicate (fn.ntmps - args.toArray.size) undef, defers := [] } : Act) = frame args fn.ntmps := by
    simp only [frame]
    congr 1
    apply Array.ext'
    simp
  rw [e]
  refine wp_mono (walks c p hm hok _ _ w ?_ h) ?_
  · intro ch a w hp; exact hp
  · rintro e a' w' ⟨hq, hs⟩
    cases e with
    | normal => obtain ⟨v, hr, hk⟩ := retT_of (P := P) hq; exact ⟨hs.1, v, hr, v, rfl, hk⟩
    | ret => obtain ⟨v, hr, hk⟩ := retT_of (P := P) hq; exact ⟨hs.1, v, hr, v, rfl, hk⟩
    | _ => exact hq.elim

end Go.Den
