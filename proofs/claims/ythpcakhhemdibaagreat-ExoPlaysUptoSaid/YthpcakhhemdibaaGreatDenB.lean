/-
  'den' is sound: the code; a call.
  Words of the printed normal forms; small laws on them.
  Laws on worlds: what a call keeps; rows of cells behind slices; append, copy, make.
  Own engine, the join: an argument's cells as its reading has them; the row's step for a law that answers true and leaves all that was.
  Rows that are only read: an argument's, or an own one's; own parts of a world side by side.
-/
import Derived.Test.YthpcakhhemdibaaGreatDenA
import Derived.ArgAppend
import Derived.Laws.CopyRow
import Derived.Below
import Derived.Laws.MakeOwn
import Derived.Laws.BitsLemmas
import Derived.Laws.Bits64
import Derived.Laws.BytesString
import Derived.Laws.IdiomStrings
import Derived.WalkKit
import Derived.ProofKit
import Derived.OpenShut
import Derived.Carry
import Derived.Deep.Slices
import Derived.DataElems
set_option linter.unusedVariables false
set_option linter.unusedSimpArgs false
namespace Go.Den
open Go

variable {P : Program} {ctl : List Nat}

/-- The slots that code writes. -/
def wr : Code → List Nat
  | .region _ ops _ => ops.toList.filterMap (·.dst)
  | .seq x y => wr x ++ wr y
  | .cond _ x y => wr x ++ wr y
  | .block _ x => wr x
  | .loop x => wr x
  | _ => []

/-- Code that writes few slots is walked to where only those have turned. -/
def Walks (P : Program) (ctl : List Nat) (c : Code) (p : Plan) : Prop :=
  ∀ (Q : Exit → Act → World → Prop) (a : Act) (w : World), (∀ ch a w, ¬ Q (.panic ch) a w) → den P ctl c p Q a w → c.wp P (fun e a' w' => Q e a' w' ∧ Same (wr c) a a') a w

/-- The plan fits the code. -/
noncomputable def okP (P : Program) (c : Code) : Plan → Bool :=
  Code.rec (motive := fun _ => Plan → Bool)
    (fun _ => true)
    (fun _ ops draw p => match p with | .reg k => regOK P k ops draw | _ => false)
    (fun x _y okx oky p => match p with
      | .seq p q => okx p && oky q
      | .join ms p q => okx p && oky q && (wr x).all fun t => (ms.map (·.1)).contains t
      | _ => false)
    (fun _ _ _ okx oky p => match p with | .cond p q => okx p && oky q | _ => false)
    (fun _ _ okx p => match p with | .block p => okx p | _ => false)
    (fun x okx p => match p with | .loop ms p => okx p && (wr x).all fun t => (ms.map (·.1)).contains t | _ => false)
    (fun _ _ _ _ _ _ _ => false)
    (fun _ _ => true)
    (fun _ _ _ => false)
    (fun _ _ => false)
    (fun _ _ => false)
    (fun _ => true)
    (fun _ _ => false)
    c

/-- The slots set back are those of the frame that came. -/
theorem Ms.set_of : ∀ (ms : Ms) (a b : Act), b.defers = a.defers → b.tmps.size = a.tmps.size → (∀ t, t ∉ ms.map (·.1) → b.tmps[t]? = a.tmps[t]?) →
    ms.set (ms.vals b) (fun t => b.tmps.getD t undef) a = b
  | [], a, b, hd, hs, h => by
    simp only [Ms.set]
    cases a; cases b
    simp only at *
    subst hd
    congr 1
    apply Array.ext_getElem?
    intro i
    exact (h i (by simp)).symm
  | (t, x) :: ms, a, b, hd, hs, h => by
    have step : (Ms.set ms (Ms.vals ms b) (fun t => b.tmps.getD t undef) { a with tmps := a.tmps.setIfInBounds t (b.tmps.getD t undef) }) = b := by
      refine Ms.set_of ms _ b hd (by simpa using hs) (fun u hu => ?_)
      by_cases htu : t = u
      · subst htu
        simp only [Array.getElem?_setIfInBounds_self]
        by_cases hlt : t < a.tmps.size
        · simp [hlt, show t < b.tmps.size by omega]
        · simp [hlt, show ¬ t < b.tmps.size by omega]
      · rw [Array.getElem?_setIfInBounds_ne htu]
        exact h u (by simp only [List.map_cons, List.mem_cons, not_or]; exact ⟨fun e => htu e.symm, hu⟩)
    cases x with
    | none => simpa only [Ms.set, Ms.vals] using step
    | some s => simpa only [Ms.set, Ms.vals, List.tail_cons, List.headD_cons] using step

theorem walks : ∀ (c : Code) (p : Plan), P.follows .mixedOrders = true → okP P c p = true → Walks P ctl c p := by
  intro c
  induction c with
  | skip => intro p hm hok Q a w hpan h; exact wp_skip ⟨h, Same.refl _ _⟩
  | region id ops draw =>
    intro p hm hok Q a w hpan h
    cases p <;> simp only [okP, den] at hok h <;> try (exact h.elim)
    refine denReg_of hm hok (ws := wr (.region id ops draw)) (fun a' w hs hk => ⟨hk, hs⟩) (fun c a w hq => hpan _ _ _ hq.1) ?_ h
    intro o ho d hd
    simp only [wr, List.mem_filterMap]
    exact ⟨o, ho, hd⟩
  | seq x y ihx ihy =>
    intro p hm hok Q a w hpan h
    cases p <;> simp only [okP, den] at hok h <;> try (exact h.elim)
    case seq p q =>
      simp only [Bool.and_eq_true] at hok
      refine wp_seq ?_
      refine wp_mono (ihx p hm hok.1 _ a w ?_ h) ?_
      · intro ch a w hp; exact hpan ch a w hp
      · rintro e a' w' ⟨hq, hs⟩
        cases e with
        | normal =>
          refine wp_mono (ihy q hm hok.2 Q a' w' hpan hq) ?_
          rintro e a'' w'' ⟨hq', hs'⟩
          exact ⟨hq', (hs.mono (by intro t ht; simp [wr, ht])).trans (hs'.mono (by intro t ht; simp [wr, ht]))⟩
        | _ => exact ⟨hq, hs.mono (by intro t ht; simp [wr, ht])⟩
    case join ms p q =>
      simp only [Bool.and_eq_true] at hok
      obtain ⟨⟨hokx, hoky⟩, hws⟩ := hok
      obtain ⟨J, hJ, hx⟩ := h
      refine wp_seq ?_
      refine wp_mono (ihx p hm hokx _ a w ?_ hx) ?_
      · intro ch a w hp; exact hpan ch a w hp
      · rintro e a' w' ⟨hq, hs⟩
        cases e with
        | normal =>
          obtain ⟨J', hj, hk⟩ := allI_of _ _ _ _ _ hq hJ
          have hk' := hk (fun t => a'.tmps.getD t undef) w' hj
          have hsub : ∀ t, t ∉ ms.map (·.1) → t ∉ wr x := fun t ht hm => ht (by
            have := List.all_eq_true.1 hws t hm
            simpa using this)
          rw [Ms.set_of ms a a' hs.1 hs.2.1 (fun t ht => hs.2.2 t (hsub t ht))] at hk'
          refine wp_mono (ihy q hm hoky Q a' w' hpan hk') ?_
          rintro e a'' w'' ⟨hq', hs'⟩
          exact ⟨hq', (hs.mono (by intro t ht; simp [wr, ht])).trans (hs'.mono (by intro t ht; simp [wr, ht]))⟩
        | _ => exact ⟨hq, hs.mono (by intro t ht; simp [wr, ht])⟩
  | cond c x y ihx ihy =>
    intro p hm hok Q a w hpan h
    cases p <;> simp only [okP, den] at hok h <;> try (exact h.elim)
    rename_i p q
    simp only [Bool.and_eq_true] at hok
    split at h
    · rename_i hc
      refine wp_cond_true hc (wp_mono (ihx p hm hok.1 Q a w hpan h) ?_)
      rintro e a' w' ⟨hq, hs⟩
      exact ⟨hq, hs.mono (by intro t ht; simp [wr, ht])⟩
    · rename_i hc
      refine wp_cond_false hc (wp_mono (ihy q hm hok.2 Q a w hpan h) ?_)
      rintro e a' w' ⟨hq, hs⟩
      exact ⟨hq, hs.mono (by intro t ht; simp [wr, ht])⟩
    · exact h.elim
  | block id x ihx =>
    intro p hm hok Q a w hpan h
    cases p <;> simp only [okP, den] at hok h <;> try (exact h.elim)
    rename_i p
    refine wp_block (wp_mono (ihx p hm hok _ a w ?_ h) ?_)
    · intro ch a w hp; exact hpan ch a w hp
    · rintro e a' w' ⟨hq, hs⟩
      cases e with
      | exit id' =>
        simp only [Exit.inBlock] at hq ⊢
        split at hq
        · rename_i he; simp only [he, if_true]; exact ⟨hq, hs⟩
        · rename_i he; simp only [he, if_false]; exact ⟨hq, hs⟩
      | _ => exact ⟨hq, hs⟩
  | loop x ihx =>
    intro p hm hok Q a w hpan h
    cases p <;> simp only [okP, den] at hok h <;> try (exact h.elim)
    rename_i ms p
    simp only [Bool.and_eq_true] at hok
    obtain ⟨hokx, hws⟩ := hok
    obtain ⟨I, ⟨n₀, h0⟩, hr⟩ := h
    have hsub : ∀ t, t ∉ ms.map (·.1) → t ∉ wr x := fun t ht hm => ht (by
      have := List.all_eq_true.1 hws t hm
      simpa using this)
    refine wp_loop_ghost (fun n b w => appI ms.shs (I n) (ms.vals b) w ∧ Same (wr x) a b) n₀ ⟨h0, Same.refl _ _⟩ ?_
    rintro n b w' ⟨hI, hs⟩
    obtain ⟨I', hi, hk⟩ := allI_of _ _ _ _ _ hI (hr n)
    have hk' := hk (fun t => b.tmps.getD t undef) w' hi
    rw [Ms.set_of ms a b hs.1 hs.2.1 (fun t ht => hs.2.2 t (hsub t ht))] at hk'
    refine wp_mono (ihx p hm hokx _ b w' ?_ hk') ?_
    · intro ch a w hp; exact hpan ch a w hp
    · rintro e a' w'' ⟨hq, hs'⟩
      cases e with
      | normal =>
        obtain ⟨m, hlt, hm'⟩ := hq
        exact ⟨m, hlt, hm', hs.trans hs'⟩
      | _ => exact ⟨hq, hs.trans hs'⟩
  | rangeFunc f ps x y ihx ihy => intro p hm hok; simp [okP] at hok
  | exit id => intro p hm hok Q a w hpan h; exact wp_exit ⟨h, Same.refl _ _⟩
  | scope x ihx => intro p hm hok; simp [okP] at hok
  | label l => intro p hm hok; simp [okP] at hok
  | goto l => intro p hm hok; simp [okP] at hok
  | ret => intro p hm hok Q a w hpan h; exact wp_ret ⟨h, Same.refl _ _⟩
  | refuse why => intro p hm hok; simp [okP] at hok

def resF (a : Act) : ResultVar → Sem Value
  | .tmp t => pure (a.tmps.getD t undef)
  | .cell b t => do loadVar t (← asAddr (a.tmps.getD b undef))

theorem results_list {a : Act} {w : World} : ∀ (l : List ResultVar) (K : List Value → Prop), retK P a w l K → ∃ vs, (l.mapM (resF a)).run P w = .ok vs w ∧ K vs
  | [], K, h => ⟨[], by simp, h⟩
  | .tmp t :: l, K, h => by
    obtain ⟨vs, hr, hk⟩ := results_list l _ h
    exact ⟨_, by simp only [List.mapM_cons, resF, Sem.run_bind, Sem.run_pure, Result.andThen_ok, hr], hk⟩
  | .cell b t :: l, K, h => by
    simp only [retK] at h
    split at h
    · rename_i ad hb
      obtain ⟨v, h, hl⟩ := ldT_of h
      obtain ⟨vs, hr, hk⟩ := results_list l _ h
      refine ⟨_, ?_, hk⟩
      simp only [List.mapM_cons, resF, Sem.run_bind, hb, asAddr, Sem.run_pure, Result.andThen_ok, hl w rfl, hr]
    · exact h.elim

theorem retT_of {fn : Func} {a : Act} {w : World} {K : Value → World → Prop} (h : retK P a w fn.results.toList (retT K w)) : ∃ v, (results fn a.tmps).run P w = .ok v w ∧ K v w := by
  obtain ⟨vs, hr, hk⟩ := results_list _ _ h
  refine ⟨if h : vs.toArray.size = 1 then vs.toArray[0] else .tuple vs.toArray, ?_, ?_⟩
  · show ((do let vs ← fn.results.mapM (resF a); pure (if h : vs.size = 1 then vs[0] else .tuple vs)) : Sem Value).run P w = _
    simp only [Array.mapM_eq_mapM_toList, Sem.run_bind, Sem.run_map, hr, Result.andThen_ok, Sem.run_pure]
  · match vs, hk with
    | [], hk => exact hk
    | [v], hk => exact hk
    | v :: u :: vs, hk =>
      have : ¬ (v :: u :: vs).toArray.size = 1 := by simp
      rw [dif_neg this]
      exact hk

/-- **A call**: what 'den' says of the body holds of the call. -/
theorem callsR_of {f : FuncId} {fn : Func} {c : Code} {args : List Value} {w : World} {K : Value → World → Prop} {p : Plan} (hm : P.follows .mixedOrders = true) (hf : P.funcs[f]? = some fn) (hb : fn.body = some c)
    (hok : okP P c p = true) (h : den P ctl c p (endD P fn K) (frame args fn.ntmps) w) : CallsR P f args.toArray w K := by
  refine calls_of_wp hf hb ?_
  have e : ({ tmps := args.toArray ++ Array.replicate (fn.ntmps - args.toArray.size) undef, defers := [] } : Act) = frame args fn.ntmps := by
    simp only [frame]
    congr 1
    apply Array.ext'
    simp
  rw [e]
  refine wp_mono (walks c p hm hok _ _ w ?_ h) ?_
  · intro ch a w hp; exact hp
  · rintro e a' w' ⟨hq, hs⟩
    cases e with
    | normal => obtain ⟨v, hr, hk⟩ := retT_of (P := P) hq; exact ⟨hs.1, v, hr, v, rfl, hk⟩
    | ret => obtain ⟨v, hr, hk⟩ := retT_of (P := P) hq; exact ⟨hs.1, v, hr, v, rfl, hk⟩
    | _ => exact hq.elim

end Go.Den

namespace Go.Den
open Go

def newK (w : World) (o : Obj) (K : Nat → World → Prop) : Prop := K w.heap.size (w.alloc o)
def drK (w : World) (K : World → Prop) : Prop := K w.drew
def bodyOf (fn : Func) : Code := fn.body.getD .skip

end Go.Den

set_option linter.unusedSimpArgs false
namespace Go.Den
open Go

/-! ### Small laws of the normal form -/

@[simp] theorem spl_true (X Y : Prop) : spl true X Y = X := by simp [spl]
@[simp] theorem spl_false (X Y : Prop) : spl false X Y = Y := by simp [spl]
@[simp] theorem spl_decide (p : Prop) [Decidable p] (X Y : Prop) : spl (decide p) X Y = ((p → X) ∧ (¬ p → Y)) := by simp [spl]
@[simp] theorem spl_beq (a b : Int) (X Y : Prop) : spl (a == b) X Y = ((a = b → X) ∧ (a ≠ b → Y)) := by simp [spl]
@[simp] theorem spl_bne (a b : Int) (X Y : Prop) : spl (a != b) X Y = ((a ≠ b → X) ∧ (a = b → Y)) := by simp [spl]
@[simp] theorem spl_not (b : Bool) (X Y : Prop) : spl (!b) X Y = spl b Y X := by cases b <;> simp [spl]
theorem spl_of {b : Bool} {X Y : Prop} (h1 : b = true → X) (h2 : b = false → Y) : spl b X Y := ⟨h1, h2⟩
theorem spl_t {b : Bool} {X Y : Prop} (h : b = true) (hx : X) : spl b X Y := by subst h; simpa using hx
theorem spl_f {b : Bool} {X Y : Prop} (h : b = false) (hy : Y) : spl b X Y := by subst h; simpa using hy
@[simp] theorem nilK_some (a : Addr) (K : Addr → Prop) : nilK (some a) K = K a := rfl
@[simp] theorem newK_eq (w : World) (o : Obj) (K : Nat → World → Prop) : newK w o K = K w.heap.size (w.alloc o) := rfl
@[simp] theorem drK_eq (w : World) (K : World → Prop) : drK w K = K w.drew := rfl
@[simp] theorem addr_add (b o n : Nat) : Addr.add ⟨b, o, none⟩ n = ⟨b, o + n, none⟩ := Addr.add_lit b o n
@[simp] theorem drew_heap (w : World) : w.drew.heap = w.heap := rfl

theorem lt_of_get {w : World} {b : Nat} {o : Obj} (h : w.heap[b]? = some o) : b < w.heap.size := (Array.getElem?_eq_some_iff.1 h).1
theorem alloc_new (w : World) (o : Obj) : (w.alloc o).heap[w.heap.size]? = some o := by
  show (w.heap.push o)[w.heap.size]? = some o
  simp
@[simp] theorem alloc_size (w : World) (o : Obj) : (w.alloc o).heap.size = w.heap.size + 1 := by
  show (w.heap.push o).size = _
  simp
theorem alloc_old {w : World} {b : Nat} (o : Obj) (h : b < w.heap.size) : (w.alloc o).heap[b]? = w.heap[b]? := by
  show (w.heap.push o)[b]? = _
  simp [Array.getElem?_push, Nat.ne_of_lt h]
theorem alloc_get {w : World} {b : Nat} {x : Obj} (o : Obj) (h : w.heap[b]? = some x) : (w.alloc o).heap[b]? = some x := (alloc_old o (lt_of_get h)).trans h
theorem upd_ne {w : World} {b b' : Nat} (x : Obj) (h : b ≠ b') : (w.upd b x).heap[b']? = w.heap[b']? := by simp [upd_get, h]
theorem cell_get {w : World} {b : Nat} {cs : Array Value} {T : TypeId} {fr : Nat × Nat} (h : w.heap[b]? = some (.cells cs T fr)) (o : Nat) : w.cell? ⟨b, o, none⟩ = cs[o]? := by simp [World.cell?, h]

theorem stK_of {w : World} {b off : Nat} {cs : Array Value} {T : TypeId} {vs : List Value} {K : World → Prop} (h : w.heap[b]? = some (.cells cs T (0, 0))) (hl : off + vs.length ≤ cs.size)
    (hK : K (w.upd b (.cells (splice cs off vs) T (0, 0)))) : stK ⟨b, off, none⟩ vs w K := ⟨cs, T, (0, 0), h, rfl, hl, .inl (Nat.zero_le _), hK⟩

@[simp] theorem splice_nil (cs : Array Value) (off : Nat) : splice cs off [] = cs := rfl
@[simp] theorem splice_cons (cs : Array Value) (off : Nat) (v : Value) (vs : List Value) : splice cs off (v :: vs) = splice (cs.setIfInBounds off v) (off + 1) vs := rfl

theorem splice_get (vs : List Value) : ∀ (cs : Array Value) (off i : Nat), (splice cs off vs)[i]? = if off ≤ i ∧ i < off + vs.length ∧ i < cs.size then vs[i - off]? else cs[i]? := by
  induction vs with
  | nil => intro cs off i; simp; intros; omega
  | cons v vs ih =>
    intro cs off i
    simp only [splice, ih, Array.size_setIfInBounds, List.length_cons]
    by_cases h : off = i
    · subst h
      by_cases hs : off < cs.size
      · simp [hs, show ¬ off + 1 ≤ off by omega]
      · simp [hs]
    · rw [Array.getElem?_setIfInBounds_ne h]
      by_cases h1 : off + 1 ≤ i ∧ i < off + 1 + vs.length ∧ i < cs.size
      · rw [if_pos h1, if_pos (by omega)]
        obtain ⟨k, rfl⟩ : ∃ k, i = off + 1 + k := ⟨i - (off + 1), by omega⟩
        simp [show off + 1 + k - off = k + 1 by omega, show off + 1 + k - (off + 1) = k by omega]
      · rw [if_neg h1, if_neg (by omega)]

/-! ### What a call keeps: all blocks that were there but 'S' -/

structure Mod (S : List Nat) (w w' : World) : Prop where
  os : w'.os = w.os
  tape : w'.tape = w.tape
  output : w'.output = w.output
  size : w.heap.size ≤ w'.heap.size
  keep : ∀ b, b < w.heap.size → b ∉ S → w'.heap[b]? = w.heap[b]?

theorem Mod.refl (S : List Nat) (w : World) : Mod S w w := ⟨rfl, rfl, rfl, Nat.le_refl _, fun _ _ _ => rfl⟩
theorem Mod.trans {S S' : List Nat} {w w1 w2 : World} (h : Mod S w w1) (h' : Mod S' w1 w2) (hs : ∀ b ∈ S', b < w.heap.size → b ∈ S) : Mod S w w2 :=
  ⟨h'.os.trans h.os, h'.tape.trans h.tape, h'.output.trans h.output, Nat.le_trans h.size h'.size, fun b hb hn => (h'.keep b (Nat.lt_of_lt_of_le hb h.size) fun hm => hn (hs b hm hb)).trans (h.keep b hb hn)⟩
theorem Mod.trans' {S : List Nat} {w w1 w2 : World} (h : Mod S w w1) (h' : Mod S w1 w2) : Mod S w w2 := h.trans h' fun _ hb _ => hb
theorem Mod.mono {S S' : List Nat} {w w' : World} (h : Mod S w w') (hs : ∀ b ∈ S, b ∈ S') : Mod S' w w' := ⟨h.os, h.tape, h.output, h.size, fun b hb hn => h.keep b hb fun hm => hn (hs b hm)⟩
theorem Mod.alloc {S : List Nat} {w w' : World} (h : Mod S w w') (o : Obj) : Mod S w (w'.alloc o) :=
  ⟨h.os, h.tape, h.output, by rw [alloc_size]; exact Nat.le_succ_of_le h.size, fun b hb hn => (alloc_old o (Nat.lt_of_lt_of_le hb h.size)).trans (h.keep b hb hn)⟩
theorem Mod.drew {S : List Nat} {w w' : World} (h : Mod S w w') : Mod S w w'.drew := ⟨h.os, h.tape, h.output, h.size, h.keep⟩
theorem Mod.upd {S : List Nat} {w w' : World} (h : Mod S w w') {b : Nat} (hb : b ∈ S ∨ w.heap.size ≤ b) (o : Obj) : Mod S w (w'.upd b o) :=
  ⟨h.os, h.tape, h.output, by rw [upd_size]; exact h.size, fun c hc hn => by
    have : b ≠ c := by rintro rfl; rcases hb with hb | hb; exact hn hb; omega
    rw [upd_ne o this]; exact h.keep c hc hn⟩
theorem Mod.get {S : List Nat} {w w' : World} (h : Mod S w w') {b : Nat} {o : Obj} (hb : w.heap[b]? = some o) (hn : b ∉ S) : w'.heap[b]? = some o := (h.keep b (lt_of_get hb) hn).trans hb
theorem Mod.cell {w w' : World} (h : Mod [] w w') {a : Addr} (hb : a.block < w.heap.size) : w'.cell? a = w.cell? a := same_cell (h.keep _ hb (by simp))
theorem Mod.below {w w' : World} (h : Mod [] w w') : Go.RowKit.Below w.heap.size w w' := ⟨h.os, h.tape, h.output, h.size, fun b hb => h.keep b hb (by simp)⟩

/-- The footprint of what is owned: 'F' turned to 'G': of old blocks only those of 'F'. -/
def Own (w : World) (F G : List Nat) : Prop := ∀ b ∈ G, b ∈ F ∨ w.heap.size ≤ b
theorem Own.refl (w : World) (F : List Nat) : Own w F F := fun _ h => .inl h
theorem Own.trans {w w1 : World} {F G H : List Nat} (h : Own w F G) (hs : w.heap.size ≤ w1.heap.size) (h' : Own w1 G H) : Own w F H := fun b hb => by
  rcases h' b hb with h1 | h1
  · exact h b h1
  · exact .inr (Nat.le_trans hs h1)

/-! ### Rows of cells behind slices -/

/-- The slice value (a, l, c) of elements of 'sz' cells reads as the cells 'vs'; its row lies in the blocks 'F' (none or one). -/
def SlB (w : World) (a : Option Addr) (l c sz : Nat) (vs : List Value) (F : List Nat) : Prop :=
  (a = none ∧ l = 0 ∧ c = 0 ∧ vs = [] ∧ F = []) ∨
  ∃ (b o : Nat) (arr : Array Value) (T : TypeId), a = some ⟨b, o, none⟩ ∧ F = [b] ∧ w.heap[b]? = some (.cells arr T (0, 0)) ∧ l ≤ c ∧ o + c * sz ≤ arr.size ∧ vs.length = l * sz ∧ ∀ i, i < vs.length → arr[o + i]? = vs[i]?

theorem SlB.nil (w : World) (sz : Nat) : SlB w none 0 0 sz [] [] := .inl ⟨rfl, rfl, rfl, rfl, rfl⟩
theorem SlB.length {w : World} {a : Option Addr} {l c sz : Nat} {vs : List Value} {F : List Nat} (h : SlB w a l c sz vs F) : vs.length = l * sz := by
  rcases h with ⟨_, rfl, _, rfl, _⟩ | ⟨_, _, _, _, _, _, _, _, _, h, _⟩
  · simp
  · exact h
theorem SlB.le {w : World} {a : Option Addr} {l c sz : Nat} {vs : List Value} {F : List Nat} (h : SlB w a l c sz vs F) : l ≤ c := by
  rcases h with ⟨_, rfl, rfl, _, _⟩ | ⟨_, _, _, _, _, _, _, h, _⟩
  · exact Nat.le_refl _
  · exact h
theorem SlB.keep {w w' : World} {a : Option Addr} {l c sz : Nat} {vs : List Value} {F : List Nat} (h : SlB w a l c sz vs F) (hk : ∀ b ∈ F, w'.heap[b]? = w.heap[b]?) : SlB w' a l c sz vs F := by
  rcases h with h | ⟨b, o, arr, T, ha, rfl, hb, h⟩
  · exact .inl h
  · exact .inr ⟨b, o, arr, T, ha, rfl, (hk b (by simp)).trans hb, h⟩
theorem SlB.lt {w : World} {a : Option Addr} {l c sz : Nat} {vs : List Value} {F : List Nat} (h : SlB w a l c sz vs F) : ∀ b ∈ F, b < w.heap.size := by
  rcases h with ⟨_, _, _, _, rfl⟩ | ⟨b, o, arr, T, ha, rfl, hb, h⟩
  · simp
  · intro c hc; simp at hc; subst hc; exact lt_of_get hb
theorem SlB.mod {S : List Nat} {w w' : World} {a : Option Addr} {l c sz : Nat} {vs : List Value} {F : List Nat} (h : SlB w a l c sz vs F) (hm : Mod S w w') (hd : ∀ b ∈ F, b ∉ S) : SlB w' a l c sz vs F :=
  h.keep fun b hb => hm.keep b (h.lt b hb) (hd b hb)
theorem SlB.isNone {w : World} {a : Option Addr} {l c sz : Nat} {vs : List Value} {F : List Nat} (h : SlB w a l c sz vs F) (hl : 0 < l) : ∃ b o, a = some ⟨b, o, none⟩ ∧ F = [b] := by
  rcases h with ⟨_, rfl, _⟩ | ⟨b, o, _, _, ha, hF, _⟩
  · omega
  · exact ⟨b, o, ha, hF⟩

/-- A cell of the row. -/
theorem SlB.cell {w : World} {a : Addr} {l c sz : Nat} {vs : List Value} {F : List Nat} (h : SlB w (some a) l c sz vs F) {i : Nat} (hi : i < vs.length) : w.cell? (Addr.add a i) = vs[i]? := by
  rcases h with ⟨h, _⟩ | ⟨b, o, arr, T, ha, _, hb, _, _, _, hv⟩
  · cases h
  · cases ha
    rw [addr_add, cell_get hb]
    exact hv i hi

theorem SlB.new (w : World) (vs : List Value) (T : TypeId) {l sz : Nat} (h : vs.length = l * sz) : SlB (w.alloc (.cells vs.toArray T)) (some ⟨w.heap.size, 0, none⟩) l l sz vs [w.heap.size] :=
  .inr ⟨w.heap.size, 0, vs.toArray, T, rfl, rfl, alloc_new w _, Nat.le_refl _, by simp [h], h, fun i _ => by simp⟩
theorem SlB.alloc {w : World} {a : Option Addr} {l c sz : Nat} {vs : List Value} {F : List Nat} (h : SlB w a l c sz vs F) (o : Obj) : SlB (w.alloc o) a l c sz vs F := h.keep fun b hb => alloc_old o (h.lt b hb)

/-- What a slice type's number says. -/
def SlT (P : Program) (t e sz bys : Nat) (z : Value) : Prop := P.underlying t = some (.slice e) ∧ ∃ i, P.info? e = some i ∧ i.zero = some z ∧ i.size = sz ∧ i.bytes = bys ∧ z.cells.size = sz

/-- **append**: the row's cells, and the new ones behind them: in the old row's room, or in a new row. -/
theorem append_core {P : Program} {t t2 e sz bys : Nat} {z : Value} {ut : TypeDesc} (hT : SlT P t e sz bys z) (_hsz : 0 < sz) (h2 : P.underlying t2 = some ut) (hut : (∃ e2, ut = .slice e2) ∨ ut = .string) {w : World} {a : Option Addr} {l c : Nat} {vs : List Value} {F : List Nat} (hs : SlB w a l c sz vs F)
    {x : Value} {l2 : Nat} {us : List Value} (hus : us.length = l2 * sz) (hlen0 : ∀ w' : World, (Builtin.lenOf x).run P w' = .ok l2 w') (src0 : (Builtin.firstCells sz l2 x).run P w = .ok us.toArray w) (src1 : (Builtin.firstCells sz l2 x).run P w.drew = .ok us.toArray w.drew)
    (hc : ∀ u ∈ us, isCell u = true) (hb : (l + l2) * bys ≤ 140737488355328) (hb2 : l + l2 ≤ 4611686018427387904) (ty : TypeId) :
    ∃ a' c' w' F', (Builtin.append_ #[t, t2] ty #[.slice a l c, x]).run P w = .ok (.slice a' (l + l2) c') w' ∧ SlB w' a' (l + l2) c' sz (vs ++ us) F' ∧ Mod F w w' ∧ Own w F F' := by
  obtain ⟨hu, i, hi, hz, hsi, hby, hzs⟩ := hT
  have hvs := hs.length
  have own : ∀ w' : World, (∀ b ∈ F, w'.heap[b]? = w.heap[b]?) → (Builtin.firstCells sz l (.slice a l c)).run P w' = .ok vs.toArray w' := fun w' hk => by
    have hs' := hs.keep hk
    cases ha : a with
    | none =>
      subst ha
      rcases hs with ⟨_, rfl, rfl, rfl, _⟩ | ⟨_, _, _, _, h, _⟩
      · simp [Builtin.firstCells]
      · cases h
    | some ad =>
      subst ha
      exact run_firstCells_some (P := P) w' sz l ad l c vs hvs (fun j v hj => by rw [hs'.cell (List.getElem?_eq_some_iff.1 hj).1, hj])
  have szr : ∀ w : World, (sizeOf e).run P w = .ok sz w := fun w => by simp [sizeOf, typeInfo, hi, hsi]
  by_cases hr : l + l2 ≤ c
  · -- there is room
    rcases hs with ⟨rfl, rfl, rfl, rfl, rfl⟩ | ⟨b, o, arr, T, rfl, rfl, hbk, hlc, hcap, hlen, hget⟩
    · have h0 : l2 = 0 := by omega
      subst h0
      have hus0 : us = [] := List.eq_nil_of_length_eq_zero (by simpa using hus)
      subst hus0
      refine ⟨none, 0, w, [], ?_, SlB.nil w sz, Mod.refl _ _, fun _ h => .inl h⟩
      rcases hut with ⟨e2, rfl⟩ | rfl <;> simp [Builtin.append_, run_underlying hu, run_underlying h2, sizeOf, typeInfo, hi, hsi, hlen0, src0]
    · refine ⟨some ⟨b, o, none⟩, c, w.upd b (.cells (splice arr (o + l * sz) us) T (0, 0)), [b], ?_, ?_, ?_, fun _ h => .inl h⟩
      · have hst := run_storeCells_upd (P := P) (b := b) (off := o + l * sz) (T := T) (fr := (0, 0)) us 0 arr w hbk (by
          rw [hus, Nat.add_zero, Nat.add_assoc, ← Nat.add_mul]
          exact Nat.le_trans (Nat.add_le_add_left (Nat.mul_le_mul_right _ hr) _) hcap) (.inl (Nat.zero_le _)) hc
        simp only [Nat.add_zero] at hst
        rcases hut with ⟨e2, rfl⟩ | rfl <;> simp [Builtin.append_, run_underlying hu, run_underlying h2, sizeOf, typeInfo, hi, hsi, hlen0, hr, src0, Addr.add_lit, hst]
      · refine .inr ⟨b, o, _, T, rfl, rfl, upd_same hbk, hr, by rw [splice_size]; exact hcap, by rw [List.length_append, hlen, hus, Nat.add_mul], ?_⟩
        intro j hj
        rw [List.length_append] at hj
        rw [splice_get]
        by_cases hjl : j < vs.length
        · rw [if_neg (by omega), List.getElem?_append_left hjl]
          exact hget j hjl
        · have : (l + l2) * sz ≤ c * sz := Nat.mul_le_mul_right _ hr
          rw [Nat.add_mul] at this
          rw [if_pos ⟨by omega, by omega, by omega⟩, List.getElem?_append_right (by omega)]
          congr 1
          omega
      · exact (Mod.refl _ _).upd (.inl (by simp)) _
  · -- a new row
    have h63 : ¬ (9223372036854775807 < ((l : Int) + (l2 : Int))) := by omega
    have hfit := growslice_fits (old := c) (need := l + l2) (bytes := bys) (by omega) hb
    have h48 : ¬ (281474976710656 < Builtin.nextslicecap (l + l2) c * i.bytes) := by rw [hby]; omega
    refine ⟨some ⟨w.heap.size, 0, none⟩, grownCap w (l + l2) c e, w.drew.alloc (.cells (vs.toArray ++ us.toArray ++ Builtin.zeroCells z.cells (grownCap w (l + l2) c e - (l + l2))) e), [w.heap.size], ?_, ?_, (Mod.refl _ _).drew.alloc _, fun b hb => by simp at hb; right; omega⟩
    · have h2' := own w.drew (fun _ _ => rfl)
      rcases hut with ⟨e2, rfl⟩ | rfl
      · simp [Builtin.append_, run_underlying hu, run_underlying h2, sizeOf, typeInfo, zeroValue, hi, hz, hsi, hlen0, hr, h63, h48, Question.forced, src1, h2', newRow, grownCap]
        congr 2
        apply Array.ext'
        simp
      · simp [Builtin.append_, run_underlying hu, run_underlying h2, sizeOf, typeInfo, zeroValue, hi, hz, hsi, hlen0, hr, h63, h48, Question.forced, src1, h2', newRow, grownCap]
        congr 2
        apply Array.ext'
        simp
    · have hge := grownCap_ge w (l + l2) c e
      refine .inr ⟨w.heap.size, 0, _, e, rfl, rfl, alloc_new w.drew _, hge, ?_, by rw [List.length_append, hvs, hus, Nat.add_mul], ?_⟩
      · simp only [Array.size_append, List.size_toArray, size_zeroCells, hzs, hvs, hus, ← Nat.add_mul]
        rw [Nat.zero_add]
        exact Nat.mul_le_mul_right _ (by omega)
      · intro j hj
        rw [Nat.zero_add, Array.getElem?_append_left (by simpa using hj)]
        simp

/-- **append** of a row. -/
theorem append_run {P : Program} {t e sz bys : Nat} {z : Value} (hT : SlT P t e sz bys z) (hsz : 0 < sz) {w : World} {a : Option Addr} {l c : Nat} {vs : List Value} {F : List Nat} (hs : SlB w a l c sz vs F)
    {a2 : Option Addr} {l2 c2 : Nat} {us : List Value} {G : List Nat} (hx : SlB w a2 l2 c2 sz us G) (hc : ∀ u ∈ us, isCell u = true) (hb : (l + l2) * bys ≤ 140737488355328) (hb2 : l + l2 ≤ 4611686018427387904) (ty : TypeId) :
    ∃ a' c' w' F', (Builtin.append_ #[t, t] ty #[.slice a l c, .slice a2 l2 c2]).run P w = .ok (.slice a' (l + l2) c') w' ∧ SlB w' a' (l + l2) c' sz (vs ++ us) F' ∧ Mod F w w' ∧ Own w F F' := by
  have hus := hx.length
  have src : ∀ w' : World, (∀ b ∈ G, w'.heap[b]? = w.heap[b]?) → (Builtin.firstCells sz l2 (.slice a2 l2 c2)).run P w' = .ok us.toArray w' := fun w' hk => by
    have hx' := hx.keep hk
    cases ha2 : a2 with
    | none =>
      subst ha2
      rcases hx with ⟨_, rfl, rfl, rfl, _⟩ | ⟨_, _, _, _, h, _⟩
      · simp [Builtin.firstCells]
      · cases h
    | some ad =>
      subst ha2
      exact run_firstCells_some (P := P) w' sz l2 ad l2 c2 us hus (fun j v hj => by rw [hx'.cell (List.getElem?_eq_some_iff.1 hj).1, hj])
  exact append_core hT hsz hT.1 (.inl ⟨e, rfl⟩) hs hus (fun w' => by simp [Builtin.lenOf]) (src w fun _ _ => rfl) (src w.drew fun _ _ => rfl) hc hb hb2 ty

/-- **copy** between rows of one element type. -/
theorem copy_run {P : Program} {t t2 e sz bys : Nat} {z : Value} (hT : SlT P t e sz bys z) {w : World} {a : Option Addr} {l c : Nat} {vs : List Value} {F : List Nat} (hs : SlB w a l c sz vs F)
    {a2 : Option Addr} {l2 c2 : Nat} {us : List Value} {G : List Nat} (hx : SlB w a2 l2 c2 sz us G) (hc : ∀ u ∈ us, isCell u = true) (ty : TypeId) :
    ∃ w', (Builtin.copy_ #[t, t2] ty #[.slice a l c, .slice a2 l2 c2]).run P w = .ok (.int .i64 ((Nat.min l2 l : Nat) : Int)) w' ∧
      SlB w' a l c sz (us.take (Nat.min l2 l * sz) ++ vs.drop (Nat.min l2 l * sz)) F ∧ Mod F w w' := by
  obtain ⟨hu, i, hi, hz, hsi, hby, hzs⟩ := hT
  have hus := hx.length
  have hvs := hs.length
  obtain ⟨n, hn⟩ : ∃ n, n = Nat.min l2 l := ⟨_, rfl⟩
  have hn2 : n ≤ l2 := by rw [hn]; exact Nat.min_le_left _ _
  have hn1 : n ≤ l := by rw [hn]; exact Nat.min_le_right _ _
  rw [← hn]
  have hsrc : (Builtin.firstCells sz n (.slice a2 l2 c2)).run P w = .ok (us.take (n * sz)).toArray w := by
    cases ha2 : a2 with
    | none =>
      subst ha2
      rcases hx with ⟨_, rfl, rfl, rfl, _⟩ | ⟨_, _, _, _, h, _⟩
      · simp [Builtin.firstCells]
      · cases h
    | some ad =>
      subst ha2
      have hl : (us.take (n * sz)).length = n * sz := by
        rw [List.length_take, hus]
        exact Nat.min_eq_left (Nat.mul_le_mul_right _ hn2)
      exact run_firstCells_some (P := P) w sz n ad l2 c2 _ hl (fun j v hj => by
        have hj1 := (List.getElem?_eq_some_iff.1 hj).1
        rw [List.length_take] at hj1
        rw [List.getElem?_take, if_pos (by omega)] at hj
        rw [hx.cell (by omega), hj])
  rcases hs with ⟨rfl, rfl, rfl, rfl, rfl⟩ | ⟨b, o, arr, T, rfl, rfl, hbk, hlc, hcap, hlen, hget⟩
  · have h0 : n = 0 := by omega
    subst h0
    refine ⟨w, ?_, by simpa using SlB.nil w sz, Mod.refl _ _⟩
    simp at hsrc
    simp [Builtin.copy_, run_underlying hu, sizeOf, typeInfo, hi, hsi, Builtin.lenOf, hsrc, goInt]
  · have hnl : (us.take (n * sz)).length = n * sz := by
      rw [List.length_take, hus]
      exact Nat.min_eq_left (Nat.mul_le_mul_right _ hn2)
    have hle : n * sz ≤ l * sz := Nat.mul_le_mul_right _ hn1
    have hlc' : l * sz ≤ c * sz := Nat.mul_le_mul_right _ hlc
    refine ⟨w.upd b (.cells (splice arr o (us.take (n * sz))) T (0, 0)), ?_, ?_, (Mod.refl _ _).upd (.inl (by simp)) _⟩
    · have hst := run_storeCells_upd (P := P) (b := b) (off := o) (T := T) (fr := (0, 0)) (us.take (n * sz)) 0 arr w hbk (by omega) (.inl (Nat.zero_le _)) (fun v hv => hc v (List.mem_of_mem_take hv))
      simp only [Nat.add_zero] at hst
      have hn' : l2.min l = n := hn.symm
      simp [Builtin.copy_, run_underlying hu, sizeOf, typeInfo, hi, hsi, Builtin.lenOf, hn', hsrc, hst, goInt]
    · refine .inr ⟨b, o, _, T, rfl, rfl, upd_same hbk, hlc, by rw [splice_size]; exact hcap, by rw [List.length_append, hnl, List.length_drop, hlen]; omega, ?_⟩
      intro j hj
      rw [List.length_append, hnl, List.length_drop, hlen] at hj
      rw [splice_get, hnl]
      by_cases hjl : j < n * sz
      · rw [if_pos ⟨by omega, by omega, by omega⟩, List.getElem?_append_left (by omega)]
        congr 1
        omega
      · rw [if_neg (by omega), List.getElem?_append_right (by omega), List.getElem?_drop, hnl, hget j (by omega)]
        congr 1
        omega

/-- **copy**, the world written out. -/
theorem copy_at {P : Program} {t t2 e sz bys : Nat} {z : Value} (hT : SlT P t e sz bys z) {w : World} {b o : Nat} {arr : Array Value} {T : TypeId} (hbk : w.heap[b]? = some (.cells arr T (0, 0))) {l c : Nat} (hcap : o + l * sz ≤ arr.size)
    {a2 : Option Addr} {l2 c2 : Nat} {us : List Value} {G : List Nat} (hx : SlB w a2 l2 c2 sz us G) (hc : ∀ u ∈ us, isCell u = true) (ty : TypeId) :
    (Builtin.copy_ #[t, t2] ty #[.slice (some ⟨b, o, none⟩) l c, .slice a2 l2 c2]).run P w = .ok (.int .i64 ((Nat.min l2 l : Nat) : Int)) (w.upd b (.cells (splice arr o (us.take (Nat.min l2 l * sz))) T (0, 0))) := by
  obtain ⟨hu, i, hi, hz, hsi, hby, hzs⟩ := hT
  have hus := hx.length
  obtain ⟨n, hn⟩ : ∃ n, n = Nat.min l2 l := ⟨_, rfl⟩
  have hn2 : n ≤ l2 := by rw [hn]; exact Nat.min_le_left _ _
  have hn1 : n ≤ l := by rw [hn]; exact Nat.min_le_right _ _
  rw [← hn]
  have hnl : (us.take (n * sz)).length = n * sz := by
    rw [List.length_take, hus]
    exact Nat.min_eq_left (Nat.mul_le_mul_right _ hn2)
  have hle : n * sz ≤ l * sz := Nat.mul_le_mul_right _ hn1
  have hsrc : (Builtin.firstCells sz n (.slice a2 l2 c2)).run P w = .ok (us.take (n * sz)).toArray w := by
    cases ha2 : a2 with
    | none =>
      subst ha2
      rcases hx with ⟨_, rfl, rfl, rfl, _⟩ | ⟨_, _, _, _, h, _⟩
      · simp [Builtin.firstCells]
      · cases h
    | some ad =>
      subst ha2
      exact run_firstCells_some (P := P) w sz n ad l2 c2 _ hnl (fun j v hj => by
        have hj1 := (List.getElem?_eq_some_iff.1 hj).1
        rw [List.length_take] at hj1
        rw [List.getElem?_take, if_pos (by omega)] at hj
        rw [hx.cell (by omega), hj])
  have hst := run_storeCells_upd (P := P) (b := b) (off := o) (T := T) (fr := (0, 0)) (us.take (n * sz)) 0 arr w hbk (by omega) (.inl (Nat.zero_le _)) (fun v hv => hc v (List.mem_of_mem_take hv))
  simp only [Nat.add_zero] at hst
  have hn' : l2.min l = n := hn.symm
  simp [Builtin.copy_, run_underlying hu, sizeOf, typeInfo, hi, hsi, Builtin.lenOf, hn', hsrc, hst, goInt]

/-- A row, some of whose cells were written. -/
theorem SlB.splice {w : World} {b o : Nat} {arr : Array Value} {T : TypeId} {l c sz : Nat} {vs us : List Value} (h : SlB w (some ⟨b, o, none⟩) l c sz vs [b]) (hb : w.heap[b]? = some (.cells arr T (0, 0))) {j : Nat} (hj : j + us.length ≤ vs.length) :
    SlB (w.upd b (.cells (Go.Den.splice arr (o + j) us) T (0, 0))) (some ⟨b, o, none⟩) l c sz (vs.take j ++ us ++ vs.drop (j + us.length)) [b] := by
  rcases h with ⟨h, _⟩ | ⟨b', o', arr', T', ha, _, hb', hlc, hcap, hlen, hget⟩
  · cases h
  · cases ha
    rw [hb] at hb'
    cases hb'
    have hcl : l * sz ≤ c * sz := Nat.mul_le_mul_right _ hlc
    refine .inr ⟨b, o, _, T, rfl, rfl, upd_same hb, hlc, by rw [splice_size]; exact hcap, by simp; omega, ?_⟩
    intro i hi
    have hi' : i < vs.length := by simp at hi; omega
    rw [splice_get]
    by_cases h1 : i < j
    · rw [if_neg (by omega), List.append_assoc, List.getElem?_append_left (by simp; omega), List.getElem?_take, if_pos h1]
      exact hget i hi'
    · by_cases h2 : i < j + us.length
      · rw [if_pos ⟨by omega, by omega, by omega⟩, List.append_assoc, List.getElem?_append_right (by simp; omega), List.getElem?_append_left (by simp; omega)]
        congr 1
        simp
        omega
      · rw [if_neg (by omega), List.getElem?_append_right (by simp; omega), List.getElem?_drop, hget i hi']
        congr 1
        simp
        omega

theorem SlB.set {w : World} {b o : Nat} {arr : Array Value} {T : TypeId} {l c sz : Nat} {vs : List Value} (h : SlB w (some ⟨b, o, none⟩) l c sz vs [b]) (hb : w.heap[b]? = some (.cells arr T (0, 0))) {j : Nat} (hj : j < vs.length) (v : Value) :
    SlB (w.upd b (.cells (arr.setIfInBounds (o + j) v) T (0, 0))) (some ⟨b, o, none⟩) l c sz (vs.set j v) [b] := by
  have := h.splice hb (j := j) (us := [v]) (by simp; omega)
  simp only [splice_cons, splice_nil, List.length_singleton] at this
  rw [List.append_assoc, List.singleton_append] at this
  rwa [List.set_eq_take_append_cons_drop, if_pos hj]

/-- The block of a row that is there. -/
theorem SlB.block {w : World} {b o l c sz : Nat} {vs : List Value} {F : List Nat} (h : SlB w (some ⟨b, o, none⟩) l c sz vs F) : ∃ arr T, w.heap[b]? = some (.cells arr T (0, 0)) ∧ o + c * sz ≤ arr.size ∧ F = [b] := by
  rcases h with ⟨h, _⟩ | ⟨b', o', arr', T', ha, hF, hb', hlc, hcap, hlen, hget⟩
  · cases h
  · cases ha; exact ⟨arr', T', hb', hcap, hF⟩

/-- The cells of a new row. -/
def zrow (z : Value) (n : Nat) : List Value := (List.range n).map fun i => z.cells.toList.getD (i % z.cells.toList.length) default

theorem zrow_one {z : Value} (h : z.cells = #[z]) (n : Nat) : zrow z n = List.replicate n z := by
  unfold zrow
  apply List.ext_getElem?
  intro i
  simp only [List.getElem?_map, List.getElem?_range, List.getElem?_replicate, h]
  by_cases hi : i < n
  · simp [hi, Nat.mod_one]
  · simp [hi]

theorem w64 {n : Int} (h0 : -9223372036854775808 ≤ n) (h : n ≤ 9223372036854775807) : IntKind.i64.wrap n = n := by rw [IntKind.wrap_i64]; omega
theorem wu64 {n : Int} (h0 : 0 ≤ n) (h : n < 18446744073709551616) : IntKind.u64.wrap n = n := by rw [IntKind.wrap_u64]; omega

/-- **make([]T, n)**. -/
theorem makeSlice_run {P : Program} {t e sz bys : Nat} {z : Value} (hT : SlT P t e sz bys z) (w : World) {k k' : IntKind} {l c : Nat} (hlc : l ≤ c) (hb : c * bys ≤ 281474976710656) (hc : c ≤ 4611686018427387904) :
    ∃ w', (Instr.makeSlice t (.int k (l : Int)) (.int k' (c : Int))).run P w = .ok (.slice (some ⟨w.heap.size, 0, none⟩) l c) w' ∧ SlB w' (some ⟨w.heap.size, 0, none⟩) l c sz (zrow z (l * sz)) [w.heap.size] ∧ Mod [] w w' := by
  obtain ⟨hu, i, hi, hz, hsi, hby, hzs⟩ := hT
  have e2 : madeCells z.cells (c * sz) = (zrow z (c * sz)).toArray := by
    apply Array.ext'
    simp only [madeCells, Array.toList_map, Array.toList_range, zrow]
    apply List.map_congr_left
    intro j _
    simp [Array.getElem!_eq_getD]
  refine ⟨w.alloc (.cells (zrow z (c * sz)).toArray e), ?_, ?_, (Mod.refl _ _).alloc _⟩
  · have h4 : (i.bytes : Int) * (c : Int) ≤ 281474976710656 := by
      rw [hby]
      have : bys * c ≤ 281474976710656 := by rw [Nat.mul_comm]; exact hb
      have h5 : ((bys * c : Nat) : Int) ≤ 281474976710656 := by omega
      rwa [Int.natCast_mul] at h5
    have := run_make (P := P) w t e i z hu hi hz k k' (l : Int) (c : Int) (by omega) (by omega) h4 (by omega)
    rw [this, hsi]
    simp only [Int.toNat_natCast, e2]
  · refine .inr ⟨w.heap.size, 0, _, e, rfl, rfl, alloc_new w _, hlc, by simp [zrow], by simp [zrow], ?_⟩
    intro j hj
    simp only [zrow, List.length_map, List.length_range] at hj
    have hlt : j < c * sz := Nat.lt_of_lt_of_le hj (Nat.mul_le_mul_right _ hlc)
    simp [zrow, hj, hlt]

/-- A slice expression on a row. -/
theorem slK_of {w : World} {a : Option Addr} {l c sz : Nat} {vs : List Value} {F : List Nat} (hs : SlB w a l c sz vs F) {lo hi mx : Option Int} {L H M : Nat} {K : Option Addr → Nat → Nat → Prop}
    (hlo : lo = some (L : Int) ∨ (lo = none ∧ L = 0)) (hhi : hi = some (H : Int) ∨ (hi = none ∧ H = l)) (hmx : (mx = some (M : Int) ∧ hi = some (H : Int)) ∨ (mx = none ∧ M = c)) (h1 : L ≤ H) (h2 : H ≤ l) (h3 : H ≤ M) (h4 : M ≤ c)
    (hK : ∀ a', a' = slA a M L sz → SlB w a' (H - L) (M - L) sz ((vs.drop (L * sz)).take ((H - L) * sz)) F → K a' (H - L) (M - L)) : slK a l c sz lo hi mx K := by
  have eL : sM lo 0 = L := by rcases hlo with rfl | ⟨rfl, rfl⟩ <;> simp [sM]
  have eH : sM hi l = H := by rcases hhi with rfl | ⟨rfl, rfl⟩ <;> simp [sM]
  have eM : sM mx c = M := by rcases hmx with ⟨rfl, _⟩ | ⟨rfl, rfl⟩ <;> simp [sM]
  refine ⟨?_, ?_, ?_, ?_, ?_⟩
  · rcases hmx with ⟨rfl, _⟩ | ⟨rfl, _⟩ <;> simp [sOK]; omega
  · rcases hmx with ⟨rfl, rfl⟩ | ⟨rfl, _⟩ <;> simp
  · rw [eM]; rcases hhi with rfl | ⟨rfl, rfl⟩ <;> simp [sOK]; omega
  · rw [eH]; rcases hlo with rfl | ⟨rfl, rfl⟩ <;> simp [sOK]; omega
  · rw [eL, eH, eM]
    refine hK _ rfl ?_
    rcases hs with ⟨rfl, rfl, rfl, rfl, rfl⟩ | ⟨b, o, arr, T, rfl, rfl, hbk, hlc, hcap, hlen, hget⟩
    · have hL : L = 0 := by omega
      have hH : H = 0 := by omega
      have hM : M = 0 := by omega
      subst hL; subst hH; subst hM
      simp [slA]
      exact SlB.nil w sz
    · have m1 : L * sz ≤ M * sz := Nat.mul_le_mul_right _ (by omega)
      have m2 : M * sz ≤ c * sz := Nat.mul_le_mul_right _ h4
      have m3 : H * sz ≤ l * sz := Nat.mul_le_mul_right _ h2
      have m4 : L * sz ≤ H * sz := Nat.mul_le_mul_right _ h1
      have hln : ((vs.drop (L * sz)).take ((H - L) * sz)).length = (H - L) * sz := by
        rw [List.length_take, List.length_drop, hlen, Nat.sub_mul]; omega
      unfold slA
      by_cases he : M = L
      · rw [if_pos he]
        refine .inr ⟨b, o, arr, T, rfl, rfl, hbk, by omega, ?_, hln, ?_⟩
        · have : M - L = 0 := by omega
          rw [this]; omega
        · intro j hj
          rw [hln] at hj
          have : H - L = 0 := by omega
          rw [this] at hj
          omega
      · rw [if_neg he]
        refine .inr ⟨b, o + L * sz, arr, T, by simp, rfl, hbk, by omega, by rw [Nat.sub_mul]; omega, hln, ?_⟩
        intro j hj
        rw [hln, Nat.sub_mul] at hj
        rw [List.getElem?_take, if_pos (by rw [Nat.sub_mul]; exact hj), List.getElem?_drop, Nat.add_assoc, hget _ (by omega)]

theorem nat_of {n : Int} (h : 0 ≤ n) : ∃ k : Nat, n = (k : Int) := ⟨n.toNat, by omega⟩

end Go.Den

namespace Go.Den
open Go Go.ChangeShapes Go.WideShapes Go.RowKit

/-- What a cell of an argument is. -/
inductive Ck where
  | bool | int (k : IntKind) | str | sl (e : TypeId)

/-- The elements of a slice, as the reading has them. -/
def SlCells (_ : Program) (w : World) (k : Nat) (ok : List Value → Prop) (a : Option Addr) (l c : Nat) : Prop :=
  (a = none ∧ l = 0 ∧ c = 0) ∨ ∃ ad, a = some ad ∧ l ≤ c ∧ c ≤ maxLen ∧ ∀ i, i < c → ∃ cs, w.cells? 0 (ad.add (i * k)) k = some cs ∧ ok cs

def Ck.ok {H : Type} (enc : TypeId × Value → H) (P : Program) (w : World) : Ck → Value → Prop
  | .bool, v => ∃ b, v = .bool b
  | .int k, v => ∃ n, v = .int k n ∧ (Lit.int k n).wf = true
  | .str, v => ∃ s, v = .string s ∧ s.size ≤ maxLen
  | .sl e, v => ∃ a l c, v = .slice a l c ∧ SlCells P w (P.cellsOf e) (fun cs => ∃ n x, DataW.trod enc P w 0 (fun _ => true) true n e cs = some x) a l c

/-- The cells 'cs' are what 'ks' names. -/
def OkAll {H : Type} (enc : TypeId × Value → H) (P : Program) (w : World) : List Ck → List Value → Prop
  | [], [] => True
  | k :: ks, v :: vs => k.ok enc P w v ∧ OkAll enc P w ks vs
  | _, _ => False

def cksF (f : TypeId → Option (List Ck)) : Nat → List Field → Option (List Ck)
  | _, [] => some []
  | o, fd :: r => if fd.offset = o then (f fd.type).bind fun a => (cksF f (o + a.length) r).map fun b => a ++ b else none

def cks (P : Program) : Nat → TypeId → Option (List Ck)
  | 0, _ => none
  | n + 1, t => match P.underlying t with
    | some .bool => some [.bool]
    | some (.int k) => some [.int k]
    | some .string => some [.str]
    | some (.slice e) => some [.sl e]
    | some (.struct fs) => (cksF (fun u => (cks P n u).bind fun a => if a.length = P.cellsOf u then some a else none) 0 fs.toList).bind fun a => if a.length = P.cellsOf t then some a else none
    | some (.array m e) => (cks P n e).bind fun a => if a.length = P.cellsOf e ∧ m * a.length = P.cellsOf t then some (List.replicate m a).flatten else none
    | _ => none

theorem u64_bounds {n : Int} (h : (Lit.int .u64 n).wf = true) : 0 ≤ n ∧ n < 18446744073709551616 := by
  simp [Lit.wf, IntKind.min, IntKind.max, IntKind.bits, IntKind.signed] at h
  omega
theorem i64_bounds {n : Int} (h : (Lit.int .i64 n).wf = true) : -9223372036854775808 ≤ n ∧ n ≤ 9223372036854775807 := by
  simp [Lit.wf, IntKind.min, IntKind.max, IntKind.bits, IntKind.signed] at h
  omega

section
variable {H : Type} {enc : TypeId × Value → H} {P : Program} {w : World}

theorem OkAll.append : ∀ {ks ks' : List Ck} {vs vs' : List Value}, OkAll enc P w ks vs → OkAll enc P w ks' vs' → OkAll enc P w (ks ++ ks') (vs ++ vs')
  | [], _, [], _, _, h => h
  | _ :: _, _, _ :: _, _, ⟨h1, h2⟩, h => ⟨h1, h2.append h⟩
theorem OkAll.length : ∀ {ks : List Ck} {vs : List Value}, OkAll enc P w ks vs → vs.length = ks.length
  | [], [], _ => rfl
  | _ :: _, _ :: _, ⟨_, h⟩ => by simp [h.length]

theorem okF {f : TypeId → Option (List Ck)} {cs : List Value} {g : TypeId → List Value → Prop} (hf : ∀ u a, f u = some a → a.length = P.cellsOf u ∧ ∀ vs, g u vs → OkAll enc P w a vs) :
    ∀ (fs : List Field) (o : Nat) (ks : List Ck), cksF f o fs = some ks → (∀ fd ∈ fs, g fd.type ((cs.drop fd.offset).take (P.cellsOf fd.type))) → OkAll enc P w ks ((cs.drop o).take ks.length)
  | [], _, ks, h, _ => by
    simp only [cksF, Option.some.injEq] at h
    subst h
    simp [OkAll]
  | fd :: r, o, ks, h, hg => by
    simp only [cksF] at h
    split at h
    · rename_i ho
      obtain ⟨a, ha, h⟩ := Option.bind_eq_some_iff.1 h
      obtain ⟨b, hb, rfl⟩ := Option.map_eq_some_iff.1 h
      have h1 := (hf _ _ ha).2 _ (hg fd (by simp))
      have h2 := okF hf r _ _ hb fun x hx => hg x (by simp [hx])
      rw [ho, ← (hf _ _ ha).1] at h1
      have e : (cs.drop o).take (a ++ b).length = (cs.drop o).take a.length ++ (cs.drop (o + a.length)).take b.length := by
        rw [List.length_append, List.take_add, List.drop_drop]
      rw [e]
      exact h1.append h2
    · cases h

theorem okRep {k m : Nat} {a : List Ck} {cs : List Value} (_ha : a.length = k) (h : ∀ i, i < m → OkAll enc P w a ((cs.drop (i * k)).take k)) : OkAll enc P w (List.replicate m a).flatten (cs.take (m * k)) := by
  induction m with
  | zero => simp [OkAll]
  | succ m ih =>
    have h1 := ih fun i hi => h i (by omega)
    rw [List.replicate_succ', List.flatten_append, Nat.succ_mul, List.take_add]
    refine h1.append ?_
    simpa using h m (by omega)

theorem ok_of_trod : ∀ (n : Nat) (t : TypeId) (ks : List Ck) (fuel : Nat) (cs : List Value) (x : DataW H × List MemPlace), cks P n t = some ks → DataW.trod enc P w 0 (fun _ => true) true fuel t cs = some x → OkAll enc P w ks cs
  | 0, _, _, _, _, _, h, _ => by simp [cks] at h
  | n + 1, t, ks, fuel, cs, x, h, hd => by
    simp only [cks] at h
    split at h
    · rename_i ht; cases h
      obtain ⟨b, rfl, _⟩ := DataW.trod_bool ht hd
      exact ⟨⟨b, rfl⟩, trivial⟩
    · rename_i ht; cases h
      obtain ⟨b, rfl, _, hw⟩ := DataW.trod_int ht hd
      exact ⟨⟨b, rfl, hw⟩, trivial⟩
    · rename_i ht; cases h
      obtain ⟨b, rfl, _, hw⟩ := DataW.trod_string ht hd
      exact ⟨⟨b, rfl, hw⟩, trivial⟩
    · rename_i e ht; cases h
      rcases Deep.open_slice ht hd with ⟨rfl, _⟩ | ⟨a, l, c, m, n', D, Pl, rfl, _, hl, hc, hm, _, hx⟩
      · exact ⟨⟨none, 0, 0, rfl, .inl ⟨rfl, rfl, rfl⟩⟩, trivial⟩
      · refine ⟨⟨some a, l, c, rfl, .inr ⟨a, rfl, hl, hc, fun i hi => ?_⟩⟩, trivial⟩
        obtain ⟨cs', h1, h2⟩ := hx i (by rw [hm]; simpa using hi)
        exact ⟨cs', h1, n', _, h2⟩
    · rename_i fs ht
      obtain ⟨a, ha, h⟩ := Option.bind_eq_some_iff.1 h
      split at h
      · rename_i hlen
        have h := Option.some.inj h; subst h
        obtain ⟨xs, m, _, _, hl, hxl, hx⟩ := DataW.trod_struct ht hd
        have := okF (enc := enc) (P := P) (w := w) (cs := cs) (g := fun u vs => ∃ y, DataW.trod enc P w 0 (fun _ => true) true m u vs = some y) (f := fun u => (cks P n u).bind fun a => if a.length = P.cellsOf u then some a else none)
          (fun u a h => by
            obtain ⟨a', ha', h⟩ := Option.bind_eq_some_iff.1 h
            split at h
            · rename_i hl'
              have h := Option.some.inj h; subst h
              exact ⟨hl', fun vs ⟨y, hy⟩ => ok_of_trod n u a' m vs y ha' hy⟩
            · cases h) fs.toList 0 a ha (fun fd hfd => by
            obtain ⟨i, hi, rfl⟩ := List.getElem_of_mem hfd
            have hi' : i < fs.size := by simpa using hi
            have h1 := hx i fs[i] (by simp [hi'])
            have h2 : xs[i]? = some (xs[i]'(by omega)) := List.getElem?_eq_getElem _
            exact ⟨_, by simpa using h1.trans h2⟩)
        rw [List.drop_zero, hlen, ← hl, List.take_length] at this
        exact this
      · cases h
    · rename_i m e ht
      obtain ⟨a, ha, h⟩ := Option.bind_eq_some_iff.1 h
      split at h
      · rename_i hlen
        have h := Option.some.inj h; subst h
        obtain ⟨xs, m', _, _, hl, hxl, hx⟩ := DataW.trod_array ht hd
        have := okRep (enc := enc) (P := P) (w := w) (k := P.cellsOf e) (m := m) (a := a) (cs := cs) hlen.1 (fun i hi => ok_of_trod n e a m' _ _ ha ((hx i hi).trans (List.getElem?_eq_getElem (by omega))))
        rw [show m * P.cellsOf e = cs.length by rw [hl, ← hlen.2, hlen.1], List.take_length] at this
        exact this
      · cases h
    · cases h

/-- Every argument reads as it did, if nothing below has turned. -/
theorem trodAll_stays (hl : laidOutB P = true) {W W' : World} (hb : Below W.heap.size W W') : ∀ {ts : List TypeId} {vs : List Value} {ds : List (DataW H)} {ps : List MemPlace}, (∀ t ∈ ts, P.readableRec t = true ∧ t < P.types.size) →
    DataW.TrodAll enc P W 0 (fun _ => true) true ts vs ds ps → (∀ x ∈ ps, x.block < W.heap.size) → DataW.TrodAll enc P W' 0 (fun b => decide (b < W.heap.size)) true ts vs ds ps
  | [], [], [], ps, _, h, _ => h
  | t :: ts, v :: vs, d :: ds, ps, ht, ⟨p, q, h1, h2, hps⟩, hp => by
    subst hps
    refine ⟨p, q, Below.trod hl (ht t (by simp)).1 (ht t (by simp)).2 h1 hb (fun x hx => hp x (by simp [hx])), trodAll_stays hl hb (fun t ht' => ht t (by simp [ht'])) h2 (fun x hx => hp x (by simp [hx])), rfl⟩
  | [], _ :: _, _, _, _, h, _ => h.elim
  | [], [], _ :: _, _, _, h, _ => h.elim
  | _ :: _, [], _, _, _, h, _ => h.elim
  | _ :: _, _ :: _, [], _, _, h, _ => h.elim

/-- What the row asks behind the call: true; every argument reads as it did. -/
theorem post_true {f : Func} {s : ChangeSpec} {apart fresh handsOn : Bool} {W W' : World} {args : Array Value} {ds gs : List (DataW H)} {before : List MemPlace} {t : TypeId} (hl : laidOutB P = true)
    (hts0 : (f.params.toList.all fun t => P.readableRec t && decide (t < P.types.size)) = true) (hW : DataW.Whole enc P f.params.toList s.vars apart W args.toList ds gs before) (hv : s.vars = []) (hrt : f.resultTypes = #[t]) (hu : P.underlying t = some .bool)
    (hfn : s.fn H (ds ++ gs) = { results := [.lit (.bool true)], args := ds }) (hm : Den.Mod [] W W') : s.post enc P f apart fresh handsOn false W args (.bool true) W' := by
  have hts : ∀ t ∈ f.params.toList, P.readableRec t = true ∧ t < P.types.size := by simpa using fun t ht => (List.all_eq_true.1 hts0) t ht
  have hb := hm.below
  have hlt : ∀ p ∈ before, p.block < W.heap.size := fun p hp => hW.lt p hp
  have hW0 := hW
  obtain ⟨p, q, h1, h2, hps, h3, h4⟩ := hW
  rw [hv] at h2
  obtain ⟨rfl, rfl⟩ := trodVars_none h2
  refine ⟨ds, [], before, [], before, [], hW0, ?_, ?_, ?_, hb.frame _, fun h => by cases h⟩
  · rw [hfn, hrt]
    exact trodAll_cons_mk (shut_bool hu _) trodAll_mk0
  · rw [hfn]
    have : before = p := by simpa using hps
    subst this
    exact trodAll_stays hl hb hts h1 hlt
  · rw [hfn, hv]
    rfl

theorem OkAll.cons {k : Ck} {ks : List Ck} {vs : List Value} (h : OkAll enc P w (k :: ks) vs) : ∃ v vs', vs = v :: vs' ∧ k.ok enc P w v ∧ OkAll enc P w ks vs' := by
  cases vs with
  | nil => exact h.elim
  | cons v vs => exact ⟨v, vs, rfl, h.1, h.2⟩
theorem OkAll.nil {vs : List Value} (h : OkAll enc P w [] vs) : vs = [] := by
  cases vs with
  | nil => rfl
  | cons v vs => exact h.elim

/-- A slice among the arguments: its elements have 'k' cells, which 'q' describes. -/
def SlIn (w : World) (k : Nat) (q : List Value → Prop) (a : Option Addr) (l c : Nat) : Prop :=
  (a = none ∧ l = 0 ∧ c = 0) ∨ ∃ ad, a = some ad ∧ l ≤ c ∧ c ≤ maxLen ∧ (l = 0 ∨ ad.block < w.heap.size) ∧ ∀ i, i < l → ∃ cs, q cs ∧ cs.length = k ∧ ∀ j, j < k → w.cell? (Addr.add (Addr.add ad (i * k)) j) = cs[j]?

theorem cell_lt {w : World} {a : Addr} {v : Value} (h : w.cell? a = some v) : a.block < w.heap.size := by
  by_cases hlt : a.block < w.heap.size
  · exact hlt
  · simp [World.cell?, Array.getElem?_eq_none (Nat.not_lt.1 hlt)] at h

theorem SlCells.toIn {k : Nat} (hk : 0 < k) {ok q : List Value → Prop} (hq : ∀ cs, ok cs → q cs) {a : Option Addr} {l c : Nat} (h : SlCells P w k ok a l c) : SlIn w k q a l c := by
  rcases h with h | ⟨ad, rfl, hl, hc, hx⟩
  · exact .inl h
  · refine .inr ⟨ad, rfl, hl, hc, ?_, fun i hi => ?_⟩
    · rcases Nat.eq_zero_or_pos l with h0 | h0
      · exact .inl h0
      · obtain ⟨cs, h1, _⟩ := hx 0 (by omega)
        obtain ⟨_, h2, h3⟩ := World.cells?_some h1
        have := h3 0 hk
        rw [List.getElem?_eq_getElem (by omega)] at this
        exact .inr (by have h := cell_lt this; rwa [add_block, add_block] at h)
    · obtain ⟨cs, h1, h2⟩ := hx i (by omega)
      obtain ⟨_, h3, h4⟩ := World.cells?_some h1
      exact ⟨cs, hq _ h2, h3, h4⟩
end

theorem SlIn.mod {w w' : World} {k : Nat} {q : List Value → Prop} {a : Option Addr} {l c : Nat} (h : SlIn w k q a l c) (hm : Den.Mod [] w w') : SlIn w' k q a l c := by
  rcases h with h | ⟨ad, rfl, hl, hc, hb, hx⟩
  · exact .inl h
  · refine .inr ⟨ad, rfl, hl, hc, hb.imp id fun hb => Nat.lt_of_lt_of_le hb hm.size, fun i hi => ?_⟩
    obtain ⟨cs, h1, h2, h3⟩ := hx i hi
    refine ⟨cs, h1, h2, fun j hj => ?_⟩
    rw [← h3 j hj]
    exact hm.cell (a := Addr.add (Addr.add ad (i * k)) j) (by rw [add_block, add_block]; exact hb.resolve_left (by omega))
theorem SlIn.le {w : World} {k : Nat} {q : List Value → Prop} {a : Option Addr} {l c : Nat} (h : SlIn w k q a l c) : l ≤ c ∧ c ≤ 9223372036854775807 := by
  rcases h with ⟨_, rfl, rfl⟩ | ⟨ad, rfl, hl, hc, _⟩
  · exact ⟨Nat.le_refl _, by omega⟩
  · exact ⟨hl, hc⟩
theorem SlIn.at {w : World} {k : Nat} {q : List Value → Prop} {a : Option Addr} {l c : Nat} (h : SlIn w k q a l c) {i : Nat} (hi : i < l) :
    ∃ ad cs, a = some ad ∧ ad.block < w.heap.size ∧ q cs ∧ cs.length = k ∧ ∀ j, j < k → w.cell? (Addr.add (Addr.add ad (i * k)) j) = cs[j]? := by
  rcases h with ⟨_, rfl, rfl⟩ | ⟨ad, rfl, hl, hc, hb, hx⟩
  · omega
  · obtain ⟨cs, h1, h2, h3⟩ := hx i hi
    exact ⟨ad, cs, rfl, hb.resolve_left (by omega), h1, h2, h3⟩

end Go.Den

set_option linter.unusedSimpArgs false
namespace Go.Den
open Go

@[simp] theorem add_zero (a : Addr) : Addr.add a 0 = a := Addr.add_zero' a
theorem add_add (a : Addr) (m n : Nat) : Addr.add (Addr.add a m) n = Addr.add a (m + n) := Addr.add_add a m n

/-- The slice (a, l) of elements of 'sz' cells reads as the cells 'vs'; they lie in the blocks 'F' (none or one). -/
def Rd (w : World) (a : Option Addr) (l sz : Nat) (vs : List Value) (F : List Nat) : Prop :=
  vs.length = l * sz ∧ ((l = 0 ∧ F = []) ∨ ∃ ad, a = some ad ∧ F = [ad.block] ∧ ad.block < w.heap.size ∧ ∀ j, j < vs.length → w.cell? (Addr.add ad j) = vs[j]?)

theorem Rd.length {w : World} {a : Option Addr} {l sz : Nat} {vs : List Value} {F : List Nat} (h : Rd w a l sz vs F) : vs.length = l * sz := h.1
theorem Rd.lt {w : World} {a : Option Addr} {l sz : Nat} {vs : List Value} {F : List Nat} (h : Rd w a l sz vs F) : ∀ b ∈ F, b < w.heap.size := by
  rcases h.2 with ⟨_, rfl⟩ | ⟨ad, _, rfl, hb, _⟩
  · simp
  · intro b hb'; simp at hb'; subst hb'; exact hb
theorem Rd.keep {w w' : World} {a : Option Addr} {l sz : Nat} {vs : List Value} {F : List Nat} (h : Rd w a l sz vs F) (hk : ∀ b ∈ F, w'.heap[b]? = w.heap[b]?) : Rd w' a l sz vs F := by
  refine ⟨h.1, ?_⟩
  rcases h.2 with h | ⟨ad, ha, rfl, hb, hc⟩
  · exact .inl h
  · have hk' := hk ad.block (by simp)
    refine .inr ⟨ad, ha, rfl, ?_, fun j hj => ?_⟩
    · have h2 : w'.heap[ad.block]? = some w.heap[ad.block] := hk'.trans (Array.getElem?_eq_getElem hb)
      exact lt_of_get h2
    · rw [← hc j hj]
      exact same_cell (by rw [add_block]; exact hk')
theorem Rd.mod {S : List Nat} {w w' : World} {a : Option Addr} {l sz : Nat} {vs : List Value} {F : List Nat} (h : Rd w a l sz vs F) (hm : Mod S w w') (hd : ∀ b ∈ F, b ∉ S) : Rd w' a l sz vs F :=
  h.keep fun b hb => hm.keep b (h.lt b hb) (hd b hb)
theorem Rd.mod0 {w w' : World} {a : Option Addr} {l sz : Nat} {vs : List Value} {F : List Nat} (h : Rd w a l sz vs F) (hm : Mod [] w w') : Rd w' a l sz vs F := h.mod hm (by simp)
theorem Rd.nil (w : World) (a : Option Addr) (sz : Nat) : Rd w a 0 sz [] [] := ⟨by simp, .inl ⟨rfl, rfl⟩⟩
theorem Rd.empty {w : World} {a : Option Addr} {sz : Nat} {vs : List Value} {F : List Nat} (h : Rd w a 0 sz vs F) : vs = [] := List.eq_nil_of_length_eq_zero (by simpa using h.1)
theorem Rd.at {w : World} {a : Option Addr} {l sz : Nat} {vs : List Value} {F : List Nat} (h : Rd w a l sz vs F) (hl : 0 < l) : ∃ ad, a = some ad ∧ F = [ad.block] ∧ ad.block < w.heap.size ∧ ∀ j, j < vs.length → w.cell? (Addr.add ad j) = vs[j]? := by
  rcases h.2 with h | h
  · omega
  · exact h
theorem Rd.cell {w : World} {a : Addr} {l sz : Nat} {vs : List Value} {F : List Nat} (h : Rd w (some a) l sz vs F) {j : Nat} (hj : j < vs.length) : w.cell? (Addr.add a j) = vs[j]? := by
  rcases h.2 with ⟨h0, _⟩ | ⟨ad, ha, _, _, hc⟩
  · have := h.1; subst h0; omega
  · cases ha; exact hc j hj

theorem SlB.rd {w : World} {a : Option Addr} {l c sz : Nat} {vs : List Value} {F : List Nat} (h : SlB w a l c sz vs F) : Rd w a l sz vs F := by
  refine ⟨h.length, ?_⟩
  rcases h with ⟨rfl, rfl, rfl, rfl, rfl⟩ | ⟨b, o, arr, T, rfl, rfl, hb, hl, hc, hlen, hv⟩
  · exact .inl ⟨rfl, rfl⟩
  · exact .inr ⟨_, rfl, rfl, lt_of_get hb, fun j hj => by rw [addr_add, cell_get hb]; exact hv j hj⟩

/-- An argument's row. -/
theorem SlIn.rd {w : World} {k : Nat} {q : List Value → Prop} {a : Option Addr} {l c : Nat} (h : SlIn w k q a l c) : ∃ (vss : List (List Value)) (F : List Nat), vss.length = l ∧ (∀ vs ∈ vss, q vs ∧ vs.length = k) ∧ Rd w a l k vss.flatten F := by
  rcases h with ⟨rfl, rfl, rfl⟩ | ⟨ad, rfl, hl, hc, hb, hx⟩
  · exact ⟨[], [], rfl, by simp, Rd.nil _ _ _⟩
  · rcases Nat.eq_zero_or_pos l with h0 | h0
    · subst h0
      exact ⟨[], [], rfl, by simp, Rd.nil _ _ _⟩
    · suffices H : ∀ m ≤ l, ∃ vss : List (List Value), vss.length = m ∧ (∀ vs ∈ vss, q vs ∧ vs.length = k) ∧ vss.flatten.length = m * k ∧ ∀ j, j < vss.flatten.length → w.cell? (Addr.add ad j) = vss.flatten[j]? by
        obtain ⟨vss, h1, h2, h3, h4⟩ := H l (Nat.le_refl _)
        exact ⟨vss, [ad.block], h1, h2, h3, .inr ⟨ad, rfl, rfl, hb.resolve_left (by omega), h4⟩⟩
      intro m
      induction m with
      | zero => intro _; exact ⟨[], rfl, by simp, by simp, by simp⟩
      | succ m ih =>
        intro hm
        obtain ⟨vss, h1, h2, h3, h4⟩ := ih (by omega)
        obtain ⟨cs, hq, hcl, hcc⟩ := hx m (by omega)
        refine ⟨vss ++ [cs], by simp [h1], ?_, by simp [h3, hcl, Nat.succ_mul], ?_⟩
        · intro vs hv
          simp only [List.mem_append, List.mem_singleton] at hv
          rcases hv with hv | rfl
          · exact h2 vs hv
          · exact ⟨hq, hcl⟩
        · intro j hj
          rw [List.flatten_append, List.flatten_singleton]
          by_cases hj1 : j < m * k
          · rw [List.getElem?_append_left (by omega)]
            exact h4 j (by omega)
          · rw [List.getElem?_append_right (by omega), h3]
            have hjl : j - m * k < k := by simp [h3, hcl] at hj; omega
            rw [← hcc _ hjl, add_add]
            congr 2
            omega

theorem flatten_at {α : Type} {k : Nat} : ∀ {vss : List (List α)}, (∀ vs ∈ vss, vs.length = k) → ∀ {i j : Nat} {vs : List α}, vss[i]? = some vs → j < k → vss.flatten[i * k + j]? = vs[j]?
  | [], _, i, j, vs, h, _ => by simp at h
  | x :: vss, hk, 0, j, vs, h, hj => by
    simp only [List.getElem?_cons_zero, Option.some.injEq] at h
    subst h
    have := hk x (by simp)
    rw [List.flatten_cons, Nat.zero_mul, Nat.zero_add, List.getElem?_append_left (by omega)]
  | x :: vss, hk, i + 1, j, vs, h, hj => by
    have hx := hk x (by simp)
    rw [List.flatten_cons, List.getElem?_append_right (by rw [hx, Nat.succ_mul]; omega), hx, show (i + 1) * k + j - k = i * k + j by rw [Nat.succ_mul]; omega]
    exact flatten_at (fun v hv => hk v (by simp [hv])) (by simpa using h) hj

/-- The cells of an element of an argument's row. -/
theorem Rd.elem {w : World} {a : Option Addr} {l k : Nat} {vss : List (List Value)} {F : List Nat} (h : Rd w a l k vss.flatten F) (hl : vss.length = l) (hk : ∀ vs ∈ vss, vs.length = k) {i : Nat} (hi : i < l) :
    ∃ ad vs, a = some ad ∧ vss[i]? = some vs ∧ vs ∈ vss ∧ ad.block < w.heap.size ∧ F = [ad.block] ∧ ∀ j, j < k → w.cell? (Addr.add (Addr.add ad (i * k)) j) = vs[j]? := by
  obtain ⟨ad, ha, hF, hb, hc⟩ := h.at (by omega)
  refine ⟨ad, vss[i]'(by omega), ha, List.getElem?_eq_getElem _, List.getElem_mem _, hb, hF, fun j hj => ?_⟩
  have e := flatten_at hk (List.getElem?_eq_getElem (show i < vss.length by omega)) hj
  rw [add_add, hc, e]
  rw [h.1]
  have : (i + 1) * k ≤ l * k := Nat.mul_le_mul_right _ (by omega)
  rw [Nat.succ_mul] at this
  omega

/-- A slice expression on a row. -/
theorem Rd.sub {w : World} {a : Option Addr} {l sz : Nat} {vs : List Value} {F : List Nat} (h : Rd w a l sz vs F) {L H M : Nat} (h1 : L ≤ H) (h2 : H ≤ l) (h3 : H ≤ M) : ∃ G, Rd w (slA a M L sz) (H - L) sz ((vs.drop (L * sz)).take ((H - L) * sz)) G ∧ (∀ b ∈ G, b ∈ F) := by
  have m3 : H * sz ≤ l * sz := Nat.mul_le_mul_right _ h2
  have m4 : L * sz ≤ H * sz := Nat.mul_le_mul_right _ h1
  have hlen := h.1
  have hln : ((vs.drop (L * sz)).take ((H - L) * sz)).length = (H - L) * sz := by
    rw [List.length_take, List.length_drop, hlen, Nat.sub_mul]; omega
  rcases Nat.eq_zero_or_pos (H - L) with h0 | h0
  · exact ⟨[], ⟨hln, .inl ⟨h0, rfl⟩⟩, by simp⟩
  · obtain ⟨ad, rfl, rfl, hb, hc⟩ := h.at (by omega)
    refine ⟨[ad.block], ⟨hln, .inr ⟨ad.add (L * sz), ?_, by rw [add_block], by rw [add_block]; exact hb, fun j hj => ?_⟩⟩, fun _ h => h⟩
    · unfold slA; rw [if_neg (by omega)]; rfl
    · rw [hln, Nat.sub_mul] at hj
      rw [List.getElem?_take, if_pos (by rw [Nat.sub_mul]; exact hj), List.getElem?_drop, add_add]
      exact hc _ (by omega)

theorem slK_rd {w : World} {a : Option Addr} {l c sz : Nat} {vs : List Value} {F : List Nat} (hs : Rd w a l sz vs F) (hc : l ≤ c) {lo hi : Option Int} {L H : Nat} {K : Option Addr → Nat → Nat → Prop}
    (hlo : lo = some (L : Int) ∨ (lo = none ∧ L = 0)) (hhi : hi = some (H : Int) ∨ (hi = none ∧ H = l)) (h1 : L ≤ H) (h2 : H ≤ l)
    (hK : ∀ a' G, Rd w a' (H - L) sz ((vs.drop (L * sz)).take ((H - L) * sz)) G → (∀ b ∈ G, b ∈ F) → K a' (H - L) (c - L)) : slK a l c sz lo hi none K := by
  have eL : sM lo 0 = L := by rcases hlo with rfl | ⟨rfl, rfl⟩ <;> simp [sM]
  have eH : sM hi l = H := by rcases hhi with rfl | ⟨rfl, rfl⟩ <;> simp [sM]
  refine ⟨trivial, fun _ => rfl, ?_, ?_, ?_⟩
  · simp only [sM]; rcases hhi with rfl | ⟨rfl, rfl⟩ <;> simp [sOK]; omega
  · rw [eH]; rcases hlo with rfl | ⟨rfl, rfl⟩ <;> simp [sOK]; omega
  · simp only [eL, eH]
    obtain ⟨G, hG, hGF⟩ := hs.sub (M := c) h1 h2 (by omega)
    exact hK _ G hG hGF

/-- **append** of a row that is only read. -/
theorem append_rd {P : Program} {t e sz bys : Nat} {z : Value} (hT : SlT P t e sz bys z) (hsz : 0 < sz) {w : World} {a : Option Addr} {l c : Nat} {vs : List Value} {F : List Nat} (hs : SlB w a l c sz vs F)
    {a2 : Option Addr} {l2 c2 : Nat} {us : List Value} {G : List Nat} (hx : Rd w a2 l2 sz us G) (hc : ∀ u ∈ us, isCell u = true) (hb : (l + l2) * bys ≤ 140737488355328) (hb2 : l + l2 ≤ 4611686018427387904) (ty : TypeId) :
    ∃ a' c' w' F', (Builtin.append_ #[t, t] ty #[.slice a l c, .slice a2 l2 c2]).run P w = .ok (.slice a' (l + l2) c') w' ∧ SlB w' a' (l + l2) c' sz (vs ++ us) F' ∧ Mod F w w' ∧ Own w F F' := by
  have hus := hx.length
  have src : ∀ w' : World, (∀ b ∈ G, w'.heap[b]? = w.heap[b]?) → (Builtin.firstCells sz l2 (.slice a2 l2 c2)).run P w' = .ok us.toArray w' := fun w' hk => by
    have hx' := hx.keep hk
    rcases Nat.eq_zero_or_pos l2 with h0 | h0
    · subst h0
      obtain rfl := hx.empty
      cases a2 with
      | none => simp [Builtin.firstCells]
      | some ad => exact run_firstCells_some (P := P) w' sz 0 ad 0 c2 [] (by simp) (fun j v hj => by simp at hj)
    · obtain ⟨ad, rfl, hG, _, hcell⟩ := hx'.at h0
      exact run_firstCells_some (P := P) w' sz l2 ad l2 c2 us hus (fun j v hj => by rw [hcell j (List.getElem?_eq_some_iff.1 hj).1, hj])
  exact append_core hT hsz hT.1 (.inl ⟨e, rfl⟩) hs hus (fun w' => by simp [Builtin.lenOf]) (src w fun _ _ => rfl) (src w.drew fun _ _ => rfl) hc hb hb2 ty

/-! ### Own parts side by side -/

/-- What a call on the part 'F' leaves of another part. -/
theorem side {S F F' G : List Nat} {w w' : World} (hm : Mod S w w') (hSF : ∀ b ∈ S, b ∈ F) (ho : Own w F F') (hG : ∀ b ∈ G, b < w.heap.size) (hd : ∀ b ∈ F, b ∉ G) : (∀ b ∈ G, w'.heap[b]? = w.heap[b]?) ∧ ∀ b ∈ F', b ∉ G := by
  refine ⟨fun b hb => hm.keep b (hG b hb) fun h => hd b (hSF b h) hb, fun b hb hbG => ?_⟩
  rcases ho b hb with h | h
  · exact hd b h hbG
  · exact absurd (hG b hbG) (by omega)

theorem Mod.at0 {F : List Nat} {w w' : World} (hm : Mod [] w w') (hl : ∀ b ∈ F, b < w.heap.size) : ∀ b ∈ F, w'.heap[b]? = w.heap[b]? := fun b hb => hm.keep b (hl b hb) (by simp)
theorem Mod.at {S F : List Nat} {w w' : World} (hm : Mod S w w') (hl : ∀ b ∈ F, b < w.heap.size) (hd : ∀ b ∈ F, b ∉ S) : ∀ b ∈ F, w'.heap[b]? = w.heap[b]? := fun b hb => hm.keep b (hl b hb) (hd b hb)
theorem Mod.of0 {S : List Nat} {w w' : World} (hm : Mod [] w w') : Mod S w w' := hm.mono (by simp)
theorem Mod.new {w w' : World} (hm : Mod [] w w') {b : Nat} (hb : w.heap.size ≤ b) {w'' : World} (h : Mod [b] w' w'') : Mod [] w w'' := hm.trans h fun x hx hlt => by simp only [List.mem_singleton] at hx; subst hx; omega

/-- All of a part lies beyond 'n'. -/
def Beyond (n : Nat) (F : List Nat) : Prop := ∀ b ∈ F, n ≤ b
theorem Beyond.own {n : Nat} {w : World} {F F' : List Nat} (h : Beyond n F) (ho : Own w F F') (hn : n ≤ w.heap.size) : Beyond n F' := fun b hb => by
  rcases ho b hb with h' | h'
  · exact h b h'
  · omega
theorem Beyond.mod {w0 w w' : World} {F : List Nat} (h : Beyond w0.heap.size F) (hm : Mod [] w0 w) (hm' : Mod F w w') : Mod [] w0 w' := hm.trans hm' fun b hb hlt => absurd (h b hb) (by omega)

/-- 'append(x, ..)' of values that are laid just ahead: the row is an own one. -/
theorem push_run {P : Program} {t e sz bys : Nat} {z : Value} (hT : SlT P t e sz bys z) (hsz : 0 < sz) {w0 w : World} {A : Option Addr} {L C : Nat} {vs : List Value} {G : List Nat} (hs : SlB w A L C sz vs G) (hG : Beyond w0.heap.size G) (hm : Mod [] w0 w)
    {us : List Value} {n : Nat} (hus : us.length = n * sz) (hc : ∀ u ∈ us, isCell u = true) (hb : (L + n) * bys ≤ 140737488355328) (hb2 : L + n ≤ 4611686018427387904) (T ty : TypeId) :
    ∃ A' C' w' G', (Builtin.append_ #[t, t] ty #[.slice A L C, .slice (some ⟨w.heap.size, 0, none⟩) n n]).run P (w.alloc (.cells us.toArray T)) = .ok (.slice A' (L + n) C') w' ∧ SlB w' A' (L + n) C' sz (vs ++ us) G' ∧ Beyond w0.heap.size G' ∧ Mod [] w0 w' ∧ Mod G w w' ∧ Own w G G' := by
  have hx := SlB.new w us T (l := n) (sz := sz) hus
  obtain ⟨A', C', w', G', hrun, hs', hm', ho'⟩ := append_run hT hsz (hs.alloc (.cells us.toArray T)) hx hc hb hb2 ty
  have ho : Own w G G' := fun b hb => by
    rcases ho' b hb with h | h
    · exact .inl h
    · rw [alloc_size] at h; exact .inr (by omega)
  have hm2 : Mod G w w' := ((Mod.refl G w).alloc _).trans' hm'
  exact ⟨A', C', w', G', hrun, hs', hG.own ho hm.size, hG.mod hm hm2, hm2, ho⟩

/-- 'append(x, y...)' of a row that is only read: the row that it grows is an own one. -/
theorem push_rd {P : Program} {t e sz bys : Nat} {z : Value} (hT : SlT P t e sz bys z) (hsz : 0 < sz) {w0 w : World} {A : Option Addr} {L C : Nat} {vs : List Value} {G : List Nat} (hs : SlB w A L C sz vs G) (hG : Beyond w0.heap.size G) (hm : Mod [] w0 w)
    {a2 : Option Addr} {l2 c2 : Nat} {us : List Value} {H : List Nat} (hx : Rd w a2 l2 sz us H) (hc : ∀ u ∈ us, isCell u = true) (hb : (L + l2) * bys ≤ 140737488355328) (hb2 : L + l2 ≤ 4611686018427387904) (ty : TypeId) :
    ∃ A' C' w' G', (Builtin.append_ #[t, t] ty #[.slice A L C, .slice a2 l2 c2]).run P w = .ok (.slice A' (L + l2) C') w' ∧ SlB w' A' (L + l2) C' sz (vs ++ us) G' ∧ Beyond w0.heap.size G' ∧ Mod [] w0 w' ∧ Mod G w w' ∧ Own w G G' := by
  obtain ⟨A', C', w', G', hrun, hs', hm', ho'⟩ := append_rd hT hsz hs hx hc hb hb2 ty (c2 := c2)
  exact ⟨A', C', w', G', hrun, hs', hG.own ho' hm.size, hG.mod hm hm', hm', ho'⟩

/-! ### The same, as the printed forms ask for them -/

theorem push_K {P : Program} {t e sz bys : Nat} {z : Value} (hT : SlT P t e sz bys z) (hsz : 0 < sz) {w0 w : World} {A : Option Addr} {L C : Nat} {vs : List Value} {G : List Nat} (hs : SlB w A L C sz vs G) (hG : Beyond w0.heap.size G) (hm : Mod [] w0 w)
    {us : List Value} {n : Nat} (hus : us.length = n * sz) (hc : ∀ u ∈ us, isCell u = true) (hb : (L + n) * bys ≤ 140737488355328) (hb2 : L + n ≤ 4611686018427387904) {T ty : TypeId} {K : Value → World → Prop}
    (h : ∀ A' C' w' G', SlB w' A' (L + n) C' sz (vs ++ us) G' → Beyond w0.heap.size G' → Mod [] w0 w' → Mod G w w' → Own w G G' → K (.slice A' (L + n) C') w') :
    runK ((Builtin.append_ #[t, t] ty #[.slice A L C, .slice (some ⟨w.heap.size, 0, none⟩) n n]).run P (w.alloc (.cells us.toArray T))) K := by
  obtain ⟨A', C', w', G', hrun, h1, h2, h3, h4, h5⟩ := push_run hT hsz hs hG hm hus hc hb hb2 T ty
  exact ⟨_, _, hrun, h A' C' w' G' h1 h2 h3 h4 h5⟩

theorem push_rd_K {P : Program} {t e sz bys : Nat} {z : Value} (hT : SlT P t e sz bys z) (hsz : 0 < sz) {w0 w : World} {A : Option Addr} {L C : Nat} {vs : List Value} {G : List Nat} (hs : SlB w A L C sz vs G) (hG : Beyond w0.heap.size G) (hm : Mod [] w0 w)
    {a2 : Option Addr} {l2 c2 : Nat} {us : List Value} {H : List Nat} (hx : Rd w a2 l2 sz us H) (hc : ∀ u ∈ us, isCell u = true) (hb : (L + l2) * bys ≤ 140737488355328) (hb2 : L + l2 ≤ 4611686018427387904) {ty : TypeId} {K : Value → World → Prop}
    (h : ∀ A' C' w' G', SlB w' A' (L + l2) C' sz (vs ++ us) G' → Beyond w0.heap.size G' → Mod [] w0 w' → Mod G w w' → Own w G G' → K (.slice A' (L + l2) C') w') :
    runK ((Builtin.append_ #[t, t] ty #[.slice A L C, .slice a2 l2 c2]).run P w) K := by
  obtain ⟨A', C', w', G', hrun, h1, h2, h3, h4, h5⟩ := push_rd hT hsz hs hG hm hx hc hb hb2 ty (c2 := c2)
  exact ⟨_, _, hrun, h A' C' w' G' h1 h2 h3 h4 h5⟩

/-- 'append' of a row to a row of one's own, whatever else there is. -/
theorem grow_K {P : Program} {t e sz bys : Nat} {z : Value} (hT : SlT P t e sz bys z) (hsz : 0 < sz) {w : World} {A : Option Addr} {L C : Nat} {vs : List Value} {G : List Nat} (hs : SlB w A L C sz vs G)
    {us : List Value} {n : Nat} (hus : us.length = n * sz) (hc : ∀ u ∈ us, isCell u = true) (hb : (L + n) * bys ≤ 140737488355328) (hb2 : L + n ≤ 4611686018427387904) {T ty : TypeId} {K : Value → World → Prop}
    (h : ∀ A' C' w' G', SlB w' A' (L + n) C' sz (vs ++ us) G' → Mod G w w' → Own w G G' → K (.slice A' (L + n) C') w') :
    runK ((Builtin.append_ #[t, t] ty #[.slice A L C, .slice (some ⟨w.heap.size, 0, none⟩) n n]).run P (w.alloc (.cells us.toArray T))) K := by
  have hx := SlB.new w us T (l := n) (sz := sz) hus
  obtain ⟨A', C', w', G', hrun, hs', hm', ho'⟩ := append_run hT hsz (hs.alloc (.cells us.toArray T)) hx hc hb hb2 ty
  exact ⟨_, _, hrun, h A' C' w' G' hs' (((Mod.refl G w).alloc _).trans' hm') fun b hb => by
    rcases ho' b hb with h | h
    · exact .inl h
    · rw [alloc_size] at h; exact .inr (by omega)⟩

theorem grow_rd_K {P : Program} {t e sz bys : Nat} {z : Value} (hT : SlT P t e sz bys z) (hsz : 0 < sz) {w : World} {A : Option Addr} {L C : Nat} {vs : List Value} {G : List Nat} (hs : SlB w A L C sz vs G)
    {a2 : Option Addr} {l2 c2 : Nat} {us : List Value} {H : List Nat} (hx : Rd w a2 l2 sz us H) (hc : ∀ u ∈ us, isCell u = true) (hb : (L + l2) * bys ≤ 140737488355328) (hb2 : L + l2 ≤ 4611686018427387904) {ty : TypeId} {K : Value → World → Prop}
    (h : ∀ A' C' w' G', SlB w' A' (L + l2) C' sz (vs ++ us) G' → Mod G w w' → Own w G G' → K (.slice A' (L + l2) C') w') :
    runK ((Builtin.append_ #[t, t] ty #[.slice A L C, .slice a2 l2 c2]).run P w) K := by
  obtain ⟨A', C', w', G', hrun, hs', hm', ho'⟩ := append_rd hT hsz hs hx hc hb hb2 ty (c2 := c2)
  exact ⟨_, _, hrun, h A' C' w' G' hs' hm' ho'⟩

theorem makeSlice_K {P : Program} {t e sz bys : Nat} {z : Value} (hT : SlT P t e sz bys z) {w : World} {k k' : IntKind} {l c : Nat} (hlc : l ≤ c) (hb : c * bys ≤ 281474976710656) (hc : c ≤ 4611686018427387904) {K : Value → World → Prop}
    (h : ∀ w', SlB w' (some ⟨w.heap.size, 0, none⟩) l c sz (zrow z (l * sz)) [w.heap.size] → Mod [] w w' → K (.slice (some ⟨w.heap.size, 0, none⟩) l c) w') :
    runK ((Instr.makeSlice t (.int k (l : Int)) (.int k' (c : Int))).run P w) K := by
  obtain ⟨w', hrun, h1, h2⟩ := makeSlice_run hT w (k := k) (k' := k') hlc hb hc
  exact ⟨_, _, hrun, h w' h1 h2⟩

theorem copy_K {P : Program} {t t2 e sz bys : Nat} {z : Value} (hT : SlT P t e sz bys z) {w : World} {a : Option Addr} {l c : Nat} {vs : List Value} {F : List Nat} (hs : SlB w a l c sz vs F)
    {a2 : Option Addr} {l2 c2 : Nat} {us : List Value} {G : List Nat} (hx : SlB w a2 l2 c2 sz us G) (hc : ∀ u ∈ us, isCell u = true) {ty : TypeId} {K : Value → World → Prop}
    (h : ∀ w', SlB w' a l c sz (us.take (Nat.min l2 l * sz) ++ vs.drop (Nat.min l2 l * sz)) F → Mod F w w' → K (.int .i64 ((Nat.min l2 l : Nat) : Int)) w') :
    runK ((Builtin.copy_ #[t, t2] ty #[.slice a l c, .slice a2 l2 c2]).run P w) K := by
  obtain ⟨w', hrun, h1, h2⟩ := copy_run hT hs hx hc ty
  exact ⟨_, _, hrun, h w' h1 h2⟩

end Go.Den
