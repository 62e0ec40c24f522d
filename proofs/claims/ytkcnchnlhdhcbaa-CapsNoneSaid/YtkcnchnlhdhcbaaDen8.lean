/-
  Laws on worlds: what a call keeps; rows of cells behind slices; append, copy, make.
-/
import Derived.Test.YtkcnchnlhdhcbaaDen7
import Derived.ArgAppend
import Derived.Laws.CopyRow
import Derived.Below
import Derived.Laws.MakeOwn
import Derived.Laws.BitsLemmas
import Derived.Laws.Bits64
import Derived.Laws.BytesString
import Derived.Laws.IdiomStrings
set_option linter.unusedSimpArgs false
namespace Go.Den
open Go

/-! ### Small laws of the normal form -/

@[simp] theorem spl_true (X Y : Prop) : spl true X Y = X := by simp [spl]
@[simp] theorem spl_false (X Y : Prop) : spl false X Y = Y := by simp [spl]
@[simp] theorem spl_decide (p : Prop) [Decidable p] (X Y : Prop) : spl (decide p) X Y = ((p → X) ∧ (¬ p → Y)) := by simp [spl]
@[simp] theorem spl_beq (a b : Int) (X Y : Prop) : spl (a == b) X Y = ((a = b → X) ∧ (a ≠ b → Y)) := by simp [spl]
@[simp] theorem spl_bne (a b : Int) (X Y : Prop) : spl (a != b) X Y = ((a ≠ b → X) ∧ (a = b → Y)) := by simp [spl]
@[simp] theorem spl_not (b : Bool) (X Y : Prop) : spl (!b) X Y = spl b Y X := by cases b <;> simp [spl]
theorem spl_of {b : Bool} {X Y : Prop} (h1 : b = true → X) (h2 : b = false → Y) : spl b X Y := ⟨h1, h2⟩
theorem spl_t {b : Bool} {X Y : Prop} (h : b = true) (hx : X) : spl b X Y := by subst h; simpa using hx
theorem spl_f {b : Bool} {X Y : Prop} (h : b = false) (hy : Y) : spl b X Y := by subst h; simpa using hy
@[simp] theorem nilK_some (a : Addr) (K : Addr → Prop) : nilK (some a) K = K a := rfl
@[simp] theorem newK_eq (w : World) (o : Obj) (K : Nat → World → Prop) : newK w o K = K w.heap.size (w.alloc o) := rfl
@[simp] theorem drK_eq (w : World) (K : World → Prop) : drK w K = K w.drew := rfl
@[simp] theorem addr_add (b o n : Nat) : Addr.add ⟨b, o, none⟩ n = ⟨b, o + n, none⟩ := Addr.add_lit b o n
@[simp] theorem drew_heap (w : World) : w.drew.heap = w.heap := rfl

theorem lt_of_get {w : World} {b : Nat} {o : Obj} (h : w.heap[b]? = some o) : b < w.heap.size := (Array.getElem?_eq_some_iff.1 h).1
theorem alloc_new (w : World) (o : Obj) : (w.alloc o).heap[w.heap.size]? = some o := by
  show (w.heap.push o)[w.heap.size]? = some o
  simp
@[simp] theorem alloc_size (w : World) (o : Obj) : (w.alloc o).heap.size = w.heap.size + 1 := by
  show (w.heap.push o).size = _
  simp
theorem alloc_old {w : World} {b : Nat} (o : Obj) (h : b < w.heap.size) : (w.alloc o).heap[b]? = w.heap[b]? := by
  show (w.heap.push o)[b]? = _
  simp [Array.getElem?_push, Nat.ne_of_lt h]
theorem alloc_get {w : World} {b : Nat} {x : Obj} (o : Obj) (h : w.heap[b]? = some x) : (w.alloc o).heap[b]? = some x := (alloc_old o (lt_of_get h)).trans h
theorem upd_ne {w : World} {b b' : Nat} (x : Obj) (h : b ≠ b') : (w.upd b x).heap[b']? = w.heap[b']? := by simp [upd_get, h]
theorem cell_get {w : World} {b : Nat} {cs : Array Value} {T : TypeId} {fr : Nat × Nat} (h : w.heap[b]? = some (.cells cs T fr)) (o : Nat) : w.cell? ⟨b, o, none⟩ = cs[o]? := by simp [World.cell?, h]

theorem stK_of {w : World} {b off : Nat} {cs : Array Value} {T : TypeId} {vs : List Value} {K : World → Prop} (h : w.heap[b]? = some (.cells cs T (0, 0))) (hl : off + vs.length ≤ cs.size)
    (hK : K (w.upd b (.cells (splice cs off vs) T (0, 0)))) : stK ⟨b, off, none⟩ vs w K := ⟨cs, T, (0, 0), h, rfl, hl, .inl (Nat.zero_le _), hK⟩

@[simp] theorem splice_nil (cs : Array Value) (off : Nat) : splice cs off [] = cs := rfl
@[simp] theorem splice_cons (cs : Array Value) (off : Nat) (v : Value) (vs : List Value) : splice cs off (v :: vs) = splice (cs.setIfInBounds off v) (off + 1) vs := rfl

theorem splice_get (vs : List Value) : ∀ (cs : Array Value) (off i : Nat), (splice cs off vs)[i]? = if off ≤ i ∧ i < off + vs.length ∧ i < cs.size then vs[i - off]? else cs[i]? := by
  induction vs with
  | nil => intro cs off i; simp; intros; omega
  | cons v vs ih =>
    intro cs off i
    simp only [splice, ih, Array.size_setIfInBounds, List.length_cons]
    by_cases h : off = i
    · subst h
      by_cases hs : off < cs.size
      · simp [hs, show ¬ off + 1 ≤ off by omega]
      · simp [hs]
    · rw [Array.getElem?_setIfInBounds_ne h]
      by_cases h1 : off + 1 ≤ i ∧ i < off + 1 + vs.length ∧ i < cs.size
      · rw [if_pos h1, if_pos (by omega)]
        obtain ⟨k, rfl⟩ : ∃ k, i = off + 1 + k := ⟨i - (off + 1), by omega⟩
        simp [show off + 1 + k - off = k + 1 by omega, show off + 1 + k - (off + 1) = k by omega]
      · rw [if_neg h1, if_neg (by omega)]

/-! ### What a call keeps: all blocks that were there but 'S' -/

structure Mod (S : List Nat) (w w' : World) : Prop where
  os : w'.os = w.os
  tape : w'.tape = w.tape
  output : w'.output = w.output
  size : w.heap.size ≤ w'.heap.size
  keep : ∀ b, b < w.heap.size → b ∉ S → w'.heap[b]? = w.heap[b]?

theorem Mod.refl (S : List Nat) (w : World) : Mod S w w := ⟨rfl, rfl, rfl, Nat.le_refl _, fun _ _ _ => rfl⟩
theorem Mod.trans {S S' : List Nat} {w w1 w2 : World} (h : Mod S w w1) (h' : Mod S' w1 w2) (hs : ∀ b ∈ S', b < w.heap.size → b ∈ S) : Mod S w w2 :=
  ⟨h'.os.trans h.os, h'.tape.trans h.tape, h'.output.trans h.output, Nat.le_trans h.size h'.size, fun b hb hn => (h'.keep b (Nat.lt_of_lt_of_le hb h.size) fun hm => hn (hs b hm hb)).trans (h.keep b hb hn)⟩
theorem Mod.trans' {S : List Nat} {w w1 w2 : World} (h : Mod S w w1) (h' : Mod S w1 w2) : Mod S w w2 := h.trans h' fun _ hb _ => hb
theorem Mod.mono {S S' : List Nat} {w w' : World} (h : Mod S w w') (hs : ∀ b ∈ S, b ∈ S') : Mod S' w w' := ⟨h.os, h.tape, h.output, h.size, fun b hb hn => h.keep b hb fun hm => hn (hs b hm)⟩
theorem Mod.to_nil {S : List Nat} {w w' : World} (h : Mod S w w') (hs : ∀ b ∈ S, w.heap.size ≤ b) : Mod [] w w' := ⟨h.os, h.tape, h.output, h.size, fun b hb _ => h.keep b hb fun hm => Nat.not_le_of_lt hb (hs b hm)⟩
theorem Mod.alloc {S : List Nat} {w w' : World} (h : Mod S w w') (o : Obj) : Mod S w (w'.alloc o) :=
  ⟨h.os, h.tape, h.output, by rw [alloc_size]; exact Nat.le_succ_of_le h.size, fun b hb hn => (alloc_old o (Nat.lt_of_lt_of_le hb h.size)).trans (h.keep b hb hn)⟩
theorem Mod.drew {S : List Nat} {w w' : World} (h : Mod S w w') : Mod S w w'.drew := ⟨h.os, h.tape, h.output, h.size, h.keep⟩
theorem Mod.upd {S : List Nat} {w w' : World} (h : Mod S w w') {b : Nat} (hb : b ∈ S ∨ w.heap.size ≤ b) (o : Obj) : Mod S w (w'.upd b o) :=
  ⟨h.os, h.tape, h.output, by rw [upd_size]; exact h.size, fun c hc hn => by
    have : b ≠ c := by rintro rfl; rcases hb with hb | hb; exact hn hb; omega
    rw [upd_ne o this]; exact h.keep c hc hn⟩
theorem Mod.get {S : List Nat} {w w' : World} (h : Mod S w w') {b : Nat} {o : Obj} (hb : w.heap[b]? = some o) (hn : b ∉ S) : w'.heap[b]? = some o := (h.keep b (lt_of_get hb) hn).trans hb
theorem Mod.cell {w w' : World} (h : Mod [] w w') {a : Addr} (hb : a.block < w.heap.size) : w'.cell? a = w.cell? a := same_cell (h.keep _ hb (by simp))
theorem Mod.below {w w' : World} (h : Mod [] w w') : Go.RowKit.Below w.heap.size w w' := ⟨h.os, h.tape, h.output, h.size, fun b hb => h.keep b hb (by simp)⟩

/-- The footprint of what is owned: 'F' turned to 'G': of old blocks only those of 'F'. -/
def Own (w : World) (F G : List Nat) : Prop := ∀ b ∈ G, b ∈ F ∨ w.heap.size ≤ b
theorem Own.refl (w : World) (F : List Nat) : Own w F F := fun _ h => .inl h
theorem Own.trans {w w1 : World} {F G H : List Nat} (h : Own w F G) (hs : w.heap.size ≤ w1.heap.size) (h' : Own w1 G H) : Own w F H := fun b hb => by
  rcases h' b hb with h1 | h1
  · exact h b h1
  · exact .inr (Nat.le_trans hs h1)

/-! ### Rows of cells behind slices -/

/-- The slice value (a, l, c) of elements of 'sz' cells reads as the cells 'vs'; its row lies in the blocks 'F' (none or one). -/
def SlB (w : World) (a : Option Addr) (l c sz : Nat) (vs : List Value) (F : List Nat) : Prop :=
  (a = none ∧ l = 0 ∧ c = 0 ∧ vs = [] ∧ F = []) ∨
  ∃ (b o : Nat) (arr : Array Value) (T : TypeId), a = some ⟨b, o, none⟩ ∧ F = [b] ∧ w.heap[b]? = some (.cells arr T (0, 0)) ∧ l ≤ c ∧ o + c * sz ≤ arr.size ∧ vs.length = l * sz ∧ ∀ i, i < vs.length → arr[o + i]? = vs[i]?

theorem SlB.nil (w : World) (sz : Nat) : SlB w none 0 0 sz [] [] := .inl ⟨rfl, rfl, rfl, rfl, rfl⟩
theorem SlB.length {w : World} {a : Option Addr} {l c sz : Nat} {vs : List Value} {F : List Nat} (h : SlB w a l c sz vs F) : vs.length = l * sz := by
  rcases h with ⟨_, rfl, _, rfl, _⟩ | ⟨_, _, _, _, _, _, _, _, _, h, _⟩
  · simp
  · exact h
theorem SlB.le {w : World} {a : Option Addr} {l c sz : Nat} {vs : List Value} {F : List Nat} (h : SlB w a l c sz vs F) : l ≤ c := by
  rcases h with ⟨_, rfl, rfl, _, _⟩ | ⟨_, _, _, _, _, _, _, h, _⟩
  · exact Nat.le_refl _
  · exact h
theorem SlB.keep {w w' : World} {a : Option Addr} {l c sz : Nat} {vs : List Value} {F : List Nat} (h : SlB w a l c sz vs F) (hk : ∀ b ∈ F, w'.heap[b]? = w.heap[b]?) : SlB w' a l c sz vs F := by
  rcases h with h | ⟨b, o, arr, T, ha, rfl, hb, h⟩
  · exact .inl h
  · exact .inr ⟨b, o, arr, T, ha, rfl, (hk b (by simp)).trans hb, h⟩
theorem SlB.lt {w : World} {a : Option Addr} {l c sz : Nat} {vs : List Value} {F : List Nat} (h : SlB w a l c sz vs F) : ∀ b ∈ F, b < w.heap.size := by
  rcases h with ⟨_, _, _, _, rfl⟩ | ⟨b, o, arr, T, ha, rfl, hb, h⟩
  · simp
  · intro c hc; simp at hc; subst hc; exact lt_of_get hb
theorem SlB.mod {S : List Nat} {w w' : World} {a : Option Addr} {l c sz : Nat} {vs : List Value} {F : List Nat} (h : SlB w a l c sz vs F) (hm : Mod S w w') (hd : ∀ b ∈ F, b ∉ S) : SlB w' a l c sz vs F :=
  h.keep fun b hb => hm.keep b (h.lt b hb) (hd b hb)
theorem SlB.isNone {w : World} {a : Option Addr} {l c sz : Nat} {vs : List Value} {F : List Nat} (h : SlB w a l c sz vs F) (hl : 0 < l) : ∃ b o, a = some ⟨b, o, none⟩ ∧ F = [b] := by
  rcases h with ⟨_, rfl, _⟩ | ⟨b, o, _, _, ha, hF, _⟩
  · omega
  · exact ⟨b, o, ha, hF⟩

/-- A cell of the row. -/
theorem SlB.cell {w : World} {a : Addr} {l c sz : Nat} {vs : List Value} {F : List Nat} (h : SlB w (some a) l c sz vs F) {i : Nat} (hi : i < vs.length) : w.cell? (Addr.add a i) = vs[i]? := by
  rcases h with ⟨h, _⟩ | ⟨b, o, arr, T, ha, _, hb, _, _, _, hv⟩
  · cases h
  · cases ha
    rw [addr_add, cell_get hb]
    exact hv i hi

theorem SlB.new (w : World) (vs : List Value) (T : TypeId) {l sz : Nat} (h : vs.length = l * sz) : SlB (w.alloc (.cells vs.toArray T)) (some ⟨w.heap.size, 0, none⟩) l l sz vs [w.heap.size] :=
  .inr ⟨w.heap.size, 0, vs.toArray, T, rfl, rfl, alloc_new w _, Nat.le_refl _, by simp [h], h, fun i _ => by simp⟩
theorem SlB.alloc {w : World} {a : Option Addr} {l c sz : Nat} {vs : List Value} {F : List Nat} (h : SlB w a l c sz vs F) (o : Obj) : SlB (w.alloc o) a l c sz vs F := h.keep fun b hb => alloc_old o (h.lt b hb)

/-- What a slice type's number says. -/
def SlT (P : Program) (t e sz bys : Nat) (z : Value) : Prop := P.underlying t = some (.slice e) ∧ ∃ i, P.info? e = some i ∧ i.zero = some z ∧ i.size = sz ∧ i.bytes = bys ∧ z.cells.size = sz

theorem oneCell_of {v : Value} (h : isCell v = true) : v.oneCell' = true := by cases v <;> simp_all [isCell, Value.oneCell']

theorem setRow_upd {w : World} {g : Nat} {cur : Array Value} {e : TypeId} (_h : w.heap[g]? = some (.cells cur e (0, 0))) (off : Nat) (vs : List Value) :
    (storeCells ⟨g, off, none⟩ vs : Sem Unit) = storeCells ⟨g, off, none⟩ vs := rfl

/-- **append**: the row's cells, and the new ones behind them: in the old row's room, or in a new row. -/
theorem append_core {P : Program} {t t2 e sz bys : Nat} {z : Value} {ut : TypeDesc} (hT : SlT P t e sz bys z) (_hsz : 0 < sz) (h2 : P.underlying t2 = some ut) (hut : (∃ e2, ut = .slice e2) ∨ ut = .string) {w : World} {a : Option Addr} {l c : Nat} {vs : List Value} {F : List Nat} (hs : SlB w a l c sz vs F)
    {x : Value} {l2 : Nat} {us : List Value} (hus : us.length = l2 * sz) (hlen0 : ∀ w' : World, (Builtin.lenOf x).run P w' = .ok l2 w') (src0 : (Builtin.firstCells sz l2 x).run P w = .ok us.toArray w) (src1 : (Builtin.firstCells sz l2 x).run P w.drew = .ok us.toArray w.drew)
    (hc : ∀ u ∈ us, isCell u = true) (hb : (l + l2) * bys ≤ 140737488355328) (hb2 : l + l2 ≤ 4611686018427387904) (ty : TypeId) :
    ∃ a' c' w' F', (Builtin.append_ #[t, t2] ty #[.slice a l c, x]).run P w = .ok (.slice a' (l + l2) c') w' ∧ SlB w' a' (l + l2) c' sz (vs ++ us) F' ∧ Mod F w w' ∧ Own w F F' := by
  obtain ⟨hu, i, hi, hz, hsi, hby, hzs⟩ := hT
  have hvs := hs.length
  have own : ∀ w' : World, (∀ b ∈ F, w'.heap[b]? = w.heap[b]?) → (Builtin.firstCells sz l (.slice a l c)).run P w' = .ok vs.toArray w' := fun w' hk => by
    have hs' := hs.keep hk
    cases ha : a with
    | none =>
      subst ha
      rcases hs with ⟨_, rfl, rfl, rfl, _⟩ | ⟨_, _, _, _, h, _⟩
      · simp [Builtin.firstCells]
      · cases h
    | some ad =>
      subst ha
      exact run_firstCells_some (P := P) w' sz l ad l c vs hvs (fun j v hj => by rw [hs'.cell (List.getElem?_eq_some_iff.1 hj).1, hj])
  have szr : ∀ w : World, (sizeOf e).run P w = .ok sz w := fun w => by simp [sizeOf, typeInfo, hi, hsi]
  by_cases hr : l + l2 ≤ c
  · -- there is room
    rcases hs with ⟨rfl, rfl, rfl, rfl, rfl⟩ | ⟨b, o, arr, T, rfl, rfl, hbk, hlc, hcap, hlen, hget⟩
    · have h0 : l2 = 0 := by omega
      subst h0
      have hus0 : us = [] := List.eq_nil_of_length_eq_zero (by simpa using hus)
      subst hus0
      refine ⟨none, 0, w, [], ?_, SlB.nil w sz, Mod.refl _ _, fun _ h => .inl h⟩
      rcases hut with ⟨e2, rfl⟩ | rfl <;> simp [Builtin.append_, run_underlying hu, run_underlying h2, sizeOf, typeInfo, hi, hsi, hlen0, src0]
    · refine ⟨some ⟨b, o, none⟩, c, w.upd b (.cells (splice arr (o + l * sz) us) T (0, 0)), [b], ?_, ?_, ?_, fun _ h => .inl h⟩
      · have hst := run_storeCells_upd (P := P) (b := b) (off := o + l * sz) (T := T) (fr := (0, 0)) us 0 arr w hbk (by
          rw [hus, Nat.add_zero, Nat.add_assoc, ← Nat.add_mul]
          exact Nat.le_trans (Nat.add_le_add_left (Nat.mul_le_mul_right _ hr) _) hcap) (.inl (Nat.zero_le _)) hc
        simp only [Nat.add_zero] at hst
        rcases hut with ⟨e2, rfl⟩ | rfl <;> simp [Builtin.append_, run_underlying hu, run_underlying h2, sizeOf, typeInfo, hi, hsi, hlen0, hr, src0, Addr.add_lit, hst]
      · refine .inr ⟨b, o, _, T, rfl, rfl, upd_same hbk, hr, by rw [splice_size]; exact hcap, by rw [List.length_append, hlen, hus, Nat.add_mul], ?_⟩
        intro j hj
        rw [List.length_append] at hj
        rw [splice_get]
        by_cases hjl : j < vs.length
        · rw [if_neg (by omega), List.getElem?_append_left hjl]
          exact hget j hjl
        · have : (l + l2) * sz ≤ c * sz := Nat.mul_le_mul_right _ hr
          rw [Nat.add_mul] at this
          rw [if_pos ⟨by omega, by omega, by omega⟩, List.getElem?_append_right (by omega)]
          congr 1
          omega
      · exact (Mod.refl _ _).upd (.inl (by simp)) _
  · -- a new row
    have h63 : ¬ (9223372036854775807 < ((l : Int) + (l2 : Int))) := by omega
    have hfit := growslice_fits (old := c) (need := l + l2) (bytes := bys) (by omega) hb
    have h48 : ¬ (281474976710656 < Builtin.nextslicecap (l + l2) c * i.bytes) := by rw [hby]; omega
    refine ⟨some ⟨w.heap.size, 0, none⟩, grownCap w (l + l2) c e, w.drew.alloc (.cells (vs.toArray ++ us.toArray ++ Builtin.zeroCells z.cells (grownCap w (l + l2) c e - (l + l2))) e), [w.heap.size], ?_, ?_, (Mod.refl _ _).drew.alloc _, fun b hb => by simp at hb; right; omega⟩
    · have h2' := own w.drew (fun _ _ => rfl)
      rcases hut with ⟨e2, rfl⟩ | rfl
      · simp [Builtin.append_, run_underlying hu, run_underlying h2, sizeOf, typeInfo, zeroValue, hi, hz, hsi, hlen0, hr, h63, h48, Question.forced, src1, h2', newRow, grownCap]
        congr 2
        apply Array.ext'
        simp
      · simp [Builtin.append_, run_underlying hu, run_underlying h2, sizeOf, typeInfo, zeroValue, hi, hz, hsi, hlen0, hr, h63, h48, Question.forced, src1, h2', newRow, grownCap]
        congr 2
        apply Array.ext'
        simp
    · have hge := grownCap_ge w (l + l2) c e
      refine .inr ⟨w.heap.size, 0, _, e, rfl, rfl, alloc_new w.drew _, hge, ?_, by rw [List.length_append, hvs, hus, Nat.add_mul], ?_⟩
      · simp only [Array.size_append, List.size_toArray, size_zeroCells, hzs, hvs, hus, ← Nat.add_mul]
        rw [Nat.zero_add]
        exact Nat.mul_le_mul_right _ (by omega)
      · intro j hj
        rw [Nat.zero_add, Array.getElem?_append_left (by simpa using hj)]
        simp

/-- **append** of a row. -/
theorem append_run {P : Program} {t e sz bys : Nat} {z : Value} (hT : SlT P t e sz bys z) (hsz : 0 < sz) {w : World} {a : Option Addr} {l c : Nat} {vs : List Value} {F : List Nat} (hs : SlB w a l c sz vs F)
    {a2 : Option Addr} {l2 c2 : Nat} {us : List Value} {G : List Nat} (hx : SlB w a2 l2 c2 sz us G) (hc : ∀ u ∈ us, isCell u = true) (hb : (l + l2) * bys ≤ 140737488355328) (hb2 : l + l2 ≤ 4611686018427387904) (ty : TypeId) :
    ∃ a' c' w' F', (Builtin.append_ #[t, t] ty #[.slice a l c, .slice a2 l2 c2]).run P w = .ok (.slice a' (l + l2) c') w' ∧ SlB w' a' (l + l2) c' sz (vs ++ us) F' ∧ Mod F w w' ∧ Own w F F' := by
  have hus := hx.length
  have src : ∀ w' : World, (∀ b ∈ G, w'.heap[b]? = w.heap[b]?) → (Builtin.firstCells sz l2 (.slice a2 l2 c2)).run P w' = .ok us.toArray w' := fun w' hk => by
    have hx' := hx.keep hk
    cases ha2 : a2 with
    | none =>
      subst ha2
      rcases hx with ⟨_, rfl, rfl, rfl, _⟩ | ⟨_, _, _, _, h, _⟩
      · simp [Builtin.firstCells]
      · cases h
    | some ad =>
      subst ha2
      exact run_firstCells_some (P := P) w' sz l2 ad l2 c2 us hus (fun j v hj => by rw [hx'.cell (List.getElem?_eq_some_iff.1 hj).1, hj])
  exact append_core hT hsz hT.1 (.inl ⟨e, rfl⟩) hs hus (fun w' => by simp [Builtin.lenOf]) (src w fun _ _ => rfl) (src w.drew fun _ _ => rfl) hc hb hb2 ty

/-- The bytes of a text, as cells. -/
def bys8 (s : ByteArray) : List Value := s.data.toList.map fun b => .int .u8 (b.toNat : Int)
theorem bys8_length (s : ByteArray) : (bys8 s).length = s.size := by simp [bys8]
theorem bys8_append (s s' : ByteArray) : bys8 (s ++ s') = bys8 s ++ bys8 s' := by simp [bys8]
theorem bys8_cell (s : ByteArray) : ∀ u ∈ bys8 s, isCell u = true := by
  intro u hu
  simp only [bys8, List.mem_map] at hu
  obtain ⟨b, _, rfl⟩ := hu
  rfl

/-- **append** of a text's bytes. -/
theorem append_str {P : Program} {t t2 e bys : Nat} {z : Value} (hT : SlT P t e 1 bys z) (h2 : P.underlying t2 = some .string) {w : World} {a : Option Addr} {l c : Nat} {vs : List Value} {F : List Nat} (hs : SlB w a l c 1 vs F)
    (s : ByteArray) (hb : (l + s.size) * bys ≤ 140737488355328) (hb2 : l + s.size ≤ 4611686018427387904) (ty : TypeId) :
    ∃ a' c' w' F', (Builtin.append_ #[t, t2] ty #[.slice a l c, .string s]).run P w = .ok (.slice a' (l + s.size) c') w' ∧ SlB w' a' (l + s.size) c' 1 (vs ++ bys8 s) F' ∧ Mod F w w' ∧ Own w F F' := by
  have src : ∀ w' : World, (Builtin.firstCells 1 s.size (.string s)).run P w' = .ok (bys8 s).toArray w' := fun w' => by
    have e1 : s.extract 0 s.size = s := by simp
    simp only [Builtin.firstCells, e1, Sem.run_pure]
    congr 1
    apply Array.ext'
    simp [bys8]
  exact append_core hT (by decide) h2 (.inr rfl) hs (by rw [bys8_length, Nat.mul_one]) (fun w' => by simp [Builtin.lenOf]) (src w) (src w.drew) (bys8_cell s) hb hb2 ty

/-- **string(b)** of a row that holds a text's bytes. -/
theorem convert_str {P : Program} {src dst e : Nat} (hs : P.underlying src = some (.slice e)) (he : P.underlying e = some (.int .u8)) (hd : P.underlying dst = some .string) {w : World} {a : Option Addr} {l c : Nat} {s : ByteArray} {F : List Nat}
    (h : SlB w a l c 1 (bys8 s) F) : (convert src dst (.slice a l c)).run P w = .ok (.string s) w := by
  have hl : s.size = l := by have := h.length; simpa [bys8_length] using this
  cases a with
  | none =>
    rcases h with ⟨_, rfl, rfl, h0, _⟩ | ⟨_, _, _, _, h, _⟩
    · have : s = ByteArray.empty := by
        cases s with
        | mk d =>
          have hd0 : d = #[] := by simpa [bys8] using h0
          subst hd0
          rfl
      subst this
      rw [run_convert_bytes_string w src dst e none 0 0 hs he hd]
      simp [Conv.bytesToString]
    · cases h
  | some ad =>
    have hc := run_convert_bytes_back (P := P) w src dst e ad c s.data.toList hs he hd (fun j hj => by
      rw [h.cell (by rw [bys8_length]; simpa using hj)]
      simp only [bys8, List.getElem?_map, List.getElem?_eq_getElem hj, Option.map_some])
    have e1 : s.data.toList.length = l := by rw [← hl]; rfl
    rw [e1] at hc
    rw [hc]

/-- **copy** between rows of one element type. -/
theorem copy_run {P : Program} {t t2 e sz bys : Nat} {z : Value} (hT : SlT P t e sz bys z) {w : World} {a : Option Addr} {l c : Nat} {vs : List Value} {F : List Nat} (hs : SlB w a l c sz vs F)
    {a2 : Option Addr} {l2 c2 : Nat} {us : List Value} {G : List Nat} (hx : SlB w a2 l2 c2 sz us G) (hc : ∀ u ∈ us, isCell u = true) (ty : TypeId) :
    ∃ w', (Builtin.copy_ #[t, t2] ty #[.slice a l c, .slice a2 l2 c2]).run P w = .ok (.int .i64 ((Nat.min l2 l : Nat) : Int)) w' ∧
      SlB w' a l c sz (us.take (Nat.min l2 l * sz) ++ vs.drop (Nat.min l2 l * sz)) F ∧ Mod F w w' := by
  obtain ⟨hu, i, hi, hz, hsi, hby, hzs⟩ := hT
  have hus := hx.length
  have hvs := hs.length
  obtain ⟨n, hn⟩ : ∃ n, n = Nat.min l2 l := ⟨_, rfl⟩
  have hn2 : n ≤ l2 := by rw [hn]; exact Nat.min_le_left _ _
  have hn1 : n ≤ l := by rw [hn]; exact Nat.min_le_right _ _
  rw [← hn]
  have hsrc : (Builtin.firstCells sz n (.slice a2 l2 c2)).run P w = .ok (us.take (n * sz)).toArray w := by
    cases ha2 : a2 with
    | none =>
      subst ha2
      rcases hx with ⟨_, rfl, rfl, rfl, _⟩ | ⟨_, _, _, _, h, _⟩
      · simp [Builtin.firstCells]
      · cases h
    | some ad =>
      subst ha2
      have hl : (us.take (n * sz)).length = n * sz := by
        rw [List.length_take, hus]
        exact Nat.min_eq_left (Nat.mul_le_mul_right _ hn2)
      exact run_firstCells_some (P := P) w sz n ad l2 c2 _ hl (fun j v hj => by
        have hj1 := (List.getElem?_eq_some_iff.1 hj).1
        rw [List.length_take] at hj1
        rw [List.getElem?_take, if_pos (by omega)] at hj
        rw [hx.cell (by omega), hj])
  rcases hs with ⟨rfl, rfl, rfl, rfl, rfl⟩ | ⟨b, o, arr, T, rfl, rfl, hbk, hlc, hcap, hlen, hget⟩
  · have h0 : n = 0 := by omega
    subst h0
    refine ⟨w, ?_, by simpa using SlB.nil w sz, Mod.refl _ _⟩
    simp at hsrc
    simp [Builtin.copy_, run_underlying hu, sizeOf, typeInfo, hi, hsi, Builtin.lenOf, hsrc, goInt]
  · have hnl : (us.take (n * sz)).length = n * sz := by
      rw [List.length_take, hus]
      exact Nat.min_eq_left (Nat.mul_le_mul_right _ hn2)
    have hle : n * sz ≤ l * sz := Nat.mul_le_mul_right _ hn1
    have hlc' : l * sz ≤ c * sz := Nat.mul_le_mul_right _ hlc
    refine ⟨w.upd b (.cells (splice arr o (us.take (n * sz))) T (0, 0)), ?_, ?_, (Mod.refl _ _).upd (.inl (by simp)) _⟩
    · have hst := run_storeCells_upd (P := P) (b := b) (off := o) (T := T) (fr := (0, 0)) (us.take (n * sz)) 0 arr w hbk (by omega) (.inl (Nat.zero_le _)) (fun v hv => hc v (List.mem_of_mem_take hv))
      simp only [Nat.add_zero] at hst
      have hn' : l2.min l = n := hn.symm
      simp [Builtin.copy_, run_underlying hu, sizeOf, typeInfo, hi, hsi, Builtin.lenOf, hn', hsrc, hst, goInt]
    · refine .inr ⟨b, o, _, T, rfl, rfl, upd_same hbk, hlc, by rw [splice_size]; exact hcap, by rw [List.length_append, hnl, List.length_drop, hlen]; omega, ?_⟩
      intro j hj
      rw [List.length_append, hnl, List.length_drop, hlen] at hj
      rw [splice_get, hnl]
      by_cases hjl : j < n * sz
      · rw [if_pos ⟨by omega, by omega, by omega⟩, List.getElem?_append_left (by omega)]
        congr 1
        omega
      · rw [if_neg (by omega), List.getElem?_append_right (by omega), List.getElem?_drop, hnl, hget j (by omega)]
        congr 1
        omega

/-- **copy**, the world written out. -/
theorem copy_at {P : Program} {t t2 e sz bys : Nat} {z : Value} (hT : SlT P t e sz bys z) {w : World} {b o : Nat} {arr : Array Value} {T : TypeId} (hbk : w.heap[b]? = some (.cells arr T (0, 0))) {l c : Nat} (hcap : o + l * sz ≤ arr.size)
    {a2 : Option Addr} {l2 c2 : Nat} {us : List Value} {G : List Nat} (hx : SlB w a2 l2 c2 sz us G) (hc : ∀ u ∈ us, isCell u = true) (ty : TypeId) :
    (Builtin.copy_ #[t, t2] ty #[.slice (some ⟨b, o, none⟩) l c, .slice a2 l2 c2]).run P w = .ok (.int .i64 ((Nat.min l2 l : Nat) : Int)) (w.upd b (.cells (splice arr o (us.take (Nat.min l2 l * sz))) T (0, 0))) := by
  obtain ⟨hu, i, hi, hz, hsi, hby, hzs⟩ := hT
  have hus := hx.length
  obtain ⟨n, hn⟩ : ∃ n, n = Nat.min l2 l := ⟨_, rfl⟩
  have hn2 : n ≤ l2 := by rw [hn]; exact Nat.min_le_left _ _
  have hn1 : n ≤ l := by rw [hn]; exact Nat.min_le_right _ _
  rw [← hn]
  have hnl : (us.take (n * sz)).length = n * sz := by
    rw [List.length_take, hus]
    exact Nat.min_eq_left (Nat.mul_le_mul_right _ hn2)
  have hle : n * sz ≤ l * sz := Nat.mul_le_mul_right _ hn1
  have hsrc : (Builtin.firstCells sz n (.slice a2 l2 c2)).run P w = .ok (us.take (n * sz)).toArray w := by
    cases ha2 : a2 with
    | none =>
      subst ha2
      rcases hx with ⟨_, rfl, rfl, rfl, _⟩ | ⟨_, _, _, _, h, _⟩
      · simp [Builtin.firstCells]
      · cases h
    | some ad =>
      subst ha2
      exact run_firstCells_some (P := P) w sz n ad l2 c2 _ hnl (fun j v hj => by
        have hj1 := (List.getElem?_eq_some_iff.1 hj).1
        rw [List.length_take] at hj1
        rw [List.getElem?_take, if_pos (by omega)] at hj
        rw [hx.cell (by omega), hj])
  have hst := run_storeCells_upd (P := P) (b := b) (off := o) (T := T) (fr := (0, 0)) (us.take (n * sz)) 0 arr w hbk (by omega) (.inl (Nat.zero_le _)) (fun v hv => hc v (List.mem_of_mem_take hv))
  simp only [Nat.add_zero] at hst
  have hn' : l2.min l = n := hn.symm
  simp [Builtin.copy_, run_underlying hu, sizeOf, typeInfo, hi, hsi, Builtin.lenOf, hn', hsrc, hst, goInt]

/-- A row, some of whose cells were written. -/
theorem SlB.splice {w : World} {b o : Nat} {arr : Array Value} {T : TypeId} {l c sz : Nat} {vs us : List Value} (h : SlB w (some ⟨b, o, none⟩) l c sz vs [b]) (hb : w.heap[b]? = some (.cells arr T (0, 0))) {j : Nat} (hj : j + us.length ≤ vs.length) :
    SlB (w.upd b (.cells (Go.Den.splice arr (o + j) us) T (0, 0))) (some ⟨b, o, none⟩) l c sz (vs.take j ++ us ++ vs.drop (j + us.length)) [b] := by
  rcases h with ⟨h, _⟩ | ⟨b', o', arr', T', ha, _, hb', hlc, hcap, hlen, hget⟩
  · cases h
  · cases ha
    rw [hb] at hb'
    cases hb'
    have hcl : l * sz ≤ c * sz := Nat.mul_le_mul_right _ hlc
    refine .inr ⟨b, o, _, T, rfl, rfl, upd_same hb, hlc, by rw [splice_size]; exact hcap, by simp; omega, ?_⟩
    intro i hi
    have hi' : i < vs.length := by simp at hi; omega
    rw [splice_get]
    by_cases h1 : i < j
    · rw [if_neg (by omega), List.append_assoc, List.getElem?_append_left (by simp; omega), List.getElem?_take, if_pos h1]
      exact hget i hi'
    · by_cases h2 : i < j + us.length
      · rw [if_pos ⟨by omega, by omega, by omega⟩, List.append_assoc, List.getElem?_append_right (by simp; omega), List.getElem?_append_left (by simp; omega)]
        congr 1
        simp
        omega
      · rw [if_neg (by omega), List.getElem?_append_right (by simp; omega), List.getElem?_drop, hget i hi']
        congr 1
        simp
        omega

theorem SlB.set {w : World} {b o : Nat} {arr : Array Value} {T : TypeId} {l c sz : Nat} {vs : List Value} (h : SlB w (some ⟨b, o, none⟩) l c sz vs [b]) (hb : w.heap[b]? = some (.cells arr T (0, 0))) {j : Nat} (hj : j < vs.length) (v : Value) :
    SlB (w.upd b (.cells (arr.setIfInBounds (o + j) v) T (0, 0))) (some ⟨b, o, none⟩) l c sz (vs.set j v) [b] := by
  have := h.splice hb (j := j) (us := [v]) (by simp; omega)
  simp only [splice_cons, splice_nil, List.length_singleton] at this
  rw [List.append_assoc, List.singleton_append] at this
  rwa [List.set_eq_take_append_cons_drop, if_pos hj]

/-- The block of a row that is there. -/
theorem SlB.block {w : World} {b o l c sz : Nat} {vs : List Value} {F : List Nat} (h : SlB w (some ⟨b, o, none⟩) l c sz vs F) : ∃ arr T, w.heap[b]? = some (.cells arr T (0, 0)) ∧ o + c * sz ≤ arr.size ∧ F = [b] := by
  rcases h with ⟨h, _⟩ | ⟨b', o', arr', T', ha, hF, hb', hlc, hcap, hlen, hget⟩
  · cases h
  · cases ha; exact ⟨arr', T', hb', hcap, hF⟩

/-- The cells of a new row. -/
def zrow (z : Value) (n : Nat) : List Value := (List.range n).map fun i => z.cells.toList.getD (i % z.cells.toList.length) default

theorem zrow_one {z : Value} (h : z.cells = #[z]) (n : Nat) : zrow z n = List.replicate n z := by
  unfold zrow
  apply List.ext_getElem?
  intro i
  simp only [List.getElem?_map, List.getElem?_range, List.getElem?_replicate, h]
  by_cases hi : i < n
  · simp [hi, Nat.mod_one]
  · simp [hi]

theorem w64 {n : Int} (h0 : -9223372036854775808 ≤ n) (h : n ≤ 9223372036854775807) : IntKind.i64.wrap n = n := by rw [IntKind.wrap_i64]; omega
theorem wu64 {n : Int} (h0 : 0 ≤ n) (h : n < 18446744073709551616) : IntKind.u64.wrap n = n := by rw [IntKind.wrap_u64]; omega

/-- **make([]T, n)**. -/
theorem makeSlice_run {P : Program} {t e sz bys : Nat} {z : Value} (hT : SlT P t e sz bys z) (w : World) {k k' : IntKind} {l c : Nat} (hlc : l ≤ c) (hb : c * bys ≤ 281474976710656) (hc : c ≤ 4611686018427387904) :
    ∃ w', (Instr.makeSlice t (.int k (l : Int)) (.int k' (c : Int))).run P w = .ok (.slice (some ⟨w.heap.size, 0, none⟩) l c) w' ∧ SlB w' (some ⟨w.heap.size, 0, none⟩) l c sz (zrow z (l * sz)) [w.heap.size] ∧ Mod [] w w' := by
  obtain ⟨hu, i, hi, hz, hsi, hby, hzs⟩ := hT
  have e2 : madeCells z.cells (c * sz) = (zrow z (c * sz)).toArray := by
    apply Array.ext'
    simp only [madeCells, Array.toList_map, Array.toList_range, zrow]
    apply List.map_congr_left
    intro j _
    simp [Array.getElem!_eq_getD]
  refine ⟨w.alloc (.cells (zrow z (c * sz)).toArray e), ?_, ?_, (Mod.refl _ _).alloc _⟩
  · have h4 : (i.bytes : Int) * (c : Int) ≤ 281474976710656 := by
      rw [hby]
      have : bys * c ≤ 281474976710656 := by rw [Nat.mul_comm]; exact hb
      have h5 : ((bys * c : Nat) : Int) ≤ 281474976710656 := by omega
      rwa [Int.natCast_mul] at h5
    have := run_make (P := P) w t e i z hu hi hz k k' (l : Int) (c : Int) (by omega) (by omega) h4 (by omega)
    rw [this, hsi]
    simp only [Int.toNat_natCast, e2]
  · refine .inr ⟨w.heap.size, 0, _, e, rfl, rfl, alloc_new w _, hlc, by simp [zrow], by simp [zrow], ?_⟩
    intro j hj
    simp only [zrow, List.length_map, List.length_range] at hj
    have hlt : j < c * sz := Nat.lt_of_lt_of_le hj (Nat.mul_le_mul_right _ hlc)
    simp [zrow, hj, hlt]

/-- A slice expression on a row. -/
theorem slK_of {w : World} {a : Option Addr} {l c sz : Nat} {vs : List Value} {F : List Nat} (hs : SlB w a l c sz vs F) {lo hi mx : Option Int} {L H M : Nat} {K : Option Addr → Nat → Nat → Prop}
    (hlo : lo = some (L : Int) ∨ (lo = none ∧ L = 0)) (hhi : hi = some (H : Int) ∨ (hi = none ∧ H = l)) (hmx : (mx = some (M : Int) ∧ hi = some (H : Int)) ∨ (mx = none ∧ M = c)) (h1 : L ≤ H) (h2 : H ≤ l) (h3 : H ≤ M) (h4 : M ≤ c)
    (hK : ∀ a', a' = slA a M L sz → SlB w a' (H - L) (M - L) sz ((vs.drop (L * sz)).take ((H - L) * sz)) F → K a' (H - L) (M - L)) : slK a l c sz lo hi mx K := by
  have eL : sM lo 0 = L := by rcases hlo with rfl | ⟨rfl, rfl⟩ <;> simp [sM]
  have eH : sM hi l = H := by rcases hhi with rfl | ⟨rfl, rfl⟩ <;> simp [sM]
  have eM : sM mx c = M := by rcases hmx with ⟨rfl, _⟩ | ⟨rfl, rfl⟩ <;> simp [sM]
  refine ⟨?_, ?_, ?_, ?_, ?_⟩
  · rcases hmx with ⟨rfl, _⟩ | ⟨rfl, _⟩ <;> simp [sOK]; omega
  · rcases hmx with ⟨rfl, rfl⟩ | ⟨rfl, _⟩ <;> simp
  · rw [eM]; rcases hhi with rfl | ⟨rfl, rfl⟩ <;> simp [sOK]; omega
  · rw [eH]; rcases hlo with rfl | ⟨rfl, rfl⟩ <;> simp [sOK]; omega
  · rw [eL, eH, eM]
    refine hK _ rfl ?_
    rcases hs with ⟨rfl, rfl, rfl, rfl, rfl⟩ | ⟨b, o, arr, T, rfl, rfl, hbk, hlc, hcap, hlen, hget⟩
    · have hL : L = 0 := by omega
      have hH : H = 0 := by omega
      have hM : M = 0 := by omega
      subst hL; subst hH; subst hM
      simp [slA]
      exact SlB.nil w sz
    · have m1 : L * sz ≤ M * sz := Nat.mul_le_mul_right _ (by omega)
      have m2 : M * sz ≤ c * sz := Nat.mul_le_mul_right _ h4
      have m3 : H * sz ≤ l * sz := Nat.mul_le_mul_right _ h2
      have m4 : L * sz ≤ H * sz := Nat.mul_le_mul_right _ h1
      have hln : ((vs.drop (L * sz)).take ((H - L) * sz)).length = (H - L) * sz := by
        rw [List.length_take, List.length_drop, hlen, Nat.sub_mul]; omega
      unfold slA
      by_cases he : M = L
      · rw [if_pos he]
        refine .inr ⟨b, o, arr, T, rfl, rfl, hbk, by omega, ?_, hln, ?_⟩
        · have : M - L = 0 := by omega
          rw [this]; omega
        · intro j hj
          rw [hln] at hj
          have : H - L = 0 := by omega
          rw [this] at hj
          omega
      · rw [if_neg he]
        refine .inr ⟨b, o + L * sz, arr, T, by simp, rfl, hbk, by omega, by rw [Nat.sub_mul]; omega, hln, ?_⟩
        intro j hj
        rw [hln, Nat.sub_mul] at hj
        rw [List.getElem?_take, if_pos (by rw [Nat.sub_mul]; exact hj), List.getElem?_drop, Nat.add_assoc, hget _ (by omega)]

theorem wrap_mul_nat {a b : Nat} (h : a * b ≤ 9223372036854775807) : IntKind.i64.wrap ((a : Int) * (b : Int)) = ((a * b : Nat) : Int) := by
  have : ((a * b : Nat) : Int) = (a : Int) * (b : Int) := by simp
  rw [← this, w64 (by omega) (by omega)]
theorem nat_of {n : Int} (h : 0 ≤ n) : ∃ k : Nat, n = (k : Int) := ⟨n.toNat, by omega⟩

end Go.Den
