/-
  Maps with keys of type int: what 'm[k]', 'm[k] = v' and 'delete(m, k)' do.
  '==' of structs whose fields are numbers, bools and texts.
  A state of several parts that lie apart.
  'clear' of a row; 'slices.Clone'.
  A block of pointers, each nil or to a block of its own; behind them other cells.
  Rows of elements that are each the same number of cells.
  A state of several parts: local variables, whatever their type's number.
  What is made of several parts that lie apart, as one part; a family of parts.
  Rising rows of numbers: one more where it belongs; what has the same numbers is the same.
  Rows of words and of ints: their cells.
-/
import Derived.Test.YthpcakhhemdibaaGreatDenB
import Derived.MapKept
import Derived.ChangeKeysEq
import Derived.Laws.StructEq
set_option linter.unusedVariables false
set_option linter.unusedSimpArgs false
namespace Go.Den
open Go

abbrev KV := List (Int × Value)
def mlook : KV → Int → Option Value
  | [], _ => none
  | p :: ps, k => if p.1 = k then some p.2 else mlook ps k
def mput : KV → Int → Value → KV
  | [], k, v => [(k, v)]
  | p :: ps, k, v => if p.1 = k then (k, v) :: ps else p :: mput ps k v
def mdel : KV → Int → KV
  | [], _ => []
  | p :: ps, k => if p.1 = k then ps else p :: mdel ps k
def mkeys (l : KV) : List Int := l.map (·.1)

theorem mlook_mput : ∀ (l : KV) (k : Int) (v : Value) (k' : Int), mlook (mput l k v) k' = if k = k' then some v else mlook l k'
  | [], k, v, k' => rfl
  | p :: ps, k, v, k' => by
    unfold mput
    by_cases h : p.1 = k
    · simp only [h, if_true, mlook]
      by_cases h' : k = k' <;> simp [h']
    · simp only [h, if_false, mlook, mlook_mput ps k v k']
      by_cases h' : p.1 = k'
      · have : k ≠ k' := fun e => h (h'.trans e.symm)
        simp [h', this]
      · simp [h']
theorem mlook_none {l : KV} {k : Int} : mlook l k = none ↔ k ∉ mkeys l := by
  induction l with
  | nil => simp [mlook, mkeys]
  | cons p ps ih =>
    simp only [mlook, mkeys, List.map_cons, List.mem_cons, not_or]
    by_cases h : p.1 = k
    · simp [h]
    · simp only [h, if_false, ih, mkeys]
      exact ⟨fun h' => ⟨fun e => h e.symm, h'⟩, fun h' => h'.2⟩
theorem mlook_mdel : ∀ {l : KV}, (mkeys l).Nodup → ∀ (k k' : Int), mlook (mdel l k) k' = if k = k' then none else mlook l k'
  | [], _, k, k' => by simp [mdel, mlook]
  | p :: ps, hn, k, k' => by
    simp only [mkeys, List.map_cons, List.nodup_cons] at hn
    unfold mdel
    by_cases h : p.1 = k
    · simp only [h, if_true, mlook]
      by_cases h' : k = k'
      · subst h'
        rw [if_pos rfl]
        exact mlook_none.2 (h ▸ hn.1)
      · simp [h']
    · simp only [h, if_false, mlook, mlook_mdel hn.2 k k']
      by_cases h' : p.1 = k'
      · have : k ≠ k' := fun e => h (h'.trans e.symm)
        simp [h', this]
      · simp [h']
theorem mem_mput {l : KV} {k : Int} {v : Value} {x : Int} : x ∈ mkeys (mput l k v) ↔ x = k ∨ x ∈ mkeys l := by
  induction l with
  | nil => simp [mput, mkeys]
  | cons p ps ih =>
    unfold mput
    by_cases h : p.1 = k
    · simp [h, mkeys]
    · simp only [h, if_false, mkeys, List.map_cons, List.mem_cons] at ih ⊢
      rw [ih]
      constructor
      · rintro (h | h | h) <;> simp [h]
      · rintro (h | h | h) <;> simp [h]
theorem nodup_mput {l : KV} (h : (mkeys l).Nodup) (k : Int) (v : Value) : (mkeys (mput l k v)).Nodup := by
  induction l with
  | nil => simp [mput, mkeys]
  | cons p ps ih =>
    simp only [mkeys, List.map_cons, List.nodup_cons] at h
    unfold mput
    by_cases hk : p.1 = k
    · simp only [hk, if_true, mkeys, List.map_cons, List.nodup_cons]
      exact ⟨hk ▸ h.1, h.2⟩
    · simp only [hk, if_false, mkeys, List.map_cons, List.nodup_cons]
      refine ⟨fun hm => ?_, ih h.2⟩
      rcases mem_mput.1 hm with h' | h'
      · exact hk h'
      · exact h.1 h'
theorem mem_mdel {l : KV} {k x : Int} (h : x ∈ mkeys (mdel l k)) : x ∈ mkeys l := by
  induction l with
  | nil => simpa [mdel] using h
  | cons p ps ih =>
    unfold mdel at h
    by_cases hk : p.1 = k
    · simp only [hk, if_true] at h
      exact List.mem_cons_of_mem _ h
    · simp only [hk, if_false, mkeys, List.map_cons, List.mem_cons] at h ⊢
      exact h.imp id ih
theorem nodup_mdel {l : KV} (h : (mkeys l).Nodup) (k : Int) : (mkeys (mdel l k)).Nodup := by
  induction l with
  | nil => simp [mdel, mkeys]
  | cons p ps ih =>
    simp only [mkeys, List.map_cons, List.nodup_cons] at h
    unfold mdel
    by_cases hk : p.1 = k
    · simp only [hk, if_true]; exact h.2
    · simp only [hk, if_false, mkeys, List.map_cons, List.nodup_cons]
      exact ⟨fun hm => h.1 (mem_mdel hm), ih h.2⟩

def EntsOk (es : List MapEntry) (l : KV) : Prop := es.map (fun e => (e.key, e.val)) = l.map fun p => (Value.int .i64 p.1, p.2)

/-- The map at block 'm' has the entries 'l'. -/
def MapP (w : World) (m : Nat) (l : KV) : Prop := ∃ (es : Array MapEntry) (clock : Nat), w.heap[m]? = some (.map es clock) ∧ EntsOk es.toList l ∧ (mkeys l).Nodup ∧ MapKept.Stamped es clock

theorem MapP.keep {w w' : World} {m : Nat} {l : KV} (h : MapP w m l) (hk : w'.heap[m]? = w.heap[m]?) : MapP w' m l := by
  obtain ⟨es, c, h1, h2⟩ := h
  exact ⟨es, c, hk.trans h1, h2⟩
theorem MapP.lt {w : World} {m : Nat} {l : KV} (h : MapP w m l) : m < w.heap.size := by
  obtain ⟨es, c, h1, h2⟩ := h
  exact lt_of_get h1
theorem MapP.new (w : World) : MapP (w.alloc (.map #[] 0)) w.heap.size [] := ⟨#[], 0, alloc_new w _, rfl, by simp [mkeys], MapKept.stamped_empty 0⟩

theorem find_now : ∀ {es : List MapEntry} {l : KV} (k : Int) (i : Nat), EntsOk es l →
    (mlook l k = none ∧ Instr.findNow (.int .i64) (.int .i64 k) es i = some none) ∨
    ∃ ea e eb a v b, es = ea ++ e :: eb ∧ l = a ++ (k, v) :: b ∧ ea.length = a.length ∧ EntsOk ea a ∧ EntsOk eb b ∧ e.key = .int .i64 k ∧ e.val = v ∧ (∀ p ∈ a, p.1 ≠ k) ∧ mlook l k = some v ∧ Instr.findNow (.int .i64) (.int .i64 k) es i = some (some (i + a.length, v))
  | [], [], k, i, _ => .inl ⟨rfl, rfl⟩
  | e :: es, [], k, i, h => by simp [EntsOk] at h
  | [], p :: l, k, i, h => by simp [EntsOk] at h
  | e :: es, p :: l, k, i, h => by
    simp only [EntsOk, List.map_cons, List.cons.injEq, Prod.mk.injEq] at h
    obtain ⟨⟨hk, hv⟩, h⟩ := h
    by_cases hp : p.1 = k
    · refine .inr ⟨[], e, es, [], p.2, l, rfl, by rw [← hp]; rfl, rfl, rfl, h, by rw [hk, hp], hv, by simp, by simp [mlook, hp], ?_⟩
      simp [Instr.findNow, Instr.sameNow, hk, hp, hv]
    · have hkp : (k == p.1) = false := by simpa using fun e => hp e.symm
      rcases find_now k (i + 1) h with ⟨h1, h2⟩ | ⟨ea, e', eb, a, v, b, h1, h2, h3, h4, h5, h6, h7, h8, h9, h10⟩
      · exact .inl ⟨by simp [mlook, hp, h1], by simp [Instr.findNow, Instr.sameNow, hk, hkp, h2]⟩
      · refine .inr ⟨e :: ea, e', eb, p :: a, v, b, by rw [h1]; rfl, by rw [h2]; rfl, by simp [h3], ?_, h5, h6, h7, ?_, by simp [mlook, hp, h9], ?_⟩
        · simp only [EntsOk, List.map_cons, hk, hv]
          rw [show ea.map (fun e => (e.key, e.val)) = _ from h4]
        · intro q hq
          simp only [List.mem_cons] at hq
          rcases hq with rfl | hq
          · exact hp
          · exact h8 q hq
        · simp [Instr.findNow, Instr.sameNow, hk, hkp, h10]
          omega

theorem mput_none {l : KV} {k : Int} (v : Value) (h : mlook l k = none) : mput l k v = l ++ [(k, v)] := by
  induction l with
  | nil => rfl
  | cons p ps ih =>
    simp only [mlook] at h
    split at h
    · cases h
    · rename_i hp
      simp only [mput, hp, if_false, ih h, List.cons_append]
theorem mput_mid {a b : KV} {k : Int} {v : Value} (u : Value) (h : ∀ p ∈ a, p.1 ≠ k) : mput (a ++ (k, v) :: b) k u = a ++ (k, u) :: b := by
  induction a with
  | nil => simp [mput]
  | cons p ps ih =>
    have hp := h p (by simp)
    simp only [List.cons_append, mput, hp, if_false, ih fun q hq => h q (by simp [hq])]
theorem mdel_none {l : KV} {k : Int} (h : mlook l k = none) : mdel l k = l := by
  induction l with
  | nil => rfl
  | cons p ps ih =>
    simp only [mlook] at h
    split at h
    · cases h
    · rename_i hp
      simp only [mdel, hp, if_false, ih h]
theorem mdel_mid {a b : KV} {k : Int} {v : Value} (h : ∀ p ∈ a, p.1 ≠ k) : mdel (a ++ (k, v) :: b) k = a ++ b := by
  induction a with
  | nil => simp [mdel]
  | cons p ps ih =>
    have hp := h p (by simp)
    simp only [List.cons_append, mdel, hp, if_false, ih fun q hq => h q (by simp [hq])]

theorem modify_mid {α : Type} (f : α → α) : ∀ (a : List α) (e : α) (b : List α), (a ++ e :: b).modify a.length f = a ++ f e :: b
  | [], e, b => by simp
  | x :: a, e, b => by simp [modify_mid f a e b]
theorem erase_mid {α : Type} : ∀ (a : List α) (e : α) (b : List α), (a ++ e :: b).eraseIdx a.length = a ++ b
  | [], e, b => by simp
  | x :: a, e, b => by simp [erase_mid a e b]

theorem ents_key {es : List MapEntry} {l : KV} (h : EntsOk es l) {k : Int} (hk : mlook l k = none) : ∀ x ∈ es, x.key ≠ .int .i64 k := fun x hx he => by
  have h1 : (x.key, x.val) ∈ es.map fun e => (e.key, e.val) := List.mem_map.2 ⟨x, hx, rfl⟩
  rw [show es.map (fun e => (e.key, e.val)) = _ from h] at h1
  obtain ⟨p, hp, hp2⟩ := List.mem_map.1 h1
  have e1 : Value.int .i64 p.1 = .int .i64 k := (congrArg Prod.fst hp2).trans he
  have e2 : p.1 = k := by cases e1; rfl
  exact mlook_none.1 hk (e2 ▸ List.mem_map.2 ⟨p, hp, rfl⟩)

/-- What a map type's number says. -/
def MapT (P : Program) (t k e : TypeId) (z : Value) : Prop := P.underlying t = some (.map k e) ∧ P.underlying k = some (.int .i64) ∧ ∃ i, P.info? e = some i ∧ i.zero = some z

theorem key_ok (k : Int) : MapKept.IsKey (.int .i64) (.int .i64 k) := by simp [MapKept.IsKey]

theorem lookup_run {P : Program} {t kt et : TypeId} {z : Value} (hT : MapT P t kt et z) {w : World} {m : Nat} {l : KV} (h : MapP w m l) (k : Int) :
    (Instr.lookup t (.map (some m)) (.int .i64 k) true).run P w = .ok (.tuple #[(mlook l k).getD z, .bool (mlook l k).isSome]) w ∧
    (Instr.lookup t (.map (some m)) (.int .i64 k) false).run P w = .ok ((mlook l k).getD z) w := by
  obtain ⟨hu, hk, i, hi, hz⟩ := hT
  obtain ⟨es, c, hm, hes, hn, hsp⟩ := h
  have hck : ∀ em, (Instr.checkKey em 10000 kt (.int .i64 k)).run P w = .ok () w := fun em => MapKept.run_checkKey hk (key_ok k) em 9999
  have hzr : (zeroValue et).run P w = .ok z w := by simp [zeroValue, typeInfo, hi, hz]
  rcases find_now k 0 hes with ⟨h1, h2⟩ | ⟨ea, e, eb, a, v, b, -, -, -, -, -, -, -, -, h1, h2⟩
  · simp [Instr.lookup, run_underlying hu, MapKept.run_getObj_map hm, hck, MapKept.run_findKey hk h2, hzr, h1]
  · simp [Instr.lookup, run_underlying hu, MapKept.run_getObj_map hm, hck, MapKept.run_findKey hk h2, h1]

theorem mapUpdate_run {P : Program} {t kt et : TypeId} {z : Value} (hT : MapT P t kt et z) {w : World} {m : Nat} {l : KV} (h : MapP w m l) (k : Int) (v : Value) :
    ∃ w', (Instr.mapUpdate t (.map (some m)) (.int .i64 k) v).run P w = .ok () w' ∧ MapP w' m (mput l k v) ∧ Mod [m] w w' := by
  obtain ⟨hu, hk, i, hi, hz⟩ := hT
  obtain ⟨es, c, hm, hes, hn, hsp⟩ := h
  have hck : ∀ em, (Instr.checkKey em 10000 kt (.int .i64 k)).run P w = .ok () w := fun em => MapKept.run_checkKey hk (key_ok k) em 9999
  have hmod : ∀ o, Mod [m] w (w.upd m o) := fun o => (Mod.refl _ _).upd (.inl (by simp)) _
  rcases find_now k 0 hes with ⟨h1, h2⟩ | ⟨ea, e, eb, a, u, b, h3, h4, h5, h6, h7, h8, h9, h10, h1, h2⟩
  · refine ⟨w.upd m (.map (es.push { key := .int .i64 k, val := v, born := c }) (c + 1)), ?_, ⟨_, _, upd_same hm, ?_, nodup_mput hn k v, MapKept.stamped_push hsp (ents_key hes h1)⟩, hmod _⟩
    · simp [Instr.mapUpdate, run_underlying hu, MapKept.run_getObj_map hm, hck, MapKept.run_findKey hk h2, MapKept.run_setObj_map _ hm, World.upd]
    · rw [mput_none v h1]
      simp only [EntsOk, Array.toList_push, List.map_append, List.map_cons, List.map_nil]
      rw [show es.toList.map (fun e => (e.key, e.val)) = _ from hes]
  · have hi : es[0 + a.length]? = some e := by
      have : es.toList[0 + a.length]? = some e := by rw [h3, Nat.zero_add, ← h5]; simp
      simpa using this
    have hst : (Instr.keyThatStays (.int .i64 k) (.int .i64 k)).run P w = .ok (.int .i64 k) w := by simp [Instr.keyThatStays, Instr.sameBits]
    refine ⟨w.upd m (.map (es.modify (0 + a.length) fun e => { e with key := .int .i64 k, val := v }) c), ?_, ⟨_, _, upd_same hm, ?_, nodup_mput hn k v, MapKept.stamped_modify hsp _ _ (fun _ _ => rfl) (fun e' _ he' => by rw [hi] at he'; cases he'; exact h8.symm)⟩, hmod _⟩
    · simp only [Instr.mapUpdate, Sem.run_bind, run_underlying hu, MapKept.run_getObj_map hm, hck, MapKept.run_findKey hk h2, Result.andThen_ok, hi, Option.map_some, Option.getD_some, h8, hst, MapKept.run_setObj_map _ hm, World.upd]
    · rw [h4, mput_mid v h10]
      have e1 : (es.modify (0 + a.length) fun e => { e with key := .int .i64 k, val := v }).toList = ea ++ { e with key := .int .i64 k, val := v } :: eb := by
        rw [Array.toList_modify, h3, Nat.zero_add, ← h5, modify_mid]
      simp only [EntsOk, e1, List.map_append, List.map_cons]
      rw [show ea.map (fun e => (e.key, e.val)) = _ from h6, show eb.map (fun e => (e.key, e.val)) = _ from h7]

theorem delete_run {P : Program} {t kt et ty : TypeId} {z : Value} (hT : MapT P t kt et z) {w : World} {m : Nat} {l : KV} (h : MapP w m l) (k : Int) (t2 : TypeId) :
    ∃ w', (Builtin.delete_ #[t, t2] ty #[.map (some m), .int .i64 k]).run P w = .ok (.tuple #[]) w' ∧ MapP w' m (mdel l k) ∧ Mod [m] w w' := by
  obtain ⟨hu, hk, i, hi, hz⟩ := hT
  obtain ⟨es, c, hm, hes, hn, hsp⟩ := h
  have hck : ∀ em, (Instr.checkKey em 10000 kt (.int .i64 k)).run P w = .ok () w := fun em => MapKept.run_checkKey hk (key_ok k) em 9999
  have hmod : ∀ o, Mod [m] w (w.upd m o) := fun o => (Mod.refl _ _).upd (.inl (by simp)) _
  rcases find_now k 0 hes with ⟨h1, h2⟩ | ⟨ea, e, eb, a, u, b, h3, h4, h5, h6, h7, h8, h9, h10, h1, h2⟩
  · refine ⟨w.upd m (.map es c), ?_, ⟨_, _, upd_same hm, by rw [mdel_none h1]; exact hes, nodup_mdel hn k, hsp⟩, hmod _⟩
    simp [Builtin.delete_, run_underlying hu, MapKept.run_getObj_map hm, hck, MapKept.run_findKey hk h2, MapKept.run_setObj_map _ hm, World.upd]
  · refine ⟨w.upd m (.map (es.eraseIdxIfInBounds (0 + a.length)) c), ?_, ⟨_, _, upd_same hm, ?_, nodup_mdel hn k, MapKept.stamped_erase hsp _⟩, hmod _⟩
    · simp [Builtin.delete_, run_underlying hu, MapKept.run_getObj_map hm, hck, MapKept.run_findKey hk h2, MapKept.run_setObj_map _ hm, World.upd]
    · rw [h4, mdel_mid h10]
      have e1 : (es.eraseIdxIfInBounds (0 + a.length)).toList = ea ++ eb := by
        rw [Array.toList_eraseIdxIfInBounds, h3, Nat.zero_add, ← h5, erase_mid]
      simp only [EntsOk, e1, List.map_append]
      rw [show ea.map (fun e => (e.key, e.val)) = _ from h6, show eb.map (fun e => (e.key, e.val)) = _ from h7]

/-! ### The same, as the printed forms ask for them -/

theorem lookup_K {P : Program} {t kt et : TypeId} {z : Value} (hT : MapT P t kt et z) {w : World} {m : Nat} {l : KV} (h : MapP w m l) {k : Int} {K : Value → Prop} (hK : K (.tuple #[(mlook l k).getD z, .bool (mlook l k).isSome])) :
    runQ ((Instr.lookup t (.map (some m)) (.int .i64 k) true).run P w) w K := ⟨_, (lookup_run hT h k).1, hK⟩
theorem lookup1_K {P : Program} {t kt et : TypeId} {z : Value} (hT : MapT P t kt et z) {w : World} {m : Nat} {l : KV} (h : MapP w m l) {k : Int} {K : Value → Prop} (hK : K ((mlook l k).getD z)) :
    runQ ((Instr.lookup t (.map (some m)) (.int .i64 k) false).run P w) w K := ⟨_, (lookup_run hT h k).2, hK⟩
theorem mapUpdate_K {P : Program} {t kt et : TypeId} {z : Value} (hT : MapT P t kt et z) {w : World} {m : Nat} {l : KV} (h : MapP w m l) {k : Int} {v : Value} {K : Unit → World → Prop} (hK : ∀ w', MapP w' m (mput l k v) → Mod [m] w w' → K () w') :
    runK ((Instr.mapUpdate t (.map (some m)) (.int .i64 k) v).run P w) K := by
  obtain ⟨w', hr, h1, h2⟩ := mapUpdate_run hT h k v
  exact ⟨_, _, hr, hK w' h1 h2⟩
theorem delete_K {P : Program} {t kt et ty t2 : TypeId} {z : Value} (hT : MapT P t kt et z) {w : World} {m : Nat} {l : KV} (h : MapP w m l) {k : Int} {K : Value → World → Prop} (hK : ∀ w', MapP w' m (mdel l k) → Mod [m] w w' → K (.tuple #[]) w') :
    runK ((Builtin.delete_ #[t, t2] ty #[.map (some m), .int .i64 k]).run P w) K := by
  obtain ⟨w', hr, h1, h2⟩ := delete_run hT h k t2 (ty := ty)
  exact ⟨_, _, hr, hK w' h1 h2⟩

end Go.Den

set_option linter.unusedSimpArgs false
namespace Go.Den
open Go

def shOK : Option TypeDesc → Sh → Bool
  | some (.int k), .int k' => k == k'
  | some .bool, .bool => true
  | some .string, .str => true
  | _, _ => false

def flatF (P : Program) : Nat → List Field → List Sh → Bool
  | _, [], [] => true
  | o, f :: fs, s :: ss => f.offset == o && f.name != "_" && P.plainKey f.type && shOK (P.underlying f.type) s && flatF P (o + 1) fs ss
  | _, _, _ => false

/-- A struct type of such fields. -/
def EqT (P : Program) (t : TypeId) (ss : List Sh) : Prop := P.underlying t = some (.struct (P.fieldsOf t)) ∧ P.stoodInHeld t = false ∧ flatF P 0 (P.fieldsOf t).toList ss = true

def matchS : Sh → Value → Prop
  | .int k, .int k' _ => k = k'
  | .bool, .bool _ => True
  | .str, .string _ => True
  | _, _ => False
def matchL : List Sh → List Value → Prop
  | [], [] => True
  | s :: ss, v :: vs => matchS s v ∧ matchL ss vs
  | _, _ => False

theorem cellsEq_cons (x y : Value) (xs ys : List Value) : cellsEq (x :: xs) (y :: ys) = (cellEq x y && cellsEq xs ys) := by
  cases xs with
  | nil => simp [cellsEq]
  | cons z zs => simp [cellsEq]

theorem eqFields_run {P : Program} {d : Nat} {X Y : Array Value} : ∀ (fs : List Field) (ss : List Sh) (xs ys : List Value) (o : Nat) (w : World), flatF P o fs ss = true → X.toList.drop o = xs → Y.toList.drop o = ys → matchL ss xs → matchL ss ys →
    (Op.eqFields (d + 1) X Y fs).run P w = .ok (cellsEq xs ys) w
  | [], [], [], [], o, w, _, _, _, _, _ => by simp [Op.eqFields, cellsEq]
  | [], [], [], y :: ys, o, w, _, _, _, _, h => by simp [matchL] at h
  | [], [], x :: xs, ys, o, w, _, _, _, h, _ => by simp [matchL] at h
  | [], s :: ss, xs, ys, o, w, h, _, _, _, _ => by simp [flatF] at h
  | f :: fs, [], xs, ys, o, w, h, _, _, _, _ => by simp [flatF] at h
  | f :: fs, s :: ss, [], ys, o, w, _, _, _, h, _ => by simp [matchL] at h
  | f :: fs, s :: ss, x :: xs, [], o, w, _, _, _, _, h => by simp [matchL] at h
  | f :: fs, s :: ss, x :: xs, y :: ys, o, w, hf, hx, hy, hmx, hmy => by
    simp only [flatF, Bool.and_eq_true, beq_iff_eq, bne_iff_ne, ne_eq] at hf
    obtain ⟨⟨⟨⟨rfl, hn⟩, hp⟩, hs⟩, hf⟩ := hf
    have hx0 : X[f.offset]? = some x := by
      have := congrArg (·[0]?) hx
      simpa using this
    have hy0 : Y[f.offset]? = some y := by
      have := congrArg (·[0]?) hy
      simpa using this
    have hx1 : X.toList.drop (f.offset + 1) = xs := by
      have := congrArg List.tail hx
      simpa using this
    have hy1 : Y.toList.drop (f.offset + 1) = ys := by
      have := congrArg List.tail hy
      simpa using this
    have ih := fun w => eqFields_run (d := d) fs ss xs ys (f.offset + 1) w hf hx1 hy1 hmx.2 hmy.2
    have hc : (Op.equalIn (d + 1) f.type x y).run P w = .ok (cellEq x y) w := by
      cases hu : P.underlying f.type with
      | none => simp [hu, shOK] at hs
      | some u =>
        rw [hu] at hs
        cases u <;> cases s <;> simp [shOK] at hs
        · have h1 := hmx.1; have h2 := hmy.1
          cases x <;> cases y <;> simp [matchS] at h1 h2
          simp [Op.equalIn, run_underlying hu, cellEq]
        · subst hs
          have h1 := hmx.1; have h2 := hmy.1
          cases x <;> simp [matchS] at h1
          cases y <;> simp [matchS] at h2
          subst h1; subst h2
          simp [Op.equalIn, run_underlying hu, cellEq]
        · have h1 := hmx.1; have h2 := hmy.1
          cases x <;> cases y <;> simp [matchS] at h1 h2
          simp [Op.equalIn, run_underlying hu, cellEq]
    simp only [Op.eqFields, hn, ne_eq, not_false_eq_true, if_true, Sem.run_bind, run_part_plain w hp hx0, run_part_plain w hp hy0, Result.andThen_ok, hc]
    rw [cellsEq_cons]
    cases cellEq x y
    · simp
    · simpa using ih w

theorem eqAgg_K {P : Program} {t : TypeId} {ss : List Sh} (h : EqT P t ss) {xs ys : List Value} (hx : matchL ss xs) (hy : matchL ss ys) {K : Bool → Prop} (hK : K (cellsEq xs ys)) : eqAgg P t xs.toArray ys.toArray K := by
  obtain ⟨hu, hs, hf⟩ := h
  refine ⟨cellsEq xs ys, fun w => ?_, hK⟩
  have : Op.equal t (.agg xs.toArray) (.agg ys.toArray) = Op.equalIn (9998 + 1 + 1) t (.agg xs.toArray) (.agg ys.toArray) := rfl
  rw [this, run_equalIn_agg w _ t _ _ hu hs]
  exact eqFields_run _ ss xs ys 0 w hf rfl rfl hx hy

end Go.Den

set_option linter.unusedSimpArgs false
namespace Go.Den
open Go

structure Part where
  F : List Nat
  P : World → Prop
  keep : ∀ {w w' : World}, P w → (∀ b ∈ F, w'.heap[b]? = w.heap[b]?) → P w'
  lt : ∀ {w : World}, P w → ∀ b ∈ F, b < w.heap.size

/-- One block, as it is. -/
def blk (b : Nat) (o : Obj) : Part := ⟨[b], fun w => w.heap[b]? = some o, fun h k => (k b (by simp)).trans h, fun h c hc => by simp only [List.mem_singleton] at hc; subst hc; exact lt_of_get h⟩
/-- A row. -/
def sl (a : Option Addr) (l c sz : Nat) (vs : List Value) (F : List Nat) : Part := ⟨F, fun w => SlB w a l c sz vs F, fun h k => h.keep k, fun h => h.lt⟩

/-- Behind 'w0' nothing that was has turned; the parts 'l' are new, and lie apart. -/
def Sep (w0 w : World) (l : List Part) : Prop :=
  Mod [] w0 w ∧ (∀ (i : Nat) p, l[i]? = some p → p.P w ∧ Beyond w0.heap.size p.F) ∧ ∀ (i j : Nat) p q, i ≠ j → l[i]? = some p → l[j]? = some q → ∀ x ∈ p.F, x ∉ q.F

theorem Sep.mod {w0 w : World} {l : List Part} (h : Sep w0 w l) : Mod [] w0 w := h.1
theorem Sep.nil {w0 w : World} (h : Mod [] w0 w) : Sep w0 w [] := ⟨h, by simp, by simp⟩
theorem Sep.nth {w0 w : World} {l : List Part} (h : Sep w0 w l) (i : Nat) {p : Part} (hi : l[i]? = some p) : p.P w := (h.2.1 i p hi).1
theorem Sep.bey {w0 w : World} {l : List Part} (h : Sep w0 w l) (i : Nat) {p : Part} (hi : l[i]? = some p) : Beyond w0.heap.size p.F := (h.2.1 i p hi).2
theorem Sep.dj {w0 w : World} {l : List Part} (h : Sep w0 w l) (i j : Nat) {p q : Part} (hij : i ≠ j) (hi : l[i]? = some p) (hj : l[j]? = some q) : ∀ x ∈ p.F, x ∉ q.F := h.2.2 i j p q hij hi hj

theorem Sep.mod0 {w0 w w' : World} {l : List Part} (h : Sep w0 w l) (hm : Mod [] w w') : Sep w0 w' l :=
  ⟨h.1.trans' hm, fun i p hi => ⟨p.keep (h.nth i hi) (hm.at0 (p.lt (h.nth i hi))), h.bey i hi⟩, h.2.2⟩

/-- A part turns. -/
theorem Sep.step {w0 w w' : World} {l : List Part} (h : Sep w0 w l) (i : Nat) {p : Part} (hi : l[i]? = some p) (p' : Part) (hp : p'.P w') (hm : Mod p.F w w') (ho : Own w p.F p'.F) : Sep w0 w' (l.set i p') := by
  have hil : i < l.length := (List.getElem?_eq_some_iff.1 hi).1
  have hb := (h.bey i hi).own ho h.1.size
  have other : ∀ (j : Nat) q, i ≠ j → l[j]? = some q → q.P w' ∧ (∀ x ∈ p'.F, x ∉ q.F) := fun j q hij hj => by
    have hq := h.nth j hj
    obtain ⟨h1, h2⟩ := side hm (fun _ h => h) ho (q.lt hq) (h.dj i j hij hi hj)
    exact ⟨q.keep hq h1, h2⟩
  refine ⟨(h.bey i hi).mod h.1 hm, fun j q hj => ?_, fun j k q r hjk hj hk => ?_⟩
  · rw [List.getElem?_set] at hj
    by_cases hij : i = j
    · rw [if_pos hij, if_pos (by omega)] at hj
      obtain rfl := Option.some.inj hj
      exact ⟨hp, hb⟩
    · rw [if_neg hij] at hj
      exact ⟨(other j q hij hj).1, h.bey j hj⟩
  · rw [List.getElem?_set] at hj hk
    by_cases hij : i = j <;> by_cases hik : i = k
    · omega
    · rw [if_pos hij, if_pos (by omega)] at hj
      rw [if_neg hik] at hk
      obtain rfl := Option.some.inj hj
      exact (other k r hik hk).2
    · rw [if_pos hik, if_pos (by omega)] at hk
      rw [if_neg hij] at hj
      obtain rfl := Option.some.inj hk
      exact fun x hx hx' => (other j q hij hj).2 x hx' hx
    · rw [if_neg hij] at hj
      rw [if_neg hik] at hk
      exact h.dj j k hjk hj hk

/-- A part turns within its blocks. -/
theorem Sep.turn {w0 w w' : World} {l : List Part} (h : Sep w0 w l) (i : Nat) {p : Part} (hi : l[i]? = some p) (p' : Part) (hp : p'.P w') (hm : Mod p.F w w') (hF : p'.F = p.F := by rfl) : Sep w0 w' (l.set i p') :=
  h.step i hi p' hp hm (fun b hb => .inl (hF ▸ hb))

/-- One more part, laid behind 'w'. -/
theorem Sep.push {w0 w w' : World} {l : List Part} (h : Sep w0 w l) (q : Part) (hm : Mod [] w w') (hq : q.P w') (hF : Beyond w.heap.size q.F) : Sep w0 w' (q :: l) := by
  have h' := h.mod0 hm
  have ap : ∀ (j : Nat) r, l[j]? = some r → ∀ x ∈ q.F, x ∉ r.F := fun j r hj x hx hx' => by
    have := r.lt (h.nth j hj) x hx'
    have := hF x hx
    omega
  refine ⟨h'.1, fun i p hi => ?_, fun i j p r hij hi hj => ?_⟩
  · cases i with
    | zero =>
      obtain rfl := Option.some.inj hi
      exact ⟨hq, fun x hx => Nat.le_trans h.1.size (hF x hx)⟩
    | succ i => exact ⟨h'.nth i hi, h'.bey i hi⟩
  · cases i with
    | zero =>
      obtain rfl := Option.some.inj hi
      cases j with
      | zero => omega
      | succ j => exact ap j r hj
    | succ i =>
      cases j with
      | zero =>
        obtain rfl := Option.some.inj hj
        exact fun x hx hx' => ap i p hi x hx' hx
      | succ j => exact h.dj i j (by omega) hi hj

theorem Sep.pop {w0 w : World} {q : Part} {l : List Part} (h : Sep w0 w (q :: l)) : Sep w0 w l :=
  ⟨h.1, fun i p hi => h.2.1 (i + 1) p hi, fun i j p r hij hi hj => h.2.2 (i + 1) (j + 1) p r (by omega) hi hj⟩

theorem keepB1 {b : Nat} {w w' : World} (h : w'.heap[b]? = w.heap[b]?) : keepB [b] w w' := fun x hx => by
  simp only [List.mem_singleton] at hx
  subst hx
  exact h

theorem splice_all : ∀ (vs : List Value) (pre rest : List Value), vs.length = rest.length → splice (pre ++ rest).toArray pre.length vs = (pre ++ vs).toArray
  | [], pre, rest, h => by
    have : rest = [] := List.eq_nil_of_length_eq_zero (by simpa using h.symm)
    subst this
    rfl
  | v :: vs, pre, [], h => by simp at h
  | v :: vs, pre, r :: rest, h => by
    have := splice_all vs (pre ++ [v]) rest (by simpa using h)
    simp only [splice_cons, List.setIfInBounds_toArray]
    rw [List.set_append_right _ _ (Nat.le_refl _)]
    simp only [Nat.sub_self, List.set_cons_zero]
    simpa using this

/-- A new block. -/
theorem Sep.alloc {w0 w : World} {l : List Part} (h : Sep w0 w l) (o : Obj) : Sep w0 (w.alloc o) (blk w.heap.size o :: l) :=
  h.push (blk w.heap.size o) ((Mod.refl [] w).alloc o) (alloc_new w o) (by intro x hx; simp only [blk, List.mem_singleton] at hx; omega)

/-- A variable that is laid and written. -/
theorem Sep.stK {w0 w : World} {l : List Part} (h : Sep w0 w l) {vs : List Value} {zs : Array Value} {T : TypeId} {K : World → Prop} (hl : vs.length = zs.size)
    (hK : ∀ w', Sep w0 w' (blk w.heap.size (.cells vs.toArray T (0, 0)) :: l) → Mod [] w w' → K w') : stK ⟨w.heap.size, 0, none⟩ vs (w.alloc (.cells zs T)) K := by
  refine stK_of (alloc_new _ _) (by omega) ?_
  have e : splice zs 0 vs = vs.toArray := by
    have := splice_all vs [] zs.toList (by simpa using hl)
    simpa using this
  rw [e]
  have hm : Mod [] w ((w.alloc (.cells zs T)).upd w.heap.size (.cells vs.toArray T (0, 0))) := ((Mod.refl [] w).alloc _).upd (.inr (Nat.le_refl _)) _
  exact hK _ (h.push (blk w.heap.size (.cells vs.toArray T (0, 0))) hm (upd_same (alloc_new w _)) (by intro x hx; simp only [blk, List.mem_singleton] at hx; omega)) hm

end Go.Den

set_option linter.unusedSimpArgs false
namespace Go.Den
open Go

/-- What 'slices.Clone' is, of a row that is only read: a row of one's own. -/
theorem clone_body {P : Program} {t e sz bys : Nat} {z : Value} (hT : SlT P t e sz bys z) (hsz : 0 < sz) {w : World} {a : Option Addr} {l c : Nat} {vs : List Value} {F : List Nat} (hs : Rd w a l sz vs F) (hc : ∀ u ∈ vs, isCell u = true) (hb : l * bys ≤ 140737488355328) (hb2 : l ≤ 4611686018427387904) {T ty : TypeId} {K : Value → World → Prop}
    (h : ∀ A C w' G, SlB w' A l C sz vs G → Beyond w.heap.size G → Mod [] w w' → K (.slice A l C) w') (h0 : a = none → l = 0 → K (.slice none 0 0) w) :
    spl a.isNone (K (.slice none 0 0) w) (newK w (.cells #[] T) fun b4 w5 => runK ((Builtin.append_ #[t, t] ty #[.slice (some ⟨b4, 0, none⟩) 0 0, .slice a l c]).run P w5) fun v6 w7 => ∃ xA8 : Option Addr, ∃ xL9 : Nat, ∃ xC10 : Nat, v6 = .slice xA8 xL9 xC10 ∧ (K (.slice xA8 xL9 xC10) w7)) := by
  cases a with
  | none =>
    refine spl_t rfl (h0 rfl ?_)
    rcases Nat.eq_zero_or_pos l with h | h
    · exact h
    · obtain ⟨ad, ha, _⟩ := hs.at h; cases ha
  | some ad =>
    refine spl_f rfl ?_
    rw [newK_eq]
    have hm : Mod [] w (w.alloc (.cells #[] T)) := (Mod.refl _ _).alloc _
    have hn : SlB (w.alloc (.cells #[] T)) (some ⟨w.heap.size, 0, none⟩) 0 0 sz [] [w.heap.size] := SlB.new w [] T (l := 0) (sz := sz) (by simp)
    refine push_rd_K (w0 := w) hT hsz hn (by intro x hx; simp only [List.mem_singleton] at hx; omega) hm (hs.mod0 hm) hc (by rw [Nat.zero_add]; exact hb) (by omega) fun A' C' w' G' hs' hG' hm' _ _ => ⟨_, _, _, rfl, ?_⟩
    rw [Nat.zero_add] at hs' ⊢
    rw [List.nil_append] at hs'
    exact h A' C' w' G' hs' hG' hm'

end Go.Den

set_option linter.unusedSimpArgs false
namespace Go.Den
open Go

def ptrTo : Option Nat → Value
  | none => .pointer none
  | some r => .pointer (some ⟨r, 0, none⟩)

theorem ptrTo_eq (o : Option Nat) : ptrTo o = .pointer (o.map fun r => ⟨r, 0, none⟩) := by cases o <;> rfl

theorem mem_ids {ps : List (Option Nat)} {r : Nat} : r ∈ ps.filterMap id ↔ ∃ i : Nat, ps[i]? = some (some r) := by
  rw [List.mem_filterMap]
  constructor
  · rintro ⟨a, ha, rfl⟩
    exact List.getElem?_of_mem ha
  · rintro ⟨i, hi⟩
    exact ⟨some r, List.mem_of_getElem? hi, rfl⟩

/-- 'ob i' says what the block at place 'i' holds. -/
structure PT (w : World) (p : Nat) (ps : List (Option Nat)) (ob : Nat → Option (Array Value)) (rest : List Value) (F : List Nat) : Prop where
  row : ∃ T, w.heap[p]? = some (.cells (ps.map ptrTo ++ rest).toArray T (0, 0))
  at_ : ∀ (i q : Nat), ps[i]? = some (some q) → ∃ arr T, ob i = some arr ∧ w.heap[q]? = some (.cells arr T (0, 0))
  no : ∀ i : Nat, ps[i]? = some none → ob i = none
  inj : ∀ i j q : Nat, ps[i]? = some (some q) → ps[j]? = some (some q) → i = j
  np : ∀ i : Nat, ps[i]? ≠ some (some p)
  F_ : F = p :: ps.filterMap id

section
variable {w w' : World} {p : Nat} {ps : List (Option Nat)} {ob : Nat → Option (Array Value)} {rest : List Value} {F : List Nat}

theorem PT.mem (h : PT w p ps ob rest F) {i q : Nat} (hi : ps[i]? = some (some q)) : q ∈ F := by
  rw [h.F_, List.mem_cons]; exact .inr (mem_ids.2 ⟨i, hi⟩)
theorem PT.pmem (h : PT w p ps ob rest F) : p ∈ F := by rw [h.F_]; simp
theorem PT.lt (h : PT w p ps ob rest F) : ∀ b ∈ F, b < w.heap.size := by
  intro b hb
  rw [h.F_, List.mem_cons] at hb
  rcases hb with rfl | hb
  · obtain ⟨T, h1⟩ := h.row; exact lt_of_get h1
  · obtain ⟨i, hi⟩ := mem_ids.1 hb
    obtain ⟨arr, T, _, h2⟩ := h.at_ i b hi
    exact lt_of_get h2
theorem PT.keep (h : PT w p ps ob rest F) (hk : ∀ b ∈ F, w'.heap[b]? = w.heap[b]?) : PT w' p ps ob rest F := by
  obtain ⟨T, h1⟩ := h.row
  refine ⟨⟨T, (hk p h.pmem).trans h1⟩, fun i q hi => ?_, h.no, h.inj, h.np, h.F_⟩
  obtain ⟨arr, T, h2, h3⟩ := h.at_ i q hi
  exact ⟨arr, T, h2, (hk q (h.mem hi)).trans h3⟩
theorem PT.cell (h : PT w p ps ob rest F) {i : Nat} (hi : i < ps.length) : ∃ o, ps[i]? = some o ∧ w.cell? ⟨p, i, none⟩ = some (ptrTo o) := by
  obtain ⟨T, h1⟩ := h.row
  refine ⟨_, List.getElem?_eq_getElem hi, ?_⟩
  rw [cell_get h1]
  simp [List.getElem?_append, hi]
theorem PT.rcell (h : PT w p ps ob rest F) {i : Nat} {v : Value} (hi : rest[i]? = some v) : w.cell? ⟨p, ps.length + i, none⟩ = some v := by
  obtain ⟨T, h1⟩ := h.row
  rw [cell_get h1]
  simp [List.getElem?_append, hi]

/-- The other cells are written. -/
theorem PT.turn (h : PT w p ps ob rest F) {rest' : List Value} {T : TypeId} (hp : w'.heap[p]? = some (.cells (ps.map ptrTo ++ rest').toArray T (0, 0))) (hm : ∀ b ∈ F, b ≠ p → w'.heap[b]? = w.heap[b]?) : PT w' p ps ob rest' F := by
  refine ⟨⟨T, hp⟩, fun i q hi => ?_, h.no, h.inj, h.np, h.F_⟩
  obtain ⟨arr, T, h2, h3⟩ := h.at_ i q hi
  exact ⟨arr, T, h2, (hm q (h.mem hi) fun e => h.np i (e ▸ hi)).trans h3⟩

/-- What the blocks hold is said anew. -/
theorem PT.say (h : PT w p ps ob rest F) {ob' : Nat → Option (Array Value)} (he : ∀ i < ps.length, ob' i = ob i) : PT w p ps ob' rest F := by
  refine ⟨h.row, fun i q hi => ?_, fun i hi => ?_, h.inj, h.np, h.F_⟩
  · obtain ⟨arr, T, h2, h3⟩ := h.at_ i q hi
    exact ⟨arr, T, by rw [he i (List.getElem?_eq_some_iff.1 hi).1]; exact h2, h3⟩
  · rw [he i (List.getElem?_eq_some_iff.1 hi).1]; exact h.no i hi

/-- A pointer is set to a new block. -/
theorem PT.put (h : PT w p ps ob rest F) {k q : Nat} {arr : Array Value} {T Tq : TypeId} (hk : ps[k]? = some none) (hp : w'.heap[p]? = some (.cells ((ps.set k (some q)).map ptrTo ++ rest).toArray T (0, 0))) (hq : w'.heap[q]? = some (.cells arr Tq (0, 0))) (hqF : q ∉ F)
    (hm : ∀ b ∈ F, b ≠ p → w'.heap[b]? = w.heap[b]?) : ∃ F', PT w' p (ps.set k (some q)) (fun i => if k = i then some arr else ob i) rest F' ∧ (∀ b ∈ F', b ∈ F ∨ b = q) := by
  have hkl := (List.getElem?_eq_some_iff.1 hk).1
  have hqp : q ≠ p := fun e => hqF (e ▸ h.pmem)
  refine ⟨p :: (ps.set k (some q)).filterMap id, ⟨⟨T, hp⟩, fun i r hi => ?_, fun i hi => ?_, fun i j r hi hj => ?_, fun i hi => ?_, rfl⟩, fun b hb => ?_⟩
  · rw [List.getElem?_set] at hi
    by_cases hik : k = i
    · rw [if_pos hik, if_pos hkl] at hi
      obtain rfl : q = r := Option.some.inj (Option.some.inj hi)
      exact ⟨arr, Tq, if_pos hik, hq⟩
    · rw [if_neg hik] at hi
      obtain ⟨arr', T', h2, h3⟩ := h.at_ i r hi
      exact ⟨arr', T', by rw [if_neg hik]; exact h2, (hm r (h.mem hi) fun e => h.np i (e ▸ hi)).trans h3⟩
  · rw [List.getElem?_set] at hi
    by_cases hik : k = i
    · rw [if_pos hik, if_pos hkl] at hi; cases hi
    · rw [if_neg hik] at hi
      rw [if_neg hik]; exact h.no i hi
  · rw [List.getElem?_set] at hi hj
    by_cases hik : k = i <;> by_cases hjk : k = j
    · omega
    · rw [if_pos hik, if_pos hkl] at hi
      rw [if_neg hjk] at hj
      obtain rfl : q = r := Option.some.inj (Option.some.inj hi)
      exact absurd (h.mem hj) hqF
    · rw [if_neg hik] at hi
      rw [if_pos hjk, if_pos hkl] at hj
      obtain rfl : q = r := Option.some.inj (Option.some.inj hj)
      exact absurd (h.mem hi) hqF
    · rw [if_neg hik] at hi; rw [if_neg hjk] at hj
      exact h.inj i j r hi hj
  · rw [List.getElem?_set] at hi
    by_cases hik : k = i
    · rw [if_pos hik, if_pos hkl] at hi
      exact hqp (Option.some.inj (Option.some.inj hi))
    · rw [if_neg hik] at hi
      exact h.np i hi
  · rw [List.mem_cons] at hb
    rcases hb with rfl | hb
    · exact .inl h.pmem
    · obtain ⟨i, hi⟩ := mem_ids.1 hb
      rw [List.getElem?_set] at hi
      by_cases hik : k = i
      · rw [if_pos hik, if_pos hkl] at hi
        exact .inr (Option.some.inj (Option.some.inj hi)).symm
      · rw [if_neg hik] at hi
        exact .inl (h.mem hi)

/-- A pointer is set to nil. -/
theorem PT.del (h : PT w p ps ob rest F) {k : Nat} {T : TypeId} (hp : w'.heap[p]? = some (.cells ((ps.set k none).map ptrTo ++ rest).toArray T (0, 0)))
    (hm : ∀ b ∈ F, b ≠ p → w'.heap[b]? = w.heap[b]?) : ∃ F', PT w' p (ps.set k none) (fun i => if k = i then none else ob i) rest F' ∧ (∀ b ∈ F', b ∈ F) ∧ (∀ q, ps[k]? = some (some q) → q ∉ F') := by
  refine ⟨p :: (ps.set k none).filterMap id, ⟨⟨T, hp⟩, fun i r hi => ?_, fun i hi => ?_, fun i j r hi hj => ?_, fun i hi => ?_, rfl⟩, fun b hb => ?_, fun q hq hb => ?_⟩
  · rw [List.getElem?_set] at hi
    by_cases hik : k = i
    · rw [if_pos hik] at hi; split at hi <;> cases hi
    · rw [if_neg hik] at hi
      obtain ⟨arr', T', h2, h3⟩ := h.at_ i r hi
      exact ⟨arr', T', by rw [if_neg hik]; exact h2, (hm r (h.mem hi) fun e => h.np i (e ▸ hi)).trans h3⟩
  · rw [List.getElem?_set] at hi
    by_cases hik : k = i
    · rw [if_pos hik]
    · rw [if_neg hik] at hi
      rw [if_neg hik]; exact h.no i hi
  · rw [List.getElem?_set] at hi hj
    by_cases hik : k = i
    · rw [if_pos hik] at hi; split at hi <;> cases hi
    · by_cases hjk : k = j
      · rw [if_pos hjk] at hj; split at hj <;> cases hj
      · rw [if_neg hik] at hi; rw [if_neg hjk] at hj
        exact h.inj i j r hi hj
  · rw [List.getElem?_set] at hi
    by_cases hik : k = i
    · rw [if_pos hik] at hi; split at hi <;> cases hi
    · rw [if_neg hik] at hi
      exact h.np i hi
  · rw [List.mem_cons] at hb
    rcases hb with rfl | hb
    · exact h.pmem
    · obtain ⟨i, hi⟩ := mem_ids.1 hb
      rw [List.getElem?_set] at hi
      by_cases hik : k = i
      · rw [if_pos hik] at hi; split at hi <;> cases hi
      · rw [if_neg hik] at hi
        exact h.mem hi
  · rw [List.mem_cons] at hb
    rcases hb with rfl | hb
    · exact h.np k hq
    · obtain ⟨i, hi⟩ := mem_ids.1 hb
      rw [List.getElem?_set] at hi
      by_cases hik : k = i
      · rw [if_pos hik] at hi; split at hi <;> cases hi
      · rw [if_neg hik] at hi
        exact hik (h.inj k i q hq hi)

/-- A block that is pointed to is written. -/
theorem PT.mod1 (h : PT w p ps ob rest F) {k q : Nat} {arr : Array Value} {T : TypeId} (hk : ps[k]? = some (some q)) (hq : w'.heap[q]? = some (.cells arr T (0, 0)))
    (hm : ∀ b ∈ F, b ≠ q → w'.heap[b]? = w.heap[b]?) : PT w' p ps (fun i => if k = i then some arr else ob i) rest F := by
  obtain ⟨T1, h1⟩ := h.row
  refine ⟨⟨T1, (hm p h.pmem fun e => h.np k (e ▸ hk)).trans h1⟩, fun i r hi => ?_, fun i hi => ?_, h.inj, h.np, h.F_⟩
  · by_cases hik : k = i
    · subst hik
      obtain rfl : q = r := Option.some.inj (Option.some.inj (hk.symm.trans hi))
      exact ⟨arr, T, if_pos rfl, hq⟩
    · obtain ⟨arr', T', h2, h3⟩ := h.at_ i r hi
      exact ⟨arr', T', by rw [if_neg hik]; exact h2, (hm r (h.mem hi) fun e => hik (h.inj k i q hk (e ▸ hi))).trans h3⟩
  · by_cases hik : k = i
    · subst hik
      rw [hk] at hi; cases hi
    · rw [if_neg hik]; exact h.no i hi
end

theorem ptrs_set (ps : List (Option Nat)) (rest : List Value) {k : Nat} (hk : k < ps.length) (o : Option Nat) : (ps.map ptrTo ++ rest).toArray.setIfInBounds k (ptrTo o) = ((ps.set k o).map ptrTo ++ rest).toArray := by
  rw [List.setIfInBounds_toArray, List.set_append_left _ _ (by simpa using hk), List.map_set]
end Go.Den

set_option linter.unusedSimpArgs false
namespace Go.Den
open Go

def rows {α : Type} (f : α → List Value) (L : List α) : List Value := (L.map f).flatten

section
variable {α : Type} {f : α → List Value} {k : Nat}

@[simp] theorem rows_nil : rows f [] = [] := rfl
theorem rows_one (x : α) : rows f [x] = f x := by simp [rows]
theorem rows_cons (x : α) (L : List α) : rows f (x :: L) = f x ++ rows f L := by simp [rows]
theorem rows_app (a b : List α) : rows f (a ++ b) = rows f a ++ rows f b := by simp [rows]
theorem rows_len (hf : ∀ x, (f x).length = k) (L : List α) : (rows f L).length = L.length * k := by
  induction L with
  | nil => simp
  | cons x L ih => rw [rows_cons, List.length_append, hf, ih, List.length_cons, Nat.succ_mul]; omega
theorem rows_cell (hc : ∀ x, ∀ u ∈ f x, isCell u = true) (L : List α) : ∀ u ∈ rows f L, isCell u = true := by
  intro u hu
  simp only [rows, List.mem_flatten, List.mem_map] at hu
  obtain ⟨vs, ⟨x, _, rfl⟩, hu⟩ := hu
  exact hc x u hu
theorem rows_take (hf : ∀ x, (f x).length = k) : ∀ (L : List α) (n : Nat), (rows f L).take (n * k) = rows f (L.take n)
  | [], n => by simp
  | x :: L, 0 => by simp
  | x :: L, n + 1 => by
    rw [List.take_succ_cons, rows_cons, rows_cons, Nat.succ_mul, Nat.add_comm, ← hf x, List.take_length_add_append, hf x, rows_take hf L n]
theorem rows_drop (hf : ∀ x, (f x).length = k) : ∀ (L : List α) (n : Nat), (rows f L).drop (n * k) = rows f (L.drop n)
  | [], n => by simp
  | x :: L, 0 => by simp
  | x :: L, n + 1 => by
    rw [List.drop_succ_cons, rows_cons, Nat.succ_mul, Nat.add_comm, ← hf x, List.drop_length_add_append, hf x, rows_drop hf L n]
variable {w : World} {a : Option Addr} {l c : Nat} {L : List α} {F : List Nat}
theorem Rd.count (h : Rd w a l k (rows f L) F) (hf : ∀ x, (f x).length = k) (hk : 0 < k) : L.length = l := by
  have := h.length
  rw [rows_len hf] at this
  exact Nat.eq_of_mul_eq_mul_right hk this
theorem SlB.count (h : SlB w a l c k (rows f L) F) (hf : ∀ x, (f x).length = k) (hk : 0 < k) : L.length = l := h.rd.count hf hk
theorem Rd.row (h : Rd w a l k (rows f L) F) (hf : ∀ x, (f x).length = k) (hk : 0 < k) {i : Nat} (hi : i < l) :
    ∃ ad x, a = some ad ∧ L[i]? = some x ∧ F = [ad.block] ∧ ad.block < w.heap.size ∧ ∀ j, j < k → w.cell? (Addr.add (Addr.add ad (i * k)) j) = (f x)[j]? := by
  have hL := h.count hf hk
  obtain ⟨ad, rfl, hF, hlt, hc⟩ := h.at (by omega)
  have hx : L[i]? = some (L[i]'(by omega)) := List.getElem?_eq_getElem _
  refine ⟨ad, _, rfl, hx, hF, hlt, fun j hj => ?_⟩
  rw [add_add, hc _ (by
    rw [rows_len hf]
    calc i * k + j < i * k + k := by omega
      _ = (i + 1) * k := by rw [Nat.succ_mul]
      _ ≤ L.length * k := Nat.mul_le_mul_right _ (by omega))]
  have := flatten_at (vss := L.map f) (k := k) (by intro vs hv; simp only [List.mem_map] at hv; obtain ⟨x, _, rfl⟩ := hv; exact hf x) (i := i) (j := j) (vs := f (L[i]'(by omega))) (by simp [hx]) hj
  exact this
end

end Go.Den

set_option linter.unusedSimpArgs false
namespace Go.Den
open Go

section
variable {w0 w : World} {l : List Part}

theorem Sep.new (h : Sep w0 w l) {o : Obj} {K : Nat → World → Prop} (hK : ∀ (b : Nat) (w' : World), Sep w0 w' (blk b o :: l) → Mod [] w w' → w.heap.size ≤ b → K b w') : newK w o K := by
  rw [newK_eq]
  exact hK _ _ (h.alloc o) ((Mod.refl [] w).alloc o) (Nat.le_refl _)

/-- A variable is written. -/
theorem Sep.st (h : Sep w0 w l) (i : Nat) {b off : Nat} {arr : Array Value} {T : TypeId} (hi : l[i]? = some (blk b (.cells arr T (0, 0)))) {vs : List Value} {K : World → Prop} (hl : off + vs.length ≤ arr.size)
    (hK : ∀ w', Sep w0 w' (l.set i (blk b (.cells (splice arr off vs) T (0, 0)))) → Mod [b] w w' → K w') : Go.Den.stK ⟨b, off, none⟩ vs w K := by
  have hb : w.heap[b]? = some _ := h.nth i hi
  refine stK_of hb hl ?_
  have hm : Mod [b] w (w.upd b (.cells (splice arr off vs) T (0, 0))) := (Mod.refl _ _).upd (.inl (by simp)) _
  exact hK _ (h.turn i hi (blk b (.cells (splice arr off vs) T (0, 0))) (upd_same hb) hm) hm

theorem Sep.cell (h : Sep w0 w l) (i : Nat) {b off : Nat} {arr : Array Value} {T : TypeId} {v : Value} (hi : l[i]? = some (blk b (.cells arr T (0, 0)))) (hv : arr[off]? = some v) : w.cell? ⟨b, off, none⟩ = some v := by
  have hb : w.heap[b]? = some _ := h.nth i hi
  rw [cell_get hb]
  exact hv
theorem Sep.out (h : Sep w0 w l) {b : Nat} (hb : b < w0.heap.size) (i : Nat) {p : Part} (hi : l[i]? = some p) : b ∉ p.F := fun hh => by
  have := h.bey i hi b hh
  omega
end

/-- A variable is written whole. -/
theorem Sep.st0 {w0 w : World} {l : List Part} (h : Sep w0 w l) (i : Nat) {b : Nat} {arr : Array Value} {T : TypeId} (hi : l[i]? = some (blk b (.cells arr T (0, 0)))) {vs : List Value} {K : World → Prop} (hl : vs.length = arr.size)
    (hK : ∀ w', Sep w0 w' (l.set i (blk b (.cells vs.toArray T (0, 0)))) → Mod [b] w w' → K w') : Go.Den.stK ⟨b, 0, none⟩ vs w K := by
  have e : splice arr 0 vs = vs.toArray := by
    have := splice_all vs [] arr.toList (by simpa using hl)
    simpa using this
  refine h.st i hi (by omega) fun w' s' m' => ?_
  rw [e] at s'
  exact hK w' s' m'

/-- A block, whole, as a row. -/
theorem SlB.of {w : World} {b : Nat} {vs : List Value} {T : TypeId} {l sz : Nat} (h : w.heap[b]? = some (.cells vs.toArray T (0, 0))) (hl : vs.length = l * sz) : SlB w (some ⟨b, 0, none⟩) l l sz vs [b] :=
  .inr ⟨b, 0, vs.toArray, T, rfl, rfl, h, Nat.le_refl _, by simp [hl], hl, fun i _ => by simp⟩

/-- A row's cells, the places written out. -/
theorem Rd.rowc {α : Type} {f : α → List Value} {k : Nat} {w : World} {a : Option Addr} {l : Nat} {L : List α} {F : List Nat} (h : Rd w a l k (rows f L) F) (hf : ∀ x, (f x).length = k) (hk : 0 < k) {i : Nat} (hi : i < l) :
    ∃ ad x, a = some ad ∧ L[i]? = some x ∧ F = [ad.block] ∧ ad.block < w.heap.size ∧ ∀ j, j < k → w.cell? (Addr.add ad (i * k + j)) = (f x)[j]? := by
  obtain ⟨ad, x, h1, h2, h3, h4, h5⟩ := h.row hf hk hi
  exact ⟨ad, x, h1, h2, h3, h4, fun j hj => by rw [← add_add]; exact h5 j hj⟩

end Go.Den

set_option linter.unusedSimpArgs false
namespace Go.Den
open Go

/-- The parts hold, and lie apart. -/
structure Prts (w : World) (l : List Part) : Prop where
  nth : ∀ {i : Nat} {p : Part}, l[i]? = some p → p.P w
  dj : ∀ {i j : Nat} {p q : Part}, i ≠ j → l[i]? = some p → l[j]? = some q → ∀ x ∈ p.F, x ∉ q.F

def PF (l : List Part) : List Nat := (l.map Part.F).flatten
theorem mem_PF {l : List Part} {x : Nat} : x ∈ PF l ↔ ∃ (i : Nat) (p : Part), l[i]? = some p ∧ x ∈ p.F := by
  simp only [PF, List.mem_flatten, List.mem_map]
  constructor
  · rintro ⟨_, ⟨p, hp, rfl⟩, hx⟩
    obtain ⟨i, hi⟩ := List.getElem?_of_mem hp
    exact ⟨i, p, hi, hx⟩
  · rintro ⟨i, p, hp, hx⟩
    exact ⟨_, ⟨p, List.mem_of_getElem? hp, rfl⟩, hx⟩

section
variable {w w' : World} {l : List Part}
theorem Prts.lt (h : Prts w l) : ∀ b ∈ PF l, b < w.heap.size := fun b hb => by
  obtain ⟨i, p, hp, hx⟩ := mem_PF.1 hb
  exact p.lt (h.nth hp) b hx
theorem Prts.keep (h : Prts w l) (hk : ∀ b ∈ PF l, w'.heap[b]? = w.heap[b]?) : Prts w' l :=
  ⟨fun {_ p} hp => p.keep (h.nth hp) fun b hb => hk b (mem_PF.2 ⟨_, p, hp, hb⟩), h.dj⟩
theorem Prts.mod0 (h : Prts w l) (hm : Mod [] w w') : Prts w' l := h.keep (hm.at0 h.lt)
theorem Prts.nil (w : World) : Prts w [] := ⟨by simp, by simp⟩
theorem Prts.cons {p : Part} (h : Prts w l) (hp : p.P w) (hd : ∀ x ∈ p.F, x ∉ PF l) : Prts w (p :: l) := by
  refine ⟨fun {i q} hi => ?_, fun {i j q r} hij hi hj => ?_⟩
  · cases i with
    | zero => obtain rfl := Option.some.inj hi; exact hp
    | succ i => exact h.nth hi
  · cases i with
    | zero =>
      obtain rfl := Option.some.inj hi
      cases j with
      | zero => omega
      | succ j => exact fun x hx hx' => hd x hx (mem_PF.2 ⟨j, r, hj, hx'⟩)
    | succ i =>
      cases j with
      | zero => obtain rfl := Option.some.inj hj; exact fun x hx hx' => hd x hx' (mem_PF.2 ⟨i, q, hi, hx⟩)
      | succ j => exact h.dj (by omega) hi hj
theorem Prts.tail {p : Part} (h : Prts w (p :: l)) : Prts w l := ⟨fun {i _} hi => h.nth (i := i + 1) hi, fun {i j _ _} hij hi hj => h.dj (i := i + 1) (j := j + 1) (by omega) hi hj⟩

/-- A part turns. -/
theorem Prts.step (h : Prts w l) (i : Nat) {p : Part} (hi : l[i]? = some p) (p' : Part) (hp : p'.P w') (hm : Mod p.F w w') (ho : Own w p.F p'.F) : Prts w' (l.set i p') ∧ Mod (PF l) w w' ∧ Own w (PF l) (PF (l.set i p')) := by
  have hil : i < l.length := (List.getElem?_eq_some_iff.1 hi).1
  have other : ∀ {j : Nat} {q}, i ≠ j → l[j]? = some q → q.P w' ∧ (∀ x ∈ p'.F, x ∉ q.F) := fun {j q} hij hj => by
    have hq := h.nth hj
    obtain ⟨h1, h2⟩ := side hm (fun _ h => h) ho (q.lt hq) (h.dj hij hi hj)
    exact ⟨q.keep hq h1, h2⟩
  refine ⟨⟨fun {j q} hj => ?_, fun {j k q r} hjk hj hk => ?_⟩, hm.mono fun b hb => mem_PF.2 ⟨i, p, hi, hb⟩, fun b hb => ?_⟩
  · rw [List.getElem?_set] at hj
    by_cases hij : i = j
    · rw [if_pos hij, if_pos (by omega)] at hj
      obtain rfl := Option.some.inj hj
      exact hp
    · rw [if_neg hij] at hj
      exact (other hij hj).1
  · rw [List.getElem?_set] at hj hk
    by_cases hij : i = j <;> by_cases hik : i = k
    · omega
    · rw [if_pos hij, if_pos (by omega)] at hj
      rw [if_neg hik] at hk
      obtain rfl := Option.some.inj hj
      exact (other hik hk).2
    · rw [if_pos hik, if_pos (by omega)] at hk
      rw [if_neg hij] at hj
      obtain rfl := Option.some.inj hk
      exact fun x hx hx' => (other hij hj).2 x hx' hx
    · rw [if_neg hij] at hj
      rw [if_neg hik] at hk
      exact h.dj hjk hj hk
  · obtain ⟨j, q, hj, hx⟩ := mem_PF.1 hb
    rw [List.getElem?_set] at hj
    by_cases hij : i = j
    · rw [if_pos hij, if_pos (by omega)] at hj
      obtain rfl := Option.some.inj hj
      exact (ho b hx).imp (fun h => mem_PF.2 ⟨i, p, hi, h⟩) id
    · rw [if_neg hij] at hj
      exact .inl (mem_PF.2 ⟨j, q, hj, hx⟩)
end

/-- As one part. -/
def prtsPart (l : List Part) : Part := ⟨PF l, fun w => Prts w l, fun h k => h.keep k, fun h => h.lt⟩

/-- A family: 'f i' of each number below 'n'. -/
def fam (n : Nat) (f : Nat → Part) : Part := prtsPart ((List.range n).map f)
def upF (f : Nat → Part) (i : Nat) (p : Part) : Nat → Part := fun j => if i = j then p else f j

theorem fam_get {n : Nat} {f : Nat → Part} {i : Nat} (hi : i < n) : ((List.range n).map f)[i]? = some (f i) := by simp [hi]
theorem fam_set {n : Nat} (f : Nat → Part) (i : Nat) (p : Part) : ((List.range n).map f).set i p = (List.range n).map (upF f i p) := by
  apply List.ext_getElem?
  intro j
  rw [List.getElem?_set]
  by_cases hij : i = j
  · subst hij
    by_cases hi : i < n
    · rw [if_pos rfl, if_pos (by simpa using hi), fam_get hi]; simp [upF]
    · rw [if_pos rfl, if_neg (by simpa using hi), List.getElem?_eq_none (by simp; omega)]
  · rw [if_neg hij]
    by_cases hj : j < n
    · rw [fam_get hj, fam_get hj]; simp [upF, hij]
    · rw [List.getElem?_eq_none (by simp; omega), List.getElem?_eq_none (by simp; omega)]
section
variable {w w' : World} {n : Nat} {f : Nat → Part}
theorem fam_nth (h : (fam n f).P w) {i : Nat} (hi : i < n) : (f i).P w := Prts.nth h (fam_get hi)
theorem fam_step (h : (fam n f).P w) {i : Nat} (hi : i < n) (p' : Part) (hp : p'.P w') (hm : Mod (f i).F w w') (ho : Own w (f i).F p'.F) : (fam n (upF f i p')).P w' ∧ Mod (fam n f).F w w' ∧ Own w (fam n f).F (fam n (upF f i p')).F := by
  have := Prts.step h i (fam_get hi) p' hp hm ho
  rw [fam_set] at this
  exact this
end

theorem wf64_of {n : Int} (h0 : -9223372036854775808 ≤ n) (h : n ≤ 9223372036854775807) : (Lit.int .i64 n).wf = true := by
  simp [Lit.wf, IntKind.min, IntKind.max, IntKind.bits, IntKind.signed]
  omega

/-- The parts of a state, opened. -/
theorem Sep.prts {w0 w : World} {l : List Part} (h : Sep w0 w l) : Prts w l := ⟨fun {i _} hi => h.nth i hi, fun {i j _ _} hij hi hj => h.dj i j hij hi hj⟩
theorem Sep.of_prts {w0 w : World} {l : List Part} (hm : Mod [] w0 w) (h : Prts w l) (hb : Beyond w0.heap.size (PF l)) : Sep w0 w l :=
  ⟨hm, fun _ _ hi => ⟨h.nth hi, fun x hx => hb x (mem_PF.2 ⟨_, _, hi, hx⟩)⟩, fun _ _ _ _ hij hi hj => h.dj hij hi hj⟩
/-- New parts made one. -/
theorem Sep.join {w0 w : World} {l : List Part} (h : Sep w0 w l) (q : Part) (hq : q.P w) (hF : ∀ x ∈ q.F, x ∈ PF l) : Sep w0 w [q] := by
  refine ⟨h.1, fun i p hi => ?_, fun i j p r hij hi hj => ?_⟩
  · cases i with
    | zero =>
      obtain rfl := Option.some.inj hi
      refine ⟨hq, fun x hx => ?_⟩
      obtain ⟨j, r, hj, hx⟩ := mem_PF.1 (hF x hx)
      exact h.bey j hj x hx
    | succ i => simp at hi
  · cases i with
    | zero =>
      cases j with
      | zero => omega
      | succ j => simp at hj
    | succ i => simp at hi

end Go.Den

namespace Go.Den

def Rising (l : List Int) : Prop := l.Pairwise (· < ·)

theorem Rising.ext : ∀ {l l' : List Int}, Rising l → Rising l' → (∀ x, x ∈ l ↔ x ∈ l') → l = l'
  | [], [], _, _, _ => rfl
  | [], y :: l', _, _, h => by have := (h y).2 (by simp); cases this
  | x :: l, [], _, _, h => by have := (h x).1 (by simp); cases this
  | x :: l, y :: l', h1, h2, h => by
    have a1 := List.pairwise_cons.1 h1
    have a2 := List.pairwise_cons.1 h2
    have exy : x = y := by
      have b1 := (h x).1 (by simp)
      have b2 := (h y).2 (by simp)
      rcases List.mem_cons.1 b1 with e | b1
      · exact e
      · rcases List.mem_cons.1 b2 with e | b2
        · exact e.symm
        · have := a1.1 y b2
          have := a2.1 x b1
          omega
    subst exy
    rw [Rising.ext a1.2 a2.2 fun z => ⟨fun hz => ?_, fun hz => ?_⟩]
    · rcases List.mem_cons.1 ((h z).1 (List.mem_cons_of_mem _ hz)) with e | hz'
      · have := a1.1 z hz; omega
      · exact hz'
    · rcases List.mem_cons.1 ((h z).2 (List.mem_cons_of_mem _ hz)) with e | hz'
      · have := a2.1 z hz; omega
      · exact hz'

def putL : List Int → Int → List Int
  | [], n => [n]
  | x :: l, n => if x < n then x :: putL l n else if x = n then n :: l else n :: x :: l

theorem mem_putL {l : List Int} {n : Int} : ∀ {x : Int}, x ∈ putL l n ↔ x = n ∨ x ∈ l := by
  induction l with
  | nil => intro x; simp [putL]
  | cons y l ih =>
    intro x
    unfold putL
    split
    · simp only [List.mem_cons, ih]
      constructor
      · rintro (h | h | h)
        · exact .inr (.inl h)
        · exact .inl h
        · exact .inr (.inr h)
      · rintro (h | h | h)
        · exact .inr (.inl h)
        · exact .inl h
        · exact .inr (.inr h)
    · split
      · rename_i h; subst h; simp
      · simp

theorem Rising.put {l : List Int} (h : Rising l) (n : Int) : Rising (putL l n) := by
  induction l with
  | nil => simp [putL, Rising]
  | cons y l ih =>
    obtain ⟨h1, h2⟩ := List.pairwise_cons.1 h
    unfold putL
    split
    · rename_i hlt
      refine List.pairwise_cons.2 ⟨fun z hz => ?_, ih h2⟩
      rcases mem_putL.1 hz with e | hz
      · omega
      · exact h1 z hz
    · split
      · rename_i e; subst e; exact h
      · rename_i h3 h4
        refine List.pairwise_cons.2 ⟨fun z hz => ?_, h⟩
        rcases List.mem_cons.1 hz with e | hz
        · omega
        · have := h1 z hz; omega
theorem putL_len (l : List Int) (n : Int) : (putL l n).length ≤ l.length + 1 := by
  induction l with
  | nil => simp [putL]
  | cons y l ih =>
    unfold putL
    split
    · simp; omega
    · split <;> simp

theorem Rising.filter {l : List Int} (h : Rising l) (f : Int → Bool) : Rising (l.filter f) := List.Pairwise.filter f h

/-- The numbers below 'n', as they are gone over. -/
def ups (n : Nat) : List Int := (List.range n).map fun (j : Nat) => (j : Int)
theorem ups_succ (n : Nat) : ups (n + 1) = ups n ++ [(n : Int)] := by simp [ups, List.range_succ]
theorem mem_ups {n : Nat} {x : Int} : x ∈ ups n ↔ 0 ≤ x ∧ x < n := by
  simp only [ups, List.mem_map, List.mem_range]
  constructor
  · rintro ⟨j, h, rfl⟩; omega
  · rintro ⟨h1, h2⟩; exact ⟨x.toNat, by omega, by omega⟩
theorem ups_rising (n : Nat) : Rising (ups n) := by
  induction n with
  | zero => simp [ups, Rising]
  | succ n ih =>
    rw [ups_succ]
    refine List.pairwise_append.2 ⟨ih, by simp, fun a ha b hb => ?_⟩
    simp only [List.mem_singleton] at hb
    have := (mem_ups.1 ha).2
    omega
theorem Rising.is_filter {l : List Int} {n : Nat} (h : Rising l) (hn : ∀ x ∈ l, 0 ≤ x ∧ x < n) : (ups n).filter (fun x => decide (x ∈ l)) = l := by
  refine Rising.ext ((ups_rising n).filter _) h fun x => ?_
  rw [List.mem_filter, mem_ups]
  simp only [decide_eq_true_eq]
  exact ⟨fun h => h.2, fun hx => ⟨hn x hx, hx⟩⟩

end Go.Den

set_option linter.unusedSimpArgs false
namespace Go.Den
open Go

def u64s (l : List Int) : List Value := l.map (.int .u64)
theorem u64s_length (l : List Int) : (u64s l).length = l.length := by simp [u64s]
theorem u64s_get (l : List Int) (i : Nat) : (u64s l)[i]? = (l[i]?).map (.int .u64) := by simp [u64s]
theorem u64s_cell (l : List Int) : ∀ u ∈ u64s l, isCell u = true := by
  intro u hu
  simp only [u64s, List.mem_map] at hu
  obtain ⟨n, _, rfl⟩ := hu
  rfl
theorem u64s_rep (n : Nat) : u64s (List.replicate n 0) = List.replicate n (.int .u64 0) := by simp [u64s]
theorem u64s_set (l : List Int) (i : Nat) (v : Int) : (u64s l).set i (.int .u64 v) = u64s (l.set i v) := by simp [u64s, List.map_set]
theorem u64s_append (l l' : List Int) : u64s (l ++ l') = u64s l ++ u64s l' := by simp [u64s]
theorem u64s_drop (l : List Int) (n : Nat) : (u64s l).drop n = u64s (l.drop n) := by simp [u64s]
@[simp] theorem u64s_nil : u64s [] = [] := rfl
def i64s (l : List Int) : List Value := l.map (.int .i64)
@[simp] theorem i64s_nil : i64s [] = [] := rfl
theorem i64s_length (l : List Int) : (i64s l).length = l.length := by simp [i64s]
theorem i64s_get (l : List Int) (i : Nat) : (i64s l)[i]? = (l[i]?).map (.int .i64) := by simp [i64s]
theorem i64s_cell (l : List Int) : ∀ u ∈ i64s l, isCell u = true := by
  intro u hu
  simp only [i64s, List.mem_map] at hu
  obtain ⟨n, _, rfl⟩ := hu
  rfl
theorem i64s_append (l l' : List Int) : i64s (l ++ l') = i64s l ++ i64s l' := by simp [i64s]
theorem i64s_drop (l : List Int) (n : Nat) : (i64s l).drop n = i64s (l.drop n) := by simp [i64s]
theorem i64s_take (l : List Int) (n : Nat) : (i64s l).take n = i64s (l.take n) := by simp [i64s]
theorem Rd.u64 {w : World} {a : Option Addr} {l : Nat} {xs : List Int} {F : List Nat} (h : Rd w a l 1 (u64s xs) F) : xs.length = l := by have := h.length; simpa [u64s] using this
theorem Rd.i64 {w : World} {a : Option Addr} {l : Nat} {xs : List Int} {F : List Nat} (h : Rd w a l 1 (i64s xs) F) : xs.length = l := by have := h.length; simpa [i64s] using this
theorem SlB.u64 {w : World} {a : Option Addr} {l c : Nat} {xs : List Int} {F : List Nat} (h : SlB w a l c 1 (u64s xs) F) : xs.length = l := by have := h.length; simpa [u64s] using this
theorem SlB.i64 {w : World} {a : Option Addr} {l c : Nat} {xs : List Int} {F : List Nat} (h : SlB w a l c 1 (i64s xs) F) : xs.length = l := by have := h.length; simpa [i64s] using this

/-- A word of a row. -/
theorem Rd.u64at {w : World} {a : Option Addr} {l : Nat} {xs : List Int} {F : List Nat} (h : Rd w a l 1 (u64s xs) F) {k : Nat} (hk : k < l) : ∃ ad x, a = some ad ∧ xs[k]? = some x ∧ w.cell? (Addr.add ad k) = some (.int .u64 x) ∧ F = [ad.block] ∧ ad.block < w.heap.size := by
  have hl := h.u64
  obtain ⟨ad, ha, hF, hb, hc⟩ := h.at (by omega)
  have hx : xs[k]? = some (xs[k]'(by omega)) := List.getElem?_eq_getElem _
  exact ⟨ad, _, ha, hx, by rw [hc k (by simp [u64s]; omega), u64s_get, hx]; rfl, hF, hb⟩
theorem Rd.i64at {w : World} {a : Option Addr} {l : Nat} {xs : List Int} {F : List Nat} (h : Rd w a l 1 (i64s xs) F) {k : Nat} (hk : k < l) : ∃ ad x, a = some ad ∧ xs[k]? = some x ∧ w.cell? (Addr.add ad k) = some (.int .i64 x) ∧ F = [ad.block] ∧ ad.block < w.heap.size := by
  have hl := h.i64
  obtain ⟨ad, ha, hF, hb, hc⟩ := h.at (by omega)
  have hx : xs[k]? = some (xs[k]'(by omega)) := List.getElem?_eq_getElem _
  exact ⟨ad, _, ha, hx, by rw [hc k (by simp [i64s]; omega), i64s_get, hx]; rfl, hF, hb⟩

theorem flat1 {k : IntKind} (vss : List (List Value)) (h : ∀ vs ∈ vss, ∃ n : Int, vs = [.int k n] ∧ (Lit.int k n).wf = true) : ∃ xs : List Int, vss.flatten = xs.map (.int k) ∧ xs.length = vss.length ∧ ∀ x ∈ xs, (Lit.int k x).wf = true := by
  induction vss with
  | nil => exact ⟨[], rfl, rfl, by simp⟩
  | cons v vss ih =>
    obtain ⟨xs, h1, h2, h3⟩ := ih fun vs hv => h vs (by simp [hv])
    obtain ⟨n, rfl, hn⟩ := h v (by simp)
    refine ⟨n :: xs, by simp [h1], by simp [h2], ?_⟩
    intro x hx
    simp only [List.mem_cons] at hx
    rcases hx with rfl | hx
    · exact hn
    · exact h3 x hx

end Go.Den
