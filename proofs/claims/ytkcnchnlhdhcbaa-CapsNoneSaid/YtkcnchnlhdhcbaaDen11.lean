/-
  Maps with keys of type int: what 'm[k]', 'm[k] = v' and 'delete(m, k)' do.
-/
import Derived.Test.YtkcnchnlhdhcbaaDen10
import Derived.MapKept
set_option linter.unusedSimpArgs false
namespace Go.Den
open Go

abbrev KV := List (Int × Value)
def mlook : KV → Int → Option Value
  | [], _ => none
  | p :: ps, k => if p.1 = k then some p.2 else mlook ps k
def mput : KV → Int → Value → KV
  | [], k, v => [(k, v)]
  | p :: ps, k, v => if p.1 = k then (k, v) :: ps else p :: mput ps k v
def mdel : KV → Int → KV
  | [], _ => []
  | p :: ps, k => if p.1 = k then ps else p :: mdel ps k
def mkeys (l : KV) : List Int := l.map (·.1)

theorem mlook_mput : ∀ (l : KV) (k : Int) (v : Value) (k' : Int), mlook (mput l k v) k' = if k = k' then some v else mlook l k'
  | [], k, v, k' => rfl
  | p :: ps, k, v, k' => by
    unfold mput
    by_cases h : p.1 = k
    · simp only [h, if_true, mlook]
      by_cases h' : k = k' <;> simp [h']
    · simp only [h, if_false, mlook, mlook_mput ps k v k']
      by_cases h' : p.1 = k'
      · have : k ≠ k' := fun e => h (h'.trans e.symm)
        simp [h', this]
      · simp [h']
theorem mlook_none {l : KV} {k : Int} : mlook l k = none ↔ k ∉ mkeys l := by
  induction l with
  | nil => simp [mlook, mkeys]
  | cons p ps ih =>
    simp only [mlook, mkeys, List.map_cons, List.mem_cons, not_or]
    by_cases h : p.1 = k
    · simp [h]
    · simp only [h, if_false, ih, mkeys]
      exact ⟨fun h' => ⟨fun e => h e.symm, h'⟩, fun h' => h'.2⟩
theorem mlook_mdel : ∀ {l : KV}, (mkeys l).Nodup → ∀ (k k' : Int), mlook (mdel l k) k' = if k = k' then none else mlook l k'
  | [], _, k, k' => by simp [mdel, mlook]
  | p :: ps, hn, k, k' => by
    simp only [mkeys, List.map_cons, List.nodup_cons] at hn
    unfold mdel
    by_cases h : p.1 = k
    · simp only [h, if_true, mlook]
      by_cases h' : k = k'
      · subst h'
        rw [if_pos rfl]
        exact mlook_none.2 (h ▸ hn.1)
      · simp [h']
    · simp only [h, if_false, mlook, mlook_mdel hn.2 k k']
      by_cases h' : p.1 = k'
      · have : k ≠ k' := fun e => h (h'.trans e.symm)
        simp [h', this]
      · simp [h']
theorem mem_mput {l : KV} {k : Int} {v : Value} {x : Int} : x ∈ mkeys (mput l k v) ↔ x = k ∨ x ∈ mkeys l := by
  induction l with
  | nil => simp [mput, mkeys]
  | cons p ps ih =>
    unfold mput
    by_cases h : p.1 = k
    · simp [h, mkeys]
    · simp only [h, if_false, mkeys, List.map_cons, List.mem_cons] at ih ⊢
      rw [ih]
      constructor
      · rintro (h | h | h) <;> simp [h]
      · rintro (h | h | h) <;> simp [h]
theorem nodup_mput {l : KV} (h : (mkeys l).Nodup) (k : Int) (v : Value) : (mkeys (mput l k v)).Nodup := by
  induction l with
  | nil => simp [mput, mkeys]
  | cons p ps ih =>
    simp only [mkeys, List.map_cons, List.nodup_cons] at h
    unfold mput
    by_cases hk : p.1 = k
    · simp only [hk, if_true, mkeys, List.map_cons, List.nodup_cons]
      exact ⟨hk ▸ h.1, h.2⟩
    · simp only [hk, if_false, mkeys, List.map_cons, List.nodup_cons]
      refine ⟨fun hm => ?_, ih h.2⟩
      rcases mem_mput.1 hm with h' | h'
      · exact hk h'
      · exact h.1 h'
theorem mem_mdel {l : KV} {k x : Int} (h : x ∈ mkeys (mdel l k)) : x ∈ mkeys l := by
  induction l with
  | nil => simpa [mdel] using h
  | cons p ps ih =>
    unfold mdel at h
    by_cases hk : p.1 = k
    · simp only [hk, if_true] at h
      exact List.mem_cons_of_mem _ h
    · simp only [hk, if_false, mkeys, List.map_cons, List.mem_cons] at h ⊢
      exact h.imp id ih
theorem nodup_mdel {l : KV} (h : (mkeys l).Nodup) (k : Int) : (mkeys (mdel l k)).Nodup := by
  induction l with
  | nil => simp [mdel, mkeys]
  | cons p ps ih =>
    simp only [mkeys, List.map_cons, List.nodup_cons] at h
    unfold mdel
    by_cases hk : p.1 = k
    · simp only [hk, if_true]; exact h.2
    · simp only [hk, if_false, mkeys, List.map_cons, List.nodup_cons]
      exact ⟨fun hm => h.1 (mem_mdel hm), ih h.2⟩

def EntsOk (es : List MapEntry) (l : KV) : Prop := es.map (fun e => (e.key, e.val)) = l.map fun p => (Value.int .i64 p.1, p.2)

/-- The map at block 'm' has the entries 'l'. -/
def MapP (w : World) (m : Nat) (l : KV) : Prop := ∃ (es : Array MapEntry) (clock : Nat), w.heap[m]? = some (.map es clock) ∧ EntsOk es.toList l ∧ (mkeys l).Nodup

theorem MapP.keep {w w' : World} {m : Nat} {l : KV} (h : MapP w m l) (hk : w'.heap[m]? = w.heap[m]?) : MapP w' m l := by
  obtain ⟨es, c, h1, h2⟩ := h
  exact ⟨es, c, hk.trans h1, h2⟩
theorem MapP.lt {w : World} {m : Nat} {l : KV} (h : MapP w m l) : m < w.heap.size := by
  obtain ⟨es, c, h1, h2⟩ := h
  exact lt_of_get h1
theorem MapP.new (w : World) : MapP (w.alloc (.map #[] 0)) w.heap.size [] := ⟨#[], 0, alloc_new w _, rfl, by simp [mkeys]⟩

theorem find_now : ∀ {es : List MapEntry} {l : KV} (k : Int) (i : Nat), EntsOk es l →
    (mlook l k = none ∧ Instr.findNow (.int .i64) (.int .i64 k) es i = some none) ∨
    ∃ ea e eb a v b, es = ea ++ e :: eb ∧ l = a ++ (k, v) :: b ∧ ea.length = a.length ∧ EntsOk ea a ∧ EntsOk eb b ∧ e.key = .int .i64 k ∧ e.val = v ∧ (∀ p ∈ a, p.1 ≠ k) ∧ mlook l k = some v ∧ Instr.findNow (.int .i64) (.int .i64 k) es i = some (some (i + a.length, v))
  | [], [], k, i, _ => .inl ⟨rfl, rfl⟩
  | e :: es, [], k, i, h => by simp [EntsOk] at h
  | [], p :: l, k, i, h => by simp [EntsOk] at h
  | e :: es, p :: l, k, i, h => by
    simp only [EntsOk, List.map_cons, List.cons.injEq, Prod.mk.injEq] at h
    obtain ⟨⟨hk, hv⟩, h⟩ := h
    by_cases hp : p.1 = k
    · refine .inr ⟨[], e, es, [], p.2, l, rfl, by rw [← hp]; rfl, rfl, rfl, h, by rw [hk, hp], hv, by simp, by simp [mlook, hp], ?_⟩
      simp [Instr.findNow, Instr.sameNow, hk, hp, hv]
    · have hkp : (k == p.1) = false := by simpa using fun e => hp e.symm
      rcases find_now k (i + 1) h with ⟨h1, h2⟩ | ⟨ea, e', eb, a, v, b, h1, h2, h3, h4, h5, h6, h7, h8, h9, h10⟩
      · exact .inl ⟨by simp [mlook, hp, h1], by simp [Instr.findNow, Instr.sameNow, hk, hkp, h2]⟩
      · refine .inr ⟨e :: ea, e', eb, p :: a, v, b, by rw [h1]; rfl, by rw [h2]; rfl, by simp [h3], ?_, h5, h6, h7, ?_, by simp [mlook, hp, h9], ?_⟩
        · simp only [EntsOk, List.map_cons, hk, hv]
          rw [show ea.map (fun e => (e.key, e.val)) = _ from h4]
        · intro q hq
          simp only [List.mem_cons] at hq
          rcases hq with rfl | hq
          · exact hp
          · exact h8 q hq
        · simp [Instr.findNow, Instr.sameNow, hk, hkp, h10]
          omega

theorem mput_none {l : KV} {k : Int} (v : Value) (h : mlook l k = none) : mput l k v = l ++ [(k, v)] := by
  induction l with
  | nil => rfl
  | cons p ps ih =>
    simp only [mlook] at h
    split at h
    · cases h
    · rename_i hp
      simp only [mput, hp, if_false, ih h, List.cons_append]
theorem mput_mid {a b : KV} {k : Int} {v : Value} (u : Value) (h : ∀ p ∈ a, p.1 ≠ k) : mput (a ++ (k, v) :: b) k u = a ++ (k, u) :: b := by
  induction a with
  | nil => simp [mput]
  | cons p ps ih =>
    have hp := h p (by simp)
    simp only [List.cons_append, mput, hp, if_false, ih fun q hq => h q (by simp [hq])]
theorem mdel_none {l : KV} {k : Int} (h : mlook l k = none) : mdel l k = l := by
  induction l with
  | nil => rfl
  | cons p ps ih =>
    simp only [mlook] at h
    split at h
    · cases h
    · rename_i hp
      simp only [mdel, hp, if_false, ih h]
theorem mdel_mid {a b : KV} {k : Int} {v : Value} (h : ∀ p ∈ a, p.1 ≠ k) : mdel (a ++ (k, v) :: b) k = a ++ b := by
  induction a with
  | nil => simp [mdel]
  | cons p ps ih =>
    have hp := h p (by simp)
    simp only [List.cons_append, mdel, hp, if_false, ih fun q hq => h q (by simp [hq])]

theorem modify_mid {α : Type} (f : α → α) : ∀ (a : List α) (e : α) (b : List α), (a ++ e :: b).modify a.length f = a ++ f e :: b
  | [], e, b => by simp
  | x :: a, e, b => by simp [modify_mid f a e b]
theorem erase_mid {α : Type} : ∀ (a : List α) (e : α) (b : List α), (a ++ e :: b).eraseIdx a.length = a ++ b
  | [], e, b => by simp
  | x :: a, e, b => by simp [erase_mid a e b]

/-- What a map type's number says. -/
def MapT (P : Program) (t k e : TypeId) (z : Value) : Prop := P.underlying t = some (.map k e) ∧ P.underlying k = some (.int .i64) ∧ ∃ i, P.info? e = some i ∧ i.zero = some z

theorem key_ok (k : Int) : MapKept.IsKey (.int .i64) (.int .i64 k) := by simp [MapKept.IsKey]

theorem lookup_run {P : Program} {t kt et : TypeId} {z : Value} (hT : MapT P t kt et z) {w : World} {m : Nat} {l : KV} (h : MapP w m l) (k : Int) :
    (Instr.lookup t (.map (some m)) (.int .i64 k) true).run P w = .ok (.tuple #[(mlook l k).getD z, .bool (mlook l k).isSome]) w ∧
    (Instr.lookup t (.map (some m)) (.int .i64 k) false).run P w = .ok ((mlook l k).getD z) w := by
  obtain ⟨hu, hk, i, hi, hz⟩ := hT
  obtain ⟨es, c, hm, hes, hn⟩ := h
  have hck : ∀ em, (Instr.checkKey em 10000 kt (.int .i64 k)).run P w = .ok () w := fun em => MapKept.run_checkKey hk (key_ok k) em 9999
  have hzr : (zeroValue et).run P w = .ok z w := by simp [zeroValue, typeInfo, hi, hz]
  rcases find_now k 0 hes with ⟨h1, h2⟩ | ⟨ea, e, eb, a, v, b, -, -, -, -, -, -, -, -, h1, h2⟩
  · simp [Instr.lookup, run_underlying hu, MapKept.run_getObj_map hm, hck, MapKept.run_findKey hk h2, hzr, h1]
  · simp [Instr.lookup, run_underlying hu, MapKept.run_getObj_map hm, hck, MapKept.run_findKey hk h2, h1]

theorem mapUpdate_run {P : Program} {t kt et : TypeId} {z : Value} (hT : MapT P t kt et z) {w : World} {m : Nat} {l : KV} (h : MapP w m l) (k : Int) (v : Value) :
    ∃ w', (Instr.mapUpdate t (.map (some m)) (.int .i64 k) v).run P w = .ok () w' ∧ MapP w' m (mput l k v) ∧ Mod [m] w w' := by
  obtain ⟨hu, hk, i, hi, hz⟩ := hT
  obtain ⟨es, c, hm, hes, hn⟩ := h
  have hck : ∀ em, (Instr.checkKey em 10000 kt (.int .i64 k)).run P w = .ok () w := fun em => MapKept.run_checkKey hk (key_ok k) em 9999
  have hmod : ∀ o, Mod [m] w (w.upd m o) := fun o => (Mod.refl _ _).upd (.inl (by simp)) _
  rcases find_now k 0 hes with ⟨h1, h2⟩ | ⟨ea, e, eb, a, u, b, h3, h4, h5, h6, h7, h8, h9, h10, h1, h2⟩
  · refine ⟨w.upd m (.map (es.push { key := .int .i64 k, val := v, born := c }) (c + 1)), ?_, ⟨_, _, upd_same hm, ?_, nodup_mput hn k v⟩, hmod _⟩
    · simp [Instr.mapUpdate, run_underlying hu, MapKept.run_getObj_map hm, hck, MapKept.run_findKey hk h2, MapKept.run_setObj_map _ hm, World.upd]
    · rw [mput_none v h1]
      simp only [EntsOk, Array.toList_push, List.map_append, List.map_cons, List.map_nil]
      rw [show es.toList.map (fun e => (e.key, e.val)) = _ from hes]
  · have hi : es[0 + a.length]? = some e := by
      have : es.toList[0 + a.length]? = some e := by rw [h3, Nat.zero_add, ← h5]; simp
      simpa using this
    have hst : (Instr.keyThatStays (.int .i64 k) (.int .i64 k)).run P w = .ok (.int .i64 k) w := by simp [Instr.keyThatStays, Instr.sameBits]
    refine ⟨w.upd m (.map (es.modify (0 + a.length) fun e => { e with key := .int .i64 k, val := v }) c), ?_, ⟨_, _, upd_same hm, ?_, nodup_mput hn k v⟩, hmod _⟩
    · simp only [Instr.mapUpdate, Sem.run_bind, run_underlying hu, MapKept.run_getObj_map hm, hck, MapKept.run_findKey hk h2, Result.andThen_ok, hi, Option.map_some, Option.getD_some, h8, hst, MapKept.run_setObj_map _ hm, World.upd]
    · rw [h4, mput_mid v h10]
      have e1 : (es.modify (0 + a.length) fun e => { e with key := .int .i64 k, val := v }).toList = ea ++ { e with key := .int .i64 k, val := v } :: eb := by
        rw [Array.toList_modify, h3, Nat.zero_add, ← h5, modify_mid]
      simp only [EntsOk, e1, List.map_append, List.map_cons]
      rw [show ea.map (fun e => (e.key, e.val)) = _ from h6, show eb.map (fun e => (e.key, e.val)) = _ from h7]

theorem delete_run {P : Program} {t kt et ty : TypeId} {z : Value} (hT : MapT P t kt et z) {w : World} {m : Nat} {l : KV} (h : MapP w m l) (k : Int) (t2 : TypeId) :
    ∃ w', (Builtin.delete_ #[t, t2] ty #[.map (some m), .int .i64 k]).run P w = .ok (.tuple #[]) w' ∧ MapP w' m (mdel l k) ∧ Mod [m] w w' := by
  obtain ⟨hu, hk, i, hi, hz⟩ := hT
  obtain ⟨es, c, hm, hes, hn⟩ := h
  have hck : ∀ em, (Instr.checkKey em 10000 kt (.int .i64 k)).run P w = .ok () w := fun em => MapKept.run_checkKey hk (key_ok k) em 9999
  have hmod : ∀ o, Mod [m] w (w.upd m o) := fun o => (Mod.refl _ _).upd (.inl (by simp)) _
  rcases find_now k 0 hes with ⟨h1, h2⟩ | ⟨ea, e, eb, a, u, b, h3, h4, h5, h6, h7, h8, h9, h10, h1, h2⟩
  · refine ⟨w.upd m (.map es c), ?_, ⟨_, _, upd_same hm, by rw [mdel_none h1]; exact hes, nodup_mdel hn k⟩, hmod _⟩
    simp [Builtin.delete_, run_underlying hu, MapKept.run_getObj_map hm, hck, MapKept.run_findKey hk h2, MapKept.run_setObj_map _ hm, World.upd]
  · refine ⟨w.upd m (.map (es.eraseIdxIfInBounds (0 + a.length)) c), ?_, ⟨_, _, upd_same hm, ?_, nodup_mdel hn k⟩, hmod _⟩
    · simp [Builtin.delete_, run_underlying hu, MapKept.run_getObj_map hm, hck, MapKept.run_findKey hk h2, MapKept.run_setObj_map _ hm, World.upd]
    · rw [h4, mdel_mid h10]
      have e1 : (es.eraseIdxIfInBounds (0 + a.length)).toList = ea ++ eb := by
        rw [Array.toList_eraseIdxIfInBounds, h3, Nat.zero_add, ← h5, erase_mid]
      simp only [EntsOk, e1, List.map_append]
      rw [show ea.map (fun e => (e.key, e.val)) = _ from h6, show eb.map (fun e => (e.key, e.val)) = _ from h7]

/-! ### The same, as the printed forms ask for them -/

theorem lookup_K {P : Program} {t kt et : TypeId} {z : Value} (hT : MapT P t kt et z) {w : World} {m : Nat} {l : KV} (h : MapP w m l) {k : Int} {K : Value → Prop} (hK : K (.tuple #[(mlook l k).getD z, .bool (mlook l k).isSome])) :
    runQ ((Instr.lookup t (.map (some m)) (.int .i64 k) true).run P w) w K := ⟨_, (lookup_run hT h k).1, hK⟩
theorem lookup1_K {P : Program} {t kt et : TypeId} {z : Value} (hT : MapT P t kt et z) {w : World} {m : Nat} {l : KV} (h : MapP w m l) {k : Int} {K : Value → Prop} (hK : K ((mlook l k).getD z)) :
    runQ ((Instr.lookup t (.map (some m)) (.int .i64 k) false).run P w) w K := ⟨_, (lookup_run hT h k).2, hK⟩
theorem mapUpdate_K {P : Program} {t kt et : TypeId} {z : Value} (hT : MapT P t kt et z) {w : World} {m : Nat} {l : KV} (h : MapP w m l) {k : Int} {v : Value} {K : Unit → World → Prop} (hK : ∀ w', MapP w' m (mput l k v) → Mod [m] w w' → K () w') :
    runK ((Instr.mapUpdate t (.map (some m)) (.int .i64 k) v).run P w) K := by
  obtain ⟨w', hr, h1, h2⟩ := mapUpdate_run hT h k v
  exact ⟨_, _, hr, hK w' h1 h2⟩
theorem delete_K {P : Program} {t kt et ty t2 : TypeId} {z : Value} (hT : MapT P t kt et z) {w : World} {m : Nat} {l : KV} (h : MapP w m l) {k : Int} {K : Value → World → Prop} (hK : ∀ w', MapP w' m (mdel l k) → Mod [m] w w' → K (.tuple #[]) w') :
    runK ((Builtin.delete_ #[t, t2] ty #[.map (some m), .int .i64 k]).run P w) K := by
  obtain ⟨w', hr, h1, h2⟩ := delete_run hT h k t2 (ty := ty)
  exact ⟨_, _, hr, hK w' h1 h2⟩

end Go.Den
