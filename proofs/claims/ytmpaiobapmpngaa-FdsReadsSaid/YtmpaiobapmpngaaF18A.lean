/-
  Layer 18: descriptors and open files, no program in sight: a row of 48 places, each nothing or a file's key; what a key's file is.
  Layer 18: no program in sight: files and descriptors as the document has them; other keys; words back.
  Layer 18: no program in sight: what is written is read.
-/
import Derived.Test.YtmpaiobapmpngaaDenC
import Derived.Test.YtmpaiobapmpngaaDenB
set_option linter.unusedVariables false
set_option linter.unusedSimpArgs false
namespace Go.Den
open Go

structure FX where
  k : Int
  i : Int
  o : Int
  a : Bool

abbrev Tb := List (Option Nat)

/-- The places that name 'q', rising. -/
def plc (t : Tb) (q : Nat) : List Nat := (List.range t.length).filter fun k => t[k]? == some (some q)

theorem mem_plc {t : Tb} {q k : Nat} : k ∈ plc t q ↔ t[k]? = some (some q) := by
  simp only [plc, List.mem_filter, List.mem_range, beq_iff_eq]
  exact ⟨fun h => h.2, fun h => ⟨(List.getElem?_eq_some_iff.1 h).1, h⟩⟩
theorem plc_pw (t : Tb) (q : Nat) : (plc t q).Pairwise (· < ·) := List.Pairwise.filter _ List.pairwise_lt_range
theorem plc_lt {t : Tb} {q k : Nat} (h : k ∈ plc t q) : k < t.length := (List.getElem?_eq_some_iff.1 (mem_plc.1 h)).1

theorem rise_ext : ∀ {l l' : List Nat}, l.Pairwise (· < ·) → l'.Pairwise (· < ·) → (∀ x, x ∈ l ↔ x ∈ l') → l = l'
  | [], [], _, _, _ => rfl
  | [], y :: l', _, _, h => by have := (h y).2 (by simp); simp at this
  | x :: l, [], _, _, h => by have := (h x).1 (by simp); simp at this
  | x :: l, y :: l', h1, h2, h => by
    rw [List.pairwise_cons] at h1 h2
    have hxy : x = y := by
      rcases List.mem_cons.1 ((h x).1 (by simp)) with e | e
      · exact e
      · rcases List.mem_cons.1 ((h y).2 (by simp)) with e' | e'
        · exact e'.symm
        · have := h1.1 y e'; have := h2.1 x e; omega
    subst hxy
    have : l = l' := rise_ext h1.2 h2.2 fun z => by
      have hz := h z
      simp only [List.mem_cons] at hz
      constructor
      · intro hm
        rcases hz.1 (.inr hm) with e | e
        · have := h1.1 z hm; omega
        · exact e
      · intro hm
        rcases hz.2 (.inr hm) with e | e
        · have := h2.1 z hm; omega
        · exact e
    rw [this]

/-- A place that is put among rising ones. -/
theorem rise_put {d : List Nat} (hd : d.Pairwise (· < ·)) {n j : Nat} (hn : n ∉ d) (hj : j ≤ d.length) (h1 : ∀ i x, i < j → d[i]? = some x → x < n) (h2 : ∀ x, d[j]? = some x → ¬ x < n) : (d.take j ++ n :: d.drop j).Pairwise (· < ·) := by
  have hle : ∀ x ∈ d.drop j, n < x := fun x hx => by
    obtain ⟨i, hi⟩ := List.getElem?_of_mem hx
    rw [List.getElem?_drop] at hi
    have hxn : x ≠ n := fun e => hn (e ▸ List.mem_of_getElem? hi)
    have hji : j < d.length := by have := (List.getElem?_eq_some_iff.1 hi).1; omega
    have hj0 : d[j]? = some d[j] := List.getElem?_eq_getElem hji
    have := h2 _ hj0
    rcases Nat.eq_zero_or_pos i with h0 | h0
    · subst h0
      rw [Nat.add_zero, hj0] at hi
      have := Option.some.inj hi
      omega
    · have hij := (List.getElem?_eq_some_iff.1 hi)
      have := List.pairwise_iff_getElem.1 hd j (j + i) hji hij.1 (by omega)
      rw [hij.2] at this
      omega
  rw [List.pairwise_append]
  refine ⟨hd.sublist (List.take_sublist _ _), ?_, fun x hx y hy => ?_⟩
  · rw [List.pairwise_cons]
    exact ⟨hle, hd.sublist (List.drop_sublist _ _)⟩
  · obtain ⟨i, hi⟩ := List.getElem?_of_mem hx
    have hlt := (List.getElem?_eq_some_iff.1 hi).1
    rw [List.length_take] at hlt
    rw [List.getElem?_take, if_pos (by omega)] at hi
    have hxn := h1 i x (by omega) hi
    rcases List.mem_cons.1 hy with e | e
    · omega
    · have := hle y e; omega

section
variable {t : Tb} {k q : Nat}

theorem set_get {o : Option Nat} (hk : k < t.length) (j : Nat) : (t.set k o)[j]? = if k = j then some o else t[j]? := by
  rw [List.getElem?_set]
  by_cases h : k = j
  · subst h; simp [hk]
  · simp [h]

/-- A place more names 'q'. -/
theorem plc_set_q (h0 : t[k]? = some none) {j : Nat} (hj : j ≤ (plc t q).length) (h1 : ∀ i x, i < j → (plc t q)[i]? = some x → x < k) (h2 : ∀ x, (plc t q)[j]? = some x → ¬ x < k) :
    plc (t.set k (some q)) q = (plc t q).take j ++ k :: (plc t q).drop j := by
  have hk : k < t.length := (List.getElem?_eq_some_iff.1 h0).1
  have hn : k ∉ plc t q := fun h => by rw [mem_plc, h0] at h; cases h
  refine rise_ext (plc_pw _ _) (rise_put (plc_pw _ _) hn hj h1 h2) fun x => ?_
  rw [mem_plc, set_get hk]
  have e : x ∈ (plc t q).take j ++ k :: (plc t q).drop j ↔ x = k ∨ x ∈ plc t q := by
    have : x ∈ plc t q ↔ x ∈ (plc t q).take j ∨ x ∈ (plc t q).drop j := by
      rw [← List.mem_append, List.take_append_drop]
    rw [this, List.mem_append, List.mem_cons]
    constructor
    · rintro (h | h | h) <;> simp [h]
    · rintro (h | h | h) <;> simp [h]
  rw [e, mem_plc]
  by_cases hx : k = x
  · simp [hx]
  · rw [if_neg hx]
    constructor
    · exact .inr
    · rintro (h | h)
      · exact absurd h.symm hx
      · exact h
theorem plc_set_ne (h0 : t[k]? = some none) {q' : Nat} (hq : q' ≠ q) : plc (t.set k (some q)) q' = plc t q' := by
  have hk : k < t.length := (List.getElem?_eq_some_iff.1 h0).1
  refine rise_ext (plc_pw _ _) (plc_pw _ _) fun x => ?_
  rw [mem_plc, mem_plc, set_get hk]
  by_cases hx : k = x
  · subst hx
    rw [if_pos rfl, h0]
    simp [Ne.symm hq]
  · rw [if_neg hx]

/-- Where a new place goes. -/
theorem put_at (d : List Nat) (n : Nat) : ∃ j, j ≤ d.length ∧ (∀ i x, i < j → d[i]? = some x → x < n) ∧ ∀ x, d[j]? = some x → ¬ x < n := by
  induction d with
  | nil => exact ⟨0, by simp, by simp, by simp⟩
  | cons y d ih =>
    by_cases hy : y < n
    · obtain ⟨j, h1, h2, h3⟩ := ih
      refine ⟨j + 1, by simp; omega, fun i x hi hx => ?_, fun x hx => h3 x (by simpa using hx)⟩
      cases i with
      | zero => simp at hx; omega
      | succ i => exact h2 i x (by omega) (by simpa using hx)
    · exact ⟨0, by simp, by omega, fun x hx => by simp at hx; omega⟩

theorem plc_len_set (h0 : t[k]? = some none) : (plc (t.set k (some q)) q).length = (plc t q).length + 1 := by
  obtain ⟨j, h1, h2, h3⟩ := put_at (plc t q) k
  rw [plc_set_q h0 h1 h2 h3]
  simp
  omega

theorem set_none_get (h : t[k]? = some (some q)) : (t.set k none)[k]? = some none := by
  have hk : k < t.length := (List.getElem?_eq_some_iff.1 h).1
  rw [set_get hk, if_pos rfl]
theorem set_back (h : t[k]? = some (some q)) : (t.set k none).set k (some q) = t := by
  have hk : k < t.length := (List.getElem?_eq_some_iff.1 h).1
  apply List.ext_getElem?
  intro j
  rw [set_get (by simpa using hk), set_get hk]
  by_cases hj : k = j
  · subst hj; rw [if_pos rfl, h]
  · rw [if_neg hj, if_neg hj]
theorem plc_len_le (t : Tb) (q : Nat) : (plc t q).length ≤ t.length := by
  have := List.length_filter_le (fun k => t[k]? == some (some q)) (List.range t.length)
  simpa [plc] using this
theorem plc_len_close (h : t[k]? = some (some q)) : (plc t q).length = (plc (t.set k none) q).length + 1 := by
  have := plc_len_set (q := q) (set_none_get h)
  rwa [set_back h] at this
theorem plc_close_ne (h : t[k]? = some (some q)) {q' : Nat} (hq : q' ≠ q) : plc (t.set k none) q' = plc t q' := by
  have := plc_set_ne (q := q) (set_none_get h) hq
  rwa [set_back h, eq_comm] at this
theorem plc_close_q (h : t[k]? = some (some q)) : plc (t.set k none) q = (plc t q).filter (fun x => x != k) := by
  have hk : k < t.length := (List.getElem?_eq_some_iff.1 h).1
  refine rise_ext (plc_pw _ _) ((plc_pw _ _).filter _) fun x => ?_
  rw [List.mem_filter, mem_plc, mem_plc, set_get hk]
  by_cases hx : k = x
  · subst hx; simp
  · simp [hx, Ne.symm hx]
end

/-! ### The keys, by their first places -/

def dstep (out : List Nat) (o : Option Nat) : List Nat := match o with
  | none => out
  | some q => if q ∈ out then out else out ++ [q]
def dd (t : Tb) : List Nat := t.foldl dstep []

theorem mem_dstep {out : List Nat} {o : Option Nat} {q : Nat} : q ∈ dstep out o ↔ q ∈ out ∨ o = some q := by
  cases o with
  | none => simp [dstep]
  | some r =>
    unfold dstep
    by_cases h : r ∈ out
    · simp only [if_pos h]
      exact ⟨.inl, fun hq => hq.elim id fun e => by cases e; exact h⟩
    · simp only [if_neg h, List.mem_append, List.mem_singleton, Option.some.injEq]
      exact ⟨fun hq => hq.imp id Eq.symm, fun hq => hq.imp id Eq.symm⟩
theorem dd_take (t : Tb) {n : Nat} {o : Option Nat} (h : t[n]? = some o) : dd (t.take (n + 1)) = dstep (dd (t.take n)) o := by
  obtain ⟨hn, rfl⟩ := List.getElem?_eq_some_iff.1 h
  rw [List.take_succ_eq_append_getElem hn, dd, dd, List.foldl_append]
  rfl
theorem mem_foldl {l : Tb} : ∀ {out : List Nat} {q : Nat}, q ∈ l.foldl dstep out ↔ q ∈ out ∨ some q ∈ l := by
  induction l with
  | nil => simp
  | cons o l ih =>
    intro out q
    rw [List.foldl_cons, ih, mem_dstep, List.mem_cons]
    constructor
    · rintro ((h | h) | h)
      · exact .inl h
      · exact .inr (.inl h.symm)
      · exact .inr (.inr h)
    · rintro (h | h | h)
      · exact .inl (.inl h)
      · exact .inl (.inr h.symm)
      · exact .inr h
theorem mem_dd {t : Tb} {q : Nat} : q ∈ dd t ↔ some q ∈ t := by simp [dd, mem_foldl]
theorem mem_dd' {t : Tb} {q : Nat} : q ∈ dd t ↔ ∃ k : Nat, t[k]? = some (some q) := by
  rw [mem_dd, List.mem_iff_getElem?]

theorem dstep_len (out : List Nat) (o : Option Nat) : (dstep out o).length ≤ out.length + 1 := by
  cases o with
  | none => simp [dstep]
  | some q => unfold dstep; by_cases h : q ∈ out <;> simp [h]
theorem dd_len (t : Tb) : (dd t).length ≤ t.length := by
  have : ∀ (l : Tb) (out : List Nat), (l.foldl dstep out).length ≤ out.length + l.length := by
    intro l
    induction l with
    | nil => intro out; simp
    | cons o l ih => intro out; have := ih (dstep out o); have := dstep_len out o; simp only [List.foldl_cons, List.length_cons]; omega
  show (t.foldl dstep []).length ≤ _
  simpa using this t []
theorem dd_none {t : Tb} {n : Nat} (hn : n ≤ t.length) : ∀ {k : Nat}, n + k ≤ t.length → (∀ j, j < k → t[n + j]? = some none) → dd (t.take (n + k)) = dd (t.take n)
  | 0, _, _ => rfl
  | k + 1, hk, h => by
    rw [← Nat.add_assoc, dd_take t (h k (by omega)), dd_none hn (by omega) fun j hj => h j (by omega)]
    rfl
theorem mem_dd_set {t : Tb} {k : Nat} {o : Option Nat} (hk : k < t.length) {r : Nat} (h : r ∈ dd (t.set k o)) : r ∈ dd t ∨ o = some r := by
  obtain ⟨j, hj⟩ := mem_dd'.1 h
  rw [set_get hk] at hj
  split at hj
  · exact .inr (Option.some.inj hj)
  · exact .inl (mem_dd'.2 ⟨j, hj⟩)
theorem mem_dd_add {t : Tb} {k q : Nat} (h0 : t[k]? = some none) {r : Nat} : r ∈ dd (t.set k (some q)) ↔ r = q ∨ r ∈ dd t := by
  have hk : k < t.length := (List.getElem?_eq_some_iff.1 h0).1
  constructor
  · intro h
    rcases mem_dd_set hk h with h | h
    · exact .inr h
    · exact .inl (Option.some.inj h).symm
  · rintro (rfl | h)
    · exact mem_dd'.2 ⟨k, by rw [set_get hk, if_pos rfl]⟩
    · obtain ⟨j, hj⟩ := mem_dd'.1 h
      refine mem_dd'.2 ⟨j, ?_⟩
      rw [set_get hk, if_neg ?_]
      · exact hj
      · rintro rfl
        rw [h0] at hj; cases hj

/-- 'q' is there ahead of 'q''. -/
def ahead (t : Tb) (q q' : Nat) : Prop := ∃ k : Nat, t[k]? = some (some q) ∧ ∀ j : Nat, j ≤ k → t[j]? ≠ some (some q')

theorem dd_pw (t : Tb) : (dd t).Pairwise (ahead t) := by
  have key : ∀ n, n ≤ t.length → (dd (t.take n)).Pairwise (ahead t) := by
    intro n
    induction n with
    | zero => intro _; simp [dd]
    | succ n ih =>
      intro hn
      have hg : t[n]? = some t[n] := List.getElem?_eq_getElem (by omega)
      rw [dd_take t hg]
      have ih := ih (by omega)
      cases ho : t[n] with
      | none => exact ih
      | some q =>
        rw [ho] at hg
        unfold dstep
        by_cases hq : q ∈ dd (t.take n)
        · simpa only [if_pos hq] using ih
        · simp only [if_neg hq]
          rw [List.pairwise_append]
          refine ⟨ih, by simp, fun r hr s hs => ?_⟩
          rw [List.mem_singleton] at hs
          subst hs
          obtain ⟨k, hk⟩ := mem_dd'.1 hr
          rw [List.getElem?_take] at hk
          split at hk
          · rename_i hkn
            refine ⟨k, hk, fun j hj hjs => hq (mem_dd'.2 ⟨j, ?_⟩)⟩
            rw [List.getElem?_take, if_pos (by omega)]
            exact hjs
          · cases hk
  have := key t.length (Nat.le_refl _)
  rwa [List.take_length] at this

theorem ahead_ne {t : Tb} {q q' : Nat} (h : ahead t q q') : q ≠ q' := by
  rintro rfl
  obtain ⟨k, h1, h2⟩ := h
  exact h2 k (Nat.le_refl _) h1
theorem dd_nodup (t : Tb) : (dd t).Nodup := (dd_pw t).imp ahead_ne

/-- A key's first place. -/
def fst1 (t : Tb) (q : Nat) : Nat := (plc t q)[0]?.getD 0
theorem plc_ne {t : Tb} {q : Nat} (h : q ∈ dd t) : plc t q ≠ [] := by
  obtain ⟨k, hk⟩ := mem_dd'.1 h
  intro e
  have := mem_plc.2 hk
  rw [e] at this
  cases this
theorem plc_nil {t : Tb} {q : Nat} (h : q ∉ dd t) : plc t q = [] := by
  apply List.eq_nil_iff_forall_not_mem.2
  intro k hk
  exact h (mem_dd'.2 ⟨k, mem_plc.1 hk⟩)
theorem fst1_get {t : Tb} {q : Nat} (h : q ∈ dd t) : (plc t q)[0]? = some (fst1 t q) := by
  have := List.length_pos_iff.2 (plc_ne h)
  simp [fst1, List.getElem?_eq_getElem this]
theorem fst1_le {t : Tb} {q k : Nat} (h : k ∈ plc t q) : fst1 t q ≤ k := by
  obtain ⟨i, hi⟩ := List.getElem?_of_mem h
  obtain ⟨hl, e⟩ := List.getElem?_eq_some_iff.1 hi
  have h0 : (plc t q)[0]? = some (plc t q)[0] := List.getElem?_eq_getElem (by omega)
  simp only [fst1, h0, Option.getD_some]
  rcases Nat.eq_zero_or_pos i with h1 | h1
  · subst h1; omega
  · have := List.pairwise_iff_getElem.1 (plc_pw t q) 0 i (by omega) hl h1
    omega
theorem fst1_mem {t : Tb} {q : Nat} (h : q ∈ dd t) : t[fst1 t q]? = some (some q) := mem_plc.1 (List.mem_of_getElem? (fst1_get h))
theorem ahead_lt {t : Tb} {q q' : Nat} (h : ahead t q q') (h' : q' ∈ dd t) : fst1 t q < fst1 t q' := by
  obtain ⟨k, h1, h2⟩ := h
  have := fst1_le (mem_plc.2 h1)
  rcases Nat.lt_or_ge k (fst1 t q') with h3 | h3
  · omega
  · exact absurd (fst1_mem h') (h2 _ h3)

/-! ### The files, as the document has them: by their first places -/

structure E18 where
  x : FX
  r : Int
  d : List Nat

def mk18 (t : Tb) (ob : Nat → FX) (q : Nat) : E18 := ⟨ob q, (plc t q).length, plc t q⟩
def can (t : Tb) (ob : Nat → FX) : List E18 := (dd t).map (mk18 t ob)

/-- One more key, at its place. -/
theorem ins_dd {t : Tb} {S : List Nat} {q k : Nat} (hq : q ∈ dd t) (hS : q ∉ S) {out : List Nat} (ho : out = (dd t).filter (fun x => decide (x ∈ S))) (hk : k ≤ out.length)
    (h1 : ∀ i x, i < k → out[i]? = some x → fst1 t x < fst1 t q) (h2 : ∀ x, out[k]? = some x → ¬ fst1 t x < fst1 t q) :
    out.take k ++ q :: out.drop k = (dd t).filter (fun x => decide (x ∈ S ++ [q])) := by
  obtain ⟨a, b, e⟩ := List.append_of_mem hq
  have hpw := dd_pw t
  have hnd := dd_nodup t
  rw [e] at hpw hnd
  rw [List.pairwise_append, List.pairwise_cons] at hpw
  rw [List.nodup_append, List.nodup_cons] at hnd
  have ha : ∀ x ∈ a, fst1 t x < fst1 t q := fun x hx => ahead_lt (hpw.2.2 x hx q (by simp)) hq
  have hb : ∀ x ∈ b, ¬ fst1 t x < fst1 t q := fun x hx => by
    have := ahead_lt (hpw.2.1.1 x hx) (by rw [e]; simp [hx])
    omega
  have hqa : q ∉ a := fun h => hnd.2.2 q h q (by simp) rfl
  have hqb : q ∉ b := hnd.2.1.1
  have fa : ∀ c : List Nat, q ∉ c → c.filter (fun x => decide (x ∈ S ++ [q])) = c.filter (fun x => decide (x ∈ S)) := fun c hc => by
    apply List.filter_congr
    intro x hx
    have : x ≠ q := fun h => hc (h ▸ hx)
    simp [this]
  have eo : out = a.filter (fun x => decide (x ∈ S)) ++ b.filter (fun x => decide (x ∈ S)) := by
    rw [ho, e, List.filter_append, List.filter_cons_of_neg (by simpa using hS)]
  rw [e, List.filter_append, List.filter_cons_of_pos (by simp), fa a hqa, fa b hqb]
  have hkk : k = (a.filter (fun x => decide (x ∈ S))).length := by
    rcases Nat.lt_trichotomy k (a.filter (fun x => decide (x ∈ S))).length with h | h | h
    · have hg : out[k]? = some ((a.filter (fun x => decide (x ∈ S)))[k]) := by
        rw [eo, List.getElem?_append_left h, List.getElem?_eq_getElem h]
      have hm : (a.filter (fun x => decide (x ∈ S)))[k] ∈ a := (List.mem_filter.1 (List.getElem_mem h)).1
      exact absurd (ha _ hm) (h2 _ hg)
    · exact h
    · have hl : out.length = (a.filter (fun x => decide (x ∈ S))).length + (b.filter (fun x => decide (x ∈ S))).length := by rw [eo, List.length_append]
      have hlt : 0 < (b.filter (fun x => decide (x ∈ S))).length := by omega
      have hg : out[(a.filter (fun x => decide (x ∈ S))).length]? = some ((b.filter (fun x => decide (x ∈ S)))[0]) := by
        rw [eo, List.getElem?_append_right (Nat.le_refl _), Nat.sub_self, List.getElem?_eq_getElem hlt]
      have hm : (b.filter (fun x => decide (x ∈ S)))[0] ∈ b := (List.mem_filter.1 (List.getElem_mem hlt)).1
      exact absurd (h1 _ _ h hg) (hb _ hm)
  rw [hkk, eo, List.take_left, List.drop_left]
/-- A key that nothing names. -/
theorem ins_dd_none {t : Tb} {S : List Nat} {q : Nat} (hq : q ∉ dd t) : (dd t).filter (fun x => decide (x ∈ S ++ [q])) = (dd t).filter (fun x => decide (x ∈ S)) := by
  apply List.filter_congr
  intro x hx
  have : x ≠ q := fun h => hq (h ▸ hx)
  simp [this]

/-! ### Numbers -/

/-- The place of a process's descriptor. -/
def plN (pid fd : Nat) : Nat := (pid - 1) * 6 + fd
def okPF (pid fd : Int) : Prop := 1 ≤ pid ∧ pid ≤ 8 ∧ 0 ≤ fd ∧ fd < 6
instance (pid fd : Int) : Decidable (okPF pid fd) := by unfold okPF; infer_instance
def pl (pid fd : Int) : Nat := plN pid.toNat fd.toNat

theorem pl_lt {pid fd : Int} (h : okPF pid fd) : pl pid fd < 48 := by
  obtain ⟨h1, h2, h3, h4⟩ := h
  unfold pl plN
  omega
theorem pl_inj {pid fd : Int} {k : Nat} (hk : k < 48) : ((k / 6 : Nat) : Int) + 1 = pid ∧ ((k % 6 : Nat) : Int) = fd ↔ okPF pid fd ∧ pl pid fd = k := by
  unfold okPF pl plN
  constructor
  · rintro ⟨rfl, rfl⟩
    omega
  · rintro ⟨⟨h1, h2, h3, h4⟩, h5⟩
    omega

/-- What a descriptor names. -/
def nam (t : Tb) (pid fd : Int) : Option Nat := if okPF pid fd then (t[pl pid fd]?).getD none else none

/-- The lowest free descriptor, from 'fd' on, 'n' of them. -/
def freeF (t : Tb) (pid : Int) : Nat → Nat → Option Nat
  | 0, _ => none
  | n + 1, fd => if nam t pid fd = none then some fd else freeF t pid n (fd + 1)
def free18 (t : Tb) (pid : Int) : Option Nat := freeF t pid 6 0
theorem freeF_some {t : Tb} {pid : Int} : ∀ {n fd r : Nat}, freeF t pid n fd = some r → nam t pid r = none ∧ fd ≤ r ∧ r < fd + n
  | 0, _, _, h => by simp [freeF] at h
  | n + 1, fd, r, h => by
    unfold freeF at h
    split at h
    · rename_i h0
      cases h
      exact ⟨h0, by omega, by omega⟩
    · have := freeF_some h
      exact ⟨this.1, by omega, by omega⟩
theorem free_none {t : Tb} {pid : Int} {r : Nat} (ht : t.length = 48) (h1 : 1 ≤ pid) (h2 : pid ≤ 8) (h : free18 t pid = some r) : okPF pid r ∧ t[pl pid r]? = some none ∧ r < 6 := by
  obtain ⟨h3, -, h5⟩ := freeF_some h
  have ho : okPF pid r := ⟨h1, h2, by omega, by omega⟩
  have hl := pl_lt ho
  unfold nam at h3
  rw [if_pos ho, List.getElem?_eq_getElem (by omega), Option.getD_some] at h3
  exact ⟨ho, by rw [List.getElem?_eq_getElem (by omega), h3], by omega⟩

theorem freeF_eq {t : Tb} {pid : Int} : ∀ {n fd j : Nat}, j < n → nam t pid ((fd + j : Nat) : Int) = none → (∀ i, i < j → nam t pid ((fd + i : Nat) : Int) ≠ none) → freeF t pid n fd = some (fd + j)
  | 0, _, _, h, _, _ => by omega
  | n + 1, fd, 0, _, h, _ => by
    unfold freeF
    rw [if_pos (by simpa using h)]
    rfl
  | n + 1, fd, j + 1, hj, h, hi => by
    unfold freeF
    rw [if_neg (by simpa using hi 0 (by omega))]
    have := freeF_eq (t := t) (pid := pid) (n := n) (fd := fd + 1) (j := j) (by omega) (by rw [show fd + 1 + j = fd + (j + 1) by omega]; exact h) fun i hi' => by
      rw [show fd + 1 + i = fd + (i + 1) by omega]; exact hi (i + 1) (by omega)
    rw [this, show fd + 1 + j = fd + (j + 1) by omega]
theorem free_some {t : Tb} {pid : Int} {r : Nat} (hr : r < 6) (h : nam t pid r = none) (hi : ∀ i : Nat, i < r → nam t pid i ≠ none) : free18 t pid = some r := by
  have := freeF_eq (t := t) (pid := pid) (n := 6) (fd := 0) (j := r) hr (by simpa using h) fun i hi' => by simpa using hi i hi'
  simpa [free18] using this
theorem free_no {t : Tb} {pid : Int} (hi : ∀ i : Nat, i < 6 → nam t pid i ≠ none) : free18 t pid = none := by
  cases h : free18 t pid with
  | none => rfl
  | some r => have := freeF_some h; exact absurd this.1 (hi r (by omega))
theorem nam_get {t : Tb} (ht : t.length = 48) {pid fd : Int} (h : okPF pid fd) : t[pl pid fd]? = some (nam t pid fd) := by
  have := pl_lt h
  rw [nam, if_pos h, List.getElem?_eq_getElem (by omega), Option.getD_some]
theorem nam_dd {t : Tb} {pid fd : Int} {q : Nat} (h : nam t pid fd = some q) : q ∈ dd t ∧ okPF pid fd ∧ t[pl pid fd]? = some (some q) := by
  unfold nam at h
  split at h
  · rename_i ho
    cases hg : t[pl pid fd]? with
    | none => rw [hg] at h; cases h
    | some o =>
      rw [hg] at h
      simp only [Option.getD_some] at h
      subst h
      exact ⟨mem_dd'.2 ⟨_, hg⟩, ho, rfl⟩
  · cases h

def upO (ob : Nat → FX) (q : Nat) (x : FX) : Nat → FX := fun r => if q = r then x else ob r

/-! ### Each deed -/

def leftN (t : Tb) (pid : Int) (n : Nat) : Nat := ((List.range n).filter fun fd : Nat => decide (okPF pid fd) && (nam t pid fd).isNone).length
def left18 (t : Tb) (pid : Int) : Nat := leftN t pid 6
theorem leftN_succ (t : Tb) (pid : Int) (n : Nat) : leftN t pid (n + 1) = leftN t pid n + if okPF pid n ∧ nam t pid n = none then 1 else 0 := by
  unfold leftN
  rw [List.range_succ, List.filter_append, List.length_append]
  congr 1
  by_cases h1 : okPF pid n <;> cases h2 : nam t pid n <;> simp [h1, h2]
theorem leftN_le (t : Tb) (pid : Int) (n : Nat) : leftN t pid n ≤ n := by
  have := List.length_filter_le (fun fd : Nat => decide (okPF pid fd) && (nam t pid fd).isNone) (List.range n)
  simpa [leftN] using this

def forkT (t : Tb) (pid child : Int) (fd : Nat) : Tb := match nam t pid fd with
  | none => t
  | some q => if okPF child fd ∧ nam t child fd = none then t.set (pl child fd) (some q) else t
def forkN (t : Tb) (pid child : Int) (n : Nat) : Tb := (List.range n).foldl (fun (t : Tb) (fd : Nat) => forkT t pid child fd) t
def fork18 (t : Tb) (pid child : Int) : Tb := if pid = child then t else forkN t pid child 6
theorem forkN_succ (t : Tb) (pid child : Int) (n : Nat) : forkN t pid child (n + 1) = forkT (forkN t pid child n) pid child n := by
  simp [forkN, List.range_succ]

def goneT (t : Tb) (pid : Int) (fd : Nat) : Tb := match nam t pid fd with
  | none => t
  | some _ => t.set (pl pid fd) none
def gone18 (t : Tb) (pid : Int) (n : Nat) : Tb := (List.range n).foldl (fun (t : Tb) (fd : Nat) => goneT t pid fd) t
theorem gone18_succ (t : Tb) (pid : Int) (n : Nat) : gone18 t pid (n + 1) = goneT (gone18 t pid n) pid n := by
  simp [gone18, List.range_succ]
/-- What goes: each file, and how many still name it. -/
def goneE (t : Tb) (ob : Nat → FX) (pid : Int) (fd : Nat) : Option (FX × Int) := match nam (gone18 t pid fd) pid fd with
  | none => none
  | some q => some (ob q, ((plc (gone18 t pid fd) q).length : Int) - 1)
def goneL (t : Tb) (ob : Nat → FX) (pid : Int) (n : Nat) : List (FX × Int) := (List.range n).filterMap (goneE t ob pid)
theorem goneL_len (t : Tb) (ob : Nat → FX) (pid : Int) (n : Nat) : (goneL t ob pid n).length ≤ n := by
  have := List.length_filterMap_le (goneE t ob pid) (List.range n)
  simpa [goneL] using this
theorem goneL_none {t : Tb} (ob : Nat → FX) {pid : Int} {n : Nat} (h : nam (gone18 t pid n) pid n = none) : goneL t ob pid (n + 1) = goneL t ob pid n := by
  unfold goneL
  rw [List.range_succ, List.filterMap_append]
  simp [goneE, h]
theorem goneL_some {t : Tb} (ob : Nat → FX) {pid : Int} {n q : Nat} (h : nam (gone18 t pid n) pid n = some q) : goneL t ob pid (n + 1) = goneL t ob pid n ++ [(ob q, ((plc (gone18 t pid n) q).length : Int) - 1)] := by
  unfold goneL
  rw [List.range_succ, List.filterMap_append]
  simp [goneE, h]

def ids18 (t : Tb) (ob : Nat → FX) (kind : Int) : List Int := (((dd t).filter fun q => decide ((ob q).k = kind)).map fun q => (ob q).i).foldl putL []

def bit18 (b : Bool) : Int := if b then 1 else 0
def fxw (x : FX) : List Int := [IntKind.u64.wrap x.k, IntKind.u64.wrap x.i, IntKind.u64.wrap x.o, bit18 x.a]
def idx18 (t : Tb) (k : Nat) : Int := match (t[k]?).getD none with
  | none => 0
  | some q => ((dd t).idxOf q : Int) + 1
def enc18 (t : Tb) (ob : Nat → FX) : List Int := ((dd t).length : Int) :: (((dd t).map fun q => fxw (ob q)).flatten ++ (List.range 48).map (idx18 t))

end Go.Den

set_option linter.unusedSimpArgs false
namespace Go.Den
open Go

def hasK (k : Nat) (e : E18) : Bool := decide (k ∈ e.d)
/-- Which file a place names. -/
def atL (L : List E18) (k : Nat) : Option Nat := L.findIdx? (hasK k)
def idxL (L : List E18) (k : Nat) : Int := match atL L k with
  | none => 0
  | some i => (i : Int) + 1
def encC (L : List E18) : List Int := (L.length : Int) :: ((L.map fun e => fxw e.x).flatten ++ (List.range 48).map (idxL L))

theorem findIdx?_idxOf {l : List Nat} {q : Nat} (h : q ∈ l) : l.findIdx? (fun x => x == q) = some (l.idxOf q) := by
  rw [List.findIdx?_eq_some_iff_findIdx_eq]
  exact ⟨List.idxOf_lt_length_iff.2 h, rfl⟩

theorem atL_can (t : Tb) (ob : Nat → FX) (k : Nat) : atL (can t ob) k = ((t[k]?).getD none).map fun q => (dd t).idxOf q := by
  unfold atL can
  rw [List.findIdx?_map]
  have hf : ∀ q, (hasK k ∘ mk18 t ob) q = decide (t[k]? = some (some q)) := fun q => by
    simp only [Function.comp_apply, hasK, mk18]
    exact decide_eq_decide.2 mem_plc
  cases h : (t[k]?).getD none with
  | none =>
    rw [List.findIdx?_eq_none_iff.2]
    · rfl
    · intro q _
      rw [hf]
      have : t[k]? ≠ some (some q) := fun e => by rw [e] at h; cases h
      simpa using this
  | some q =>
    have hq : t[k]? = some (some q) := by
      cases hk : t[k]? with
      | none => rw [hk] at h; cases h
      | some o => rw [hk] at h; exact congrArg some h
    rw [show (hasK k ∘ mk18 t ob) = fun x => x == q from funext fun x => by
      rw [hf, hq]
      rw [Bool.eq_iff_iff, decide_eq_true_eq, beq_iff_eq, Option.some.injEq, Option.some.injEq]
      exact ⟨Eq.symm, Eq.symm⟩]
    exact findIdx?_idxOf (mem_dd'.2 ⟨k, hq⟩)

theorem idxL_can (t : Tb) (ob : Nat → FX) (k : Nat) : idxL (can t ob) k = idx18 t k := by
  unfold idxL idx18
  rw [atL_can]
  cases (t[k]?).getD none <;> rfl
theorem encC_can (t : Tb) (ob : Nat → FX) : encC (can t ob) = enc18 t ob := by
  unfold encC enc18
  rw [show idxL (can t ob) = idx18 t from funext (idxL_can t ob)]
  simp only [can, List.length_map, List.map_map]
  rfl

/-! ### Other keys -/

section
variable {t tab : Tb} {ren : Nat → Nat} {ob fx : Nat → FX}

theorem ren_get (ht : t = tab.map (Option.map ren)) (k : Nat) : t[k]? = (tab[k]?).map (Option.map ren) := by rw [ht, List.getElem?_map]
theorem ren_iff (ht : t = tab.map (Option.map ren)) (hi : ∀ i j, i ∈ dd tab → j ∈ dd tab → ren i = ren j → i = j) {i k : Nat} (h : i ∈ dd tab) : t[k]? = some (some (ren i)) ↔ tab[k]? = some (some i) := by
  rw [ren_get ht]
  constructor
  · intro h1
    cases hk : tab[k]? with
    | none => rw [hk] at h1; cases h1
    | some o =>
      rw [hk] at h1
      cases o with
      | none => cases h1
      | some j =>
        simp only [Option.map_some, Option.some.injEq] at h1
        rw [hi j i (mem_dd'.2 ⟨k, hk⟩) h h1]
  · intro h1
    rw [h1]
    rfl
theorem dd_ren (ht : t = tab.map (Option.map ren)) (hi : ∀ i j, i ∈ dd tab → j ∈ dd tab → ren i = ren j → i = j) : dd t = (dd tab).map ren := by
  have key : ∀ n, n ≤ tab.length → dd (t.take n) = (dd (tab.take n)).map ren := by
    intro n
    induction n with
    | zero => intro _; simp [dd]
    | succ n ih =>
      intro hn
      have hg : tab[n]? = some tab[n] := List.getElem?_eq_getElem (by omega)
      have hg' : t[n]? = some ((tab[n]).map ren) := by rw [ren_get ht, hg]; rfl
      rw [dd_take t hg', dd_take tab hg, ih (by omega)]
      cases ho : tab[n] with
      | none => rfl
      | some q =>
        rw [ho] at hg
        have hq : q ∈ dd tab := mem_dd'.2 ⟨n, hg⟩
        simp only [Option.map_some, dstep]
        have e : ren q ∈ (dd (tab.take n)).map ren ↔ q ∈ dd (tab.take n) := by
          constructor
          · intro h
            obtain ⟨r, hr, he⟩ := List.mem_map.1 h
            have hrd : r ∈ dd tab := mem_dd.2 (List.mem_of_mem_take (mem_dd.1 hr))
            rw [← hi r q hrd hq he]
            exact hr
          · exact fun h => List.mem_map.2 ⟨q, h, rfl⟩
        by_cases h : q ∈ dd (tab.take n)
        · rw [if_pos h, if_pos (e.2 h)]
        · rw [if_neg h, if_neg fun hh => h (e.1 hh)]
          simp
  have hl : t.length = tab.length := by rw [ht]; simp
  have := key tab.length (Nat.le_refl _)
  rwa [List.take_length, ← hl, List.take_length] at this
theorem plc_ren (ht : t = tab.map (Option.map ren)) (hi : ∀ i j, i ∈ dd tab → j ∈ dd tab → ren i = ren j → i = j) {i : Nat} (h : i ∈ dd tab) : plc t (ren i) = plc tab i :=
  rise_ext (plc_pw _ _) (plc_pw _ _) fun k => by rw [mem_plc, mem_plc, ren_iff ht hi h]
theorem can_ren (ht : t = tab.map (Option.map ren)) (hi : ∀ i j, i ∈ dd tab → j ∈ dd tab → ren i = ren j → i = j) (ho : ∀ i, i ∈ dd tab → ob (ren i) = fx i) : can t ob = can tab fx := by
  unfold can
  rw [dd_ren ht hi, List.map_map]
  apply List.map_congr_left
  intro i h
  simp only [Function.comp_apply, mk18, ho i h, plc_ren ht hi h]
end

/-! ### Words back -/

def wAt (ws : List Int) (i : Nat) : Int := (ws[i]?).getD 0
def dN (ws : List Int) : Nat := (wAt ws 0).toNat
def dF (ws : List Int) (i : Nat) : FX := ⟨wAt ws (1 + 4 * i), wAt ws (2 + 4 * i), wAt ws (3 + 4 * i), decide (wAt ws (4 + 4 * i) = 1)⟩
def okFile (ws : List Int) (i : Nat) : Prop := 1 ≤ wAt ws (1 + 4 * i) ∧ wAt ws (1 + 4 * i) ≤ 4 ∧ wAt ws (2 + 4 * i) ≤ 1048576 ∧ wAt ws (3 + 4 * i) ≤ 1048576 ∧ wAt ws (4 + 4 * i) ≤ 1
def dD (ws : List Int) (k : Nat) : Int := wAt ws (1 + 4 * dN ws + k)
def dK (ws : List Int) (k : Nat) : Option Nat := if dD ws k = 0 then none else some ((dD ws k).toNat - 1)
def dT (ws : List Int) : Tb := (List.range 48).map (dK ws)
def okHead (ws : List Int) : Prop := 1 ≤ ws.length ∧ wAt ws 0 ≤ 32 ∧ ws.length = 1 + 4 * dN ws + 48
def decOK (ws : List Int) : Prop := okHead ws ∧ (∀ i, i < dN ws → okFile ws i) ∧ (∀ k, k < 48 → dD ws k ≤ dN ws) ∧ enc18 (dT ws) (dF ws) = ws

theorem dT_len (ws : List Int) : (dT ws).length = 48 := by simp [dT]
theorem dT_get (ws : List Int) {k : Nat} (hk : k < 48) : (dT ws)[k]? = some (dK ws k) := by simp [dT, hk]
theorem dT_key {ws : List Int} (h0 : ∀ i, 0 ≤ wAt ws i) (h : ∀ k, k < 48 → dD ws k ≤ dN ws) {i : Nat} (hi : i ∈ dd (dT ws)) : i < dN ws := by
  obtain ⟨k, hk⟩ := mem_dd'.1 hi
  have hlt : k < 48 := by have := (List.getElem?_eq_some_iff.1 hk).1; rwa [dT_len] at this
  rw [dT_get ws hlt] at hk
  have hk := Option.some.inj hk
  unfold dK at hk
  split at hk
  · cases hk
  · have h1 := Option.some.inj hk
    have h2 := h k hlt
    have h3 : 0 ≤ dD ws k := h0 _
    omega

/-! ### What is read was written -/

def okX (x : FX) : Prop := 1 ≤ x.k ∧ x.k ≤ 4 ∧ 0 ≤ x.i ∧ x.i ≤ 1048576 ∧ 0 ≤ x.o ∧ x.o ≤ 1048576

end Go.Den

set_option linter.unusedSimpArgs false
namespace Go.Den
open Go

theorem wAt_app {a b : List Int} {i : Nat} (h : a.length ≤ i) : wAt (a ++ b) i = wAt b (i - a.length) := by
  unfold wAt
  rw [List.getElem?_append_right h]
theorem bit_one (b : Bool) : decide (bit18 b = 1) = b := by cases b <;> rfl

section
variable {t : Tb} {ob : Nat → FX}

theorem enc_len (t : Tb) (ob : Nat → FX) : (enc18 t ob).length = 1 + 4 * (dd t).length + 48 := by
  unfold enc18
  have : ∀ l : List Nat, ((l.map fun q => fxw (ob q)).flatten).length = 4 * l.length := by
    intro l
    induction l with
    | nil => rfl
    | cons a l ih => rw [List.map_cons, List.flatten_cons, List.length_append, ih]; simp [fxw]; omega
  simp only [List.length_cons, List.length_append, List.length_map, List.length_range, this]
  omega
theorem flat_len (ob : Nat → FX) (l : List Nat) : ((l.map fun q => fxw (ob q)).flatten).length = 4 * l.length := by
  induction l with
  | nil => rfl
  | cons a l ih => rw [List.map_cons, List.flatten_cons, List.length_append, ih]; simp [fxw]; omega
theorem enc_at0 (t : Tb) (ob : Nat → FX) : wAt (enc18 t ob) 0 = (dd t).length := rfl
theorem enc_file (t : Tb) (ob : Nat → FX) {i j q : Nat} (hi : (dd t)[i]? = some q) (hj : j < 4) : wAt (enc18 t ob) (1 + 4 * i + j) = ((fxw (ob q))[j]?).getD 0 := by
  have hlt := (List.getElem?_eq_some_iff.1 hi).1
  unfold wAt enc18
  rw [show 1 + 4 * i + j = (4 * i + j) + 1 by omega, List.getElem?_cons_succ, List.getElem?_append_left (by rw [flat_len]; omega)]
  have := flatten_at (vss := (dd t).map fun q => fxw (ob q)) (k := 4) (by intro vs hv; simp only [List.mem_map] at hv; obtain ⟨x, _, rfl⟩ := hv; rfl) (i := i) (j := j) (vs := fxw (ob q)) (by rw [List.getElem?_map, hi]; rfl) hj
  rw [Nat.mul_comm] at this
  rw [this]
theorem enc_place (t : Tb) (ob : Nat → FX) {k : Nat} (hk : k < 48) : wAt (enc18 t ob) (1 + 4 * (dd t).length + k) = idx18 t k := by
  unfold wAt enc18
  rw [show 1 + 4 * (dd t).length + k = (4 * (dd t).length + k) + 1 by omega, List.getElem?_cons_succ, List.getElem?_append_right (by rw [flat_len]; omega), flat_len]
  rw [show 4 * (dd t).length + k - 4 * (dd t).length = k by omega]
  simp [hk]

theorem enc_wf (hl : t.length = 48) (i : Nat) : 0 ≤ wAt (enc18 t ob) i ∧ wAt (enc18 t ob) i < 18446744073709551616 := by
  have key : ∀ x ∈ enc18 t ob, 0 ≤ x ∧ x < 18446744073709551616 := by
    intro x hx
    have hd := dd_len t
    unfold enc18 at hx
    rw [List.mem_cons, List.mem_append] at hx
    rcases hx with rfl | hx | hx
    · omega
    · obtain ⟨l, hl1, hl2⟩ := List.mem_flatten.1 hx
      obtain ⟨q, _, rfl⟩ := List.mem_map.1 hl1
      simp only [fxw, List.mem_cons, List.not_mem_nil, or_false] at hl2
      rcases hl2 with rfl | rfl | rfl | rfl
      · rw [IntKind.wrap_u64]; omega
      · rw [IntKind.wrap_u64]; omega
      · rw [IntKind.wrap_u64]; omega
      · cases (ob q).a <;> decide
    · obtain ⟨k, _, rfl⟩ := List.mem_map.1 hx
      unfold idx18
      cases (t[k]?).getD none with
      | none => simp
      | some q =>
        have := List.idxOf_le_length (l := dd t) (a := q)
        simp only
        omega
  unfold wAt
  cases h : (enc18 t ob)[i]? with
  | none => simp
  | some x => exact key x (List.mem_of_getElem? h)

/-- What is written is read, and is the same. -/
theorem dec_enc (hl : t.length = 48) (hn : (dd t).length ≤ 32) (hx : ∀ q, q ∈ dd t → okX (ob q)) :
    decOK (enc18 t ob) ∧ can (dT (enc18 t ob)) (dF (enc18 t ob)) = can t ob := by
  obtain ⟨ws, hws⟩ : ∃ ws, ws = enc18 t ob := ⟨_, rfl⟩
  have hN : dN ws = (dd t).length := by rw [hws, dN, enc_at0]; omega
  have hfx : ∀ i q, (dd t)[i]? = some q → dF ws i = ob q ∧ okFile ws i := fun i q hi => by
    have hq := hx q (List.mem_of_getElem? hi)
    unfold okX at hq
    have e0 := enc_file t ob hi (j := 0) (by omega)
    have e1 := enc_file t ob hi (j := 1) (by omega)
    have e2 := enc_file t ob hi (j := 2) (by omega)
    have e3 := enc_file t ob hi (j := 3) (by omega)
    rw [← hws] at e0 e1 e2 e3
    simp only [fxw, List.getElem?_cons_zero, List.getElem?_cons_succ, Option.getD_some] at e0 e1 e2 e3
    rw [IntKind.wrap_u64] at e0 e1 e2
    rw [Nat.add_zero] at e0
    rw [show 1 + 4 * i + 1 = 2 + 4 * i by omega] at e1
    rw [show 1 + 4 * i + 2 = 3 + 4 * i by omega] at e2
    rw [show 1 + 4 * i + 3 = 4 + 4 * i by omega] at e3
    have b1 : 0 ≤ bit18 (ob q).a ∧ bit18 (ob q).a ≤ 1 := by cases (ob q).a <;> decide
    refine ⟨?_, ?_⟩
    · unfold dF
      rw [e0, e1, e2, e3, bit_one]
      cases h : ob q with
      | mk k i o a =>
        rw [h] at hq
        simp only at hq ⊢
        congr 1 <;> omega
    · unfold okFile
      rw [e0, e1, e2, e3]
      omega
  have hD : ∀ k, k < 48 → dD ws k = idx18 t k := fun k hk => by
    have := enc_place t ob hk
    rw [← hws] at this
    unfold dD
    rw [hN]
    exact this
  have hK : ∀ k, k < 48 → dK ws k = ((t[k]?).getD none).map fun q => (dd t).idxOf q := fun k hk => by
    unfold dK
    rw [hD k hk]
    unfold idx18
    cases (t[k]?).getD none with
    | none => rfl
    | some q =>
      simp only [Option.map_some]
      rw [if_neg (by omega)]
      congr 1
  have hle : ∀ k, k < 48 → dD ws k ≤ dN ws := fun k hk => by
    rw [hD k hk, hN]
    unfold idx18
    cases h : (t[k]?).getD none with
    | none => simp
    | some q =>
      have hg : t[k]? = some (some q) := by
        cases h2 : t[k]? with
        | none => rw [h2] at h; cases h
        | some o => rw [h2] at h; exact congrArg some h
      have := List.idxOf_lt_length_iff.2 (mem_dd'.2 ⟨k, hg⟩)
      simp only
      omega
  have h0 : ∀ i, 0 ≤ wAt ws i := by
    intro i
    rcases Nat.lt_or_ge i ws.length with h | h
    · have hlen := enc_len t ob
      rw [← hws] at hlen
      rcases Nat.eq_zero_or_pos i with h1 | h1
      · subst h1; rw [hws, enc_at0]; omega
      · rcases Nat.lt_or_ge i (1 + 4 * (dd t).length) with h2 | h2
        · have hq : (dd t)[(i - 1) / 4]? = some ((dd t)[(i - 1) / 4]'(by omega)) := List.getElem?_eq_getElem _
          have := enc_file t ob hq (j := (i - 1) % 4) (by omega)
          rw [show 1 + 4 * ((i - 1) / 4) + (i - 1) % 4 = i by omega, ← hws] at this
          rw [this]
          have hj : (i - 1) % 4 = 0 ∨ (i - 1) % 4 = 1 ∨ (i - 1) % 4 = 2 ∨ (i - 1) % 4 = 3 := by omega
          rcases hj with h | h | h | h <;> rw [h] <;> simp only [fxw, List.getElem?_cons_zero, List.getElem?_cons_succ, Option.getD_some]
          · rw [IntKind.wrap_u64]; omega
          · rw [IntKind.wrap_u64]; omega
          · rw [IntKind.wrap_u64]; omega
          · cases (ob _).a <;> decide
        · have := hD (i - (1 + 4 * (dd t).length)) (by omega)
          unfold dD at this
          rw [hN, show 1 + 4 * (dd t).length + (i - (1 + 4 * (dd t).length)) = i by omega] at this
          rw [this]
          unfold idx18
          cases (t[(i - (1 + 4 * (dd t).length))]?).getD none with
          | none => simp
          | some q => simp only; omega
    · unfold wAt
      rw [List.getElem?_eq_none h]
      simp
  obtain ⟨ren, hren⟩ : ∃ ren : Nat → Nat, ∀ i, ren i = (dd t)[i]?.getD 0 := ⟨_, fun _ => rfl⟩
  have ht : t = (dT ws).map (Option.map ren) := by
    apply List.ext_getElem?
    intro k
    rw [List.getElem?_map]
    rcases Nat.lt_or_ge k 48 with hk | hk
    · rw [dT_get ws hk, hK k hk, Option.map_some, List.getElem?_eq_getElem (show k < t.length by omega), Option.getD_some]
      cases h : t[k] with
      | none => rfl
      | some q =>
        have hq : q ∈ dd t := mem_dd'.2 ⟨k, by rw [List.getElem?_eq_getElem (show k < t.length by omega), h]⟩
        have hlt := List.idxOf_lt_length_iff.2 hq
        simp only [Option.map_some, hren]
        rw [List.getElem?_eq_getElem hlt, List.getElem_idxOf]
        rfl
    · rw [List.getElem?_eq_none (by omega), List.getElem?_eq_none (by rw [dT_len]; exact hk)]
      rfl
  have hkey : ∀ i, i ∈ dd (dT ws) → i < (dd t).length := fun i hi => by rw [← hN]; exact dT_key h0 hle hi
  have hgd : ∀ i, i < (dd t).length → (dd t)[i]? = some (ren i) := fun i hi => by
    rw [hren, List.getElem?_eq_getElem hi]
    rfl
  have hinj : ∀ i j, i ∈ dd (dT ws) → j ∈ dd (dT ws) → ren i = ren j → i = j := fun i j hi hj e => by
    have h1 := hgd i (hkey i hi)
    have h2 := hgd j (hkey j hj)
    rw [e] at h1
    have h1 := List.getElem?_eq_some_iff.1 h1
    have h2 := List.getElem?_eq_some_iff.1 h2
    exact (List.getElem_inj (dd_nodup t)).1 (h1.2.trans h2.2.symm)
  have hcan := can_ren (ob := ob) (fx := dF ws) ht hinj fun i hi => ((hfx i _ (hgd i (hkey i hi))).1).symm
  rw [← hws]
  refine ⟨⟨⟨?_, ?_, ?_⟩, fun i hi => ?_, hle, ?_⟩, hcan.symm⟩
  · rw [hws, enc_len]; omega
  · rw [hws, enc_at0]; omega
  · rw [hN, hws, enc_len]
  · exact (hfx i _ (hgd i (by omega))).2
  · rw [← encC_can, ← hcan, encC_can, hws]
end

end Go.Den
