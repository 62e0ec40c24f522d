/-
  exo, as plain functions: what environment 1 sees and is answered, whatever the others do.
  exo, as plain functions: what environment 1 sees is the same whatever the others do: they change nothing of it; its own calls go alike.
  exo, as plain functions: environment 1's own calls go alike in both; what it sees.
-/
import Derived.Test.YthpcakhhemdibaaGreatK13A
set_option linter.unusedVariables false
set_option linter.unusedSimpArgs false
namespace Go.Proofs
open Go Go.Den

/-! ### The capabilities of one environment -/
abbrev Vw := List (Int × Cap8)
def vw (L : List CE) (e : Int) : Vw := (L.filter fun c => c.env == e).map fun c => (c.slot, c.x)
def getW (v : Vw) (sl : Int) : Cap8 × Bool := match v.find? fun p => p.1 == sl with
  | none => (⟨0, 0, 0, 0⟩, false)
  | some p => (p.2, true)
theorem vw_cons (c : CE) (L : List CE) (e : Int) : vw (c :: L) e = if c.env = e then (c.slot, c.x) :: vw L e else vw L e := by
  unfold vw
  by_cases h : c.env = e <;> simp [h]
theorem mem_vw {L : List CE} {e : Int} {p : Int × Cap8} : p ∈ vw L e ↔ ∃ c ∈ L, c.env = e ∧ p = (c.slot, c.x) := by
  simp only [vw, List.mem_map, List.mem_filter, beq_iff_eq]
  constructor
  · rintro ⟨c, ⟨h1, h2⟩, rfl⟩; exact ⟨c, h1, h2, rfl⟩
  · rintro ⟨c, h1, h2, rfl⟩; exact ⟨c, ⟨h1, h2⟩, rfl⟩
theorem getV8_vw (L : List CE) (e sl : Int) : getV8 L e sl = getW (vw L e) sl := by
  unfold getV8 getW
  induction L with
  | nil => rfl
  | cons c L ih =>
    unfold look8 at ih ⊢
    rw [vw_cons]
    by_cases h : c.env = e
    · rw [if_pos h]
      by_cases h2 : c.slot = sl
      · rw [List.find?_cons_of_pos (by simp [isAt, h, h2]), List.find?_cons_of_pos (by simp [h2])]
      · rw [List.find?_cons_of_neg (by simp [isAt, h2]), List.find?_cons_of_neg (by simp [h2])]; exact ih
    · rw [if_neg h, List.find?_cons_of_neg (by simp [isAt, h])]; exact ih
theorem getV8_some {L : List CE} {e sl : Int} : look8 L e sl = none ↔ (getV8 L e sl).2 = false := by
  unfold getV8; cases look8 L e sl <;> simp
theorem has8_vw (L : List CE) (e k i r : Int) : has8 L e k i r = (vw L e).any fun p => covers8 p.2 k i r := by
  unfold has8
  induction L with
  | nil => rfl
  | cons c L ih =>
    rw [vw_cons, List.any_cons, ih]
    by_cases h : c.env = e <;> simp [h]
theorem vw_same {f : CE → CE} (hf : ∀ c, (f c).env = c.env ∧ (f c).slot = c.slot ∧ (f c).x = c.x) (L : List CE) (e : Int) : vw (L.map f) e = vw L e := by
  induction L with
  | nil => rfl
  | cons c L ih => rw [List.map_cons, vw_cons, vw_cons, ih, (hf c).1, (hf c).2.1, (hf c).2.2]
theorem vw_without (L : List CE) (e sl e' : Int) : vw (without L e sl) e' = if e' = e then (vw L e').filter (fun p => !(p.1 == sl)) else vw L e' := by
  unfold without
  induction L with
  | nil => split <;> rfl
  | cons c L ih =>
    by_cases h : isAt e sl c = true
    · rw [List.filter_cons_of_neg (by simp [h]), ih, vw_cons]
      obtain ⟨h1, h2⟩ := isAt_iff.1 h
      by_cases he : e' = e
      · rw [if_pos he, if_pos he, if_pos (h1.trans he.symm), List.filter_cons_of_neg (by simp [h2])]
      · rw [if_neg he, if_neg he, if_neg (by rw [h1]; exact fun z => he z.symm)]
    · rw [List.filter_cons_of_pos (by simp [h]), vw_cons, vw_cons, ih]
      by_cases he : e' = e
      · rw [if_pos he, if_pos he]
        by_cases hc : c.env = e'
        · rw [if_pos hc, if_pos hc, List.filter_cons_of_pos (by have : c.slot ≠ sl := fun z => h (isAt_iff.2 ⟨hc.trans he, z⟩); simpa using this)]
        · rw [if_neg hc, if_neg hc]
      · rw [if_neg he, if_neg he]
theorem getW_none {v : Vw} {sl : Int} (h : (getW v sl).2 = false) : ∀ p ∈ v, p.1 ≠ sl := by
  unfold getW at h
  split at h
  · rename_i hn
    intro p hp
    have := List.find?_eq_none.1 hn p hp
    simpa using this
  · cases h
theorem vw_drop (s : S8) (e sl e' : Int) : vw (dropS8 s e sl).L e' = if e' = e then (vw s.L e').filter (fun p => !(p.1 == sl)) else vw s.L e' := by
  unfold dropS8
  cases hl : look8 s.L e sl with
  | none =>
    dsimp only
    split
    · rename_i h
      subst h
      rw [getV8_some, getV8_vw] at hl
      exact (List.filter_eq_self.2 fun p hp => by have := getW_none hl p hp; simpa using this).symm
    · rfl
  | some g =>
    dsimp only
    rw [vw_same (fun c => ⟨(reparent_same g c).2.1, (reparent_same g c).2.2.1, (reparent_same g c).2.2.2⟩), vw_without]
/-! ### Roots, apart -/
def roots8 (c : S8) : Prop := ∀ x ∈ c.L, x.of_ = 0
def excl8 (c : S8) : Prop := ∀ x ∈ c.L, ∀ y ∈ c.L, meet8 x.x y.x = true → x.env = y.env
structure Ap (c : S8) : Prop where
  r : roots8 c
  x : excl8 c
theorem meet8_comm (a b : Cap8) : meet8 a b = meet8 b a := by
  unfold meet8
  have e : (a.k == b.k) = (b.k == a.k) := by
    by_cases h : a.k = b.k
    · rw [h]
    · rw [beq_eq_false_iff_ne.2 h, beq_eq_false_iff_ne.2 (Ne.symm h)]
  rw [Bool.and_assoc, Bool.and_assoc, Bool.and_comm (decide (b.i < a.i + a.n)), e]
theorem Ap.add {c : S8} (h : Ap c) {e : Int} {x : Cap8} (hf : ∀ y ∈ c.L, meet8 y.x x = false) : Ap (addS8 c e x) := by
  refine ⟨fun y hy => ?_, fun y hy z hz hm => ?_⟩
  · rcases mem_add hy with hy | hy
    · exact h.r y hy
    · exact hy.2.2
  · rcases mem_add hy with hy | ⟨hy, hy2, -⟩ <;> rcases mem_add hz with hz | ⟨hz, hz2, -⟩
    · exact h.x y hy z hz hm
    · rw [hz2, hf y hy] at hm; cases hm
    · rw [hy2, meet8_comm, hf z hz] at hm; cases hm
    · rw [hy, hz]
theorem Ap.drop {c : S8} (h : Ap c) (e sl : Int) : Ap (dropS8 c e sl) := by
  refine ⟨fun y hy => ?_, fun y hy z hz hm => ?_⟩
  · unfold dropS8 at hy
    split at hy
    · exact h.r y hy
    · rename_i g hg
      obtain ⟨d, hd, rfl⟩ := List.mem_map.1 hy
      have hd := (mem_without.1 hd).1
      unfold reparent
      split
      · exact h.r g (look8_some hg).1
      · exact h.r d hd
  · obtain ⟨y', hy1, -, hy2, -, hy3, -⟩ := mem_drop hy
    obtain ⟨z', hz1, -, hz2, -, hz3, -⟩ := mem_drop hz
    rw [← hy2, ← hz2]
    exact h.x y' hy1 z' hz1 (by rw [hy3, hz3]; exact hm)
theorem revoke_roots {c : S8} (hw : W8 c) (h : roots8 c) (e sl : Int) : revokeS8 c e sl = c := by
  unfold revokeS8
  split
  · rfl
  · rename_i g hg
    have : (c.L.filter fun d => !isUnder c.L g.no d) = c.L := List.filter_eq_self.2 fun d hd => by
      unfold isUnder under8
      have hn : parent8 c.L d = none := by
        unfold parent8
        refine List.find?_eq_none.2 fun y hy => ?_
        have h1 := (hw.in_ y hy).2.2.2.2.1
        have h2 := h d hd
        simp only [beq_iff_eq]
        omega
      rw [hn]
      rfl
    rw [this]

end Go.Proofs

set_option linter.unusedSimpArgs false
namespace Go.Proofs
open Go Go.Den

/-! ### Who has what -/
theorem hasR0 {r : Int} (h : 0 ≤ r ∧ r ≤ 7) : hasR r 0 = true := by
  have : ∀ x : Fin 8, hasR (x.val : Int) 0 = true := by decide +kernel
  have := this ⟨r.toNat, by omega⟩
  simp only at this
  rwa [show ((r.toNat : Nat) : Int) = r by omega] at this
theorem not_held {c : S8} (hw : W8 c) {k i : Int} (h : (holders8 c.L k i).isEmpty = true) {y : CE} (hy : y ∈ c.L) (hk : y.x.k = k) : ¬ (y.x.i ≤ i ∧ i < y.x.i + y.x.n) := fun hi => by
  rw [List.isEmpty_iff] at h
  obtain ⟨h1, -, -, h4, -⟩ := hw.in_ y hy
  have : y.env ∈ holders8 c.L k i := by
    unfold holders8
    rw [List.mem_filter, mem_ups]
    refine ⟨⟨h1.1, by have := h1.2; omega⟩, List.any_eq_true.2 ⟨y, hy, ?_⟩⟩
    simp only [covers8, hk, beq_self_eq_true, Bool.true_and, Bool.and_eq_true, decide_eq_true_eq]
    exact ⟨⟨hi.1, hi.2⟩, hasR0 (by obtain ⟨-, -, -, -, -, r1, r2⟩ := h4; omega)⟩
  rw [h] at this
  cases this
theorem kind_i {c : S8} (hw : W8 c) (hk : kind1 c) {y : CE} (hy : y ∈ c.L) : y.x.n = 1 ∧ 0 ≤ y.x.i := by
  obtain ⟨h3, h4, -⟩ := (hw.in_ y hy).2.2.2.1
  have := hk y hy
  exact ⟨by omega, h4⟩
theorem Ap.alloc {s : S9} (hw : W8 s.c) (hk : kind1 s.c) (h : Ap s.c) (e : Int) : Ap (allocS s e).c := by
  unfold allocS
  split
  · split
    · exact h
    · rename_i f hf
      refine h.add fun y hy => Bool.eq_false_iff.2 fun hm => ?_
      have hfree := List.find?_some (show (List.range s.m.length).find? (fun f : Nat => free9 s.c (f : Nat)) = some f from hf)
      simp only [meet8, fcap, Bool.and_eq_true, decide_eq_true_eq, beq_iff_eq] at hm
      obtain ⟨⟨m1, m2⟩, m3⟩ := hm
      have m2 := of_decide_eq_true m2
      have m3 := of_decide_eq_true m3
      exact not_held hw hfree hy (hk y hy) ⟨by omega, by omega⟩
  · exact h
theorem Ap.alloc12 {s : S12} (hw : W8 s.c) (h : Ap s.c) (e f n : Int) : Ap (allocS12 s e f n).c := by
  unfold allocS12
  split
  · rename_i hh
    obtain ⟨⟨-, h1, h2, -, -⟩, hall⟩ := hh
    refine h.add fun y hy => Bool.eq_false_iff.2 fun hm => ?_
    simp only [meet8, Bool.and_eq_true, decide_eq_true_eq, beq_iff_eq] at hm
    obtain ⟨⟨m1, m2⟩, m3⟩ := hm
    have hn : 1 ≤ y.x.n := (hw.in_ y hy).2.2.2.1.2.2.2.1
    have at_ : ∀ j : Nat, j < n.toNat → ¬ (y.x.i ≤ f + (j : Int) ∧ f + (j : Int) < y.x.i + y.x.n) := fun j hj => not_held hw (List.all_eq_true.1 hall j (List.mem_range.2 hj)) hy m1
    by_cases hc : f ≤ y.x.i
    · exact at_ (y.x.i - f).toNat (by omega) ⟨by omega, by omega⟩
    · exact at_ 0 (by omega) ⟨by omega, by omega⟩
  · exact h

/-! ### What holds as long as nobody is joined -/
structure Ap13 (s : S13) : Prop where
  t : T13 s
  w2 : W8 s.d.c
  k2 : kind2 s.d.c
  d : T12 s.d
  am : Ap s.m.c
  ad : Ap s.d.c
  q : ∀ e, s.q e = []
theorem getS12_c (s : S12) (e sl b : Int) : (getS12 s e sl b).c = s.c := by unfold getS12; split <;> rfl
theorem putS12_c (s : S12) (e sl b : Int) (ws : List Int) : (putS12 s e sl b ws).c = s.c := by unfold putS12; split <;> rfl
theorem revS_roots {s : S13} (h : Ap13 s) (e sl : Int) : revS s.m e sl = s.m := by
  unfold revS
  rw [revoke_roots h.t.w8 h.am.r]
  exact tidyS_of h.t.tidy
theorem revS12_roots {s : S13} (h : Ap13 s) (e sl : Int) : revS12 s.d e sl = s.d := by
  unfold revS12
  rw [revoke_roots h.w2 h.ad.r]
theorem ap_do {s : S13} (h : Ap13 s) (env : Int) {n : Int} (w : List Int) (h1 : n ≠ 1) (h11 : n ≠ 11) (h14 : n ≠ 14) : kind2 (doS13 s env n w).d.c ∧ Ap (doS13 s env n w).m.c ∧ Ap (doS13 s env n w).d.c ∧ ∀ e, (doS13 s env n w).q e = [] := by
  unfold doS13
  by_cases e0 : n = 0
  · rw [if_pos e0]; exact ⟨h.k2, h.am.alloc h.t.w8 h.t.kind env, h.ad, h.q⟩
  rw [if_neg e0, if_neg h1]
  by_cases e2 : n = 2
  · rw [if_pos e2]; exact ⟨h.k2, h.am.drop env (w13 w 0), h.ad, h.q⟩
  rw [if_neg e2]
  by_cases e3 : n = 3
  · rw [if_pos e3, revS_roots h]; exact ⟨h.k2, h.am, h.ad, h.q⟩
  rw [if_neg e3]
  by_cases e4 : n = 4
  · rw [if_pos e4]; exact ⟨h.k2, by show Ap (mapS ..).c; rw [mapS_c]; exact h.am, h.ad, h.q⟩
  rw [if_neg e4]
  by_cases e5 : n = 5
  · rw [if_pos e5]; exact ⟨h.k2, by show Ap (unmapS ..).c; rw [unmapS_c]; exact h.am, h.ad, h.q⟩
  rw [if_neg e5]
  by_cases e6 : n = 6
  · rw [if_pos e6]; exact ⟨h.k2, h.am, h.ad, h.q⟩
  rw [if_neg e6]
  by_cases e7 : n = 7
  · rw [if_pos e7]; exact ⟨h.k2, by show Ap (storeS ..).c; rw [(storeS_c _ _ _ _).1]; exact h.am, h.ad, h.q⟩
  rw [if_neg e7]
  by_cases e8 : n = 8
  · rw [if_pos e8]; exact ⟨h.k2, by show Ap (copyS ..).c; rw [(copyS_c _ _ _ _).1]; exact h.am, h.ad, h.q⟩
  rw [if_neg e8]
  by_cases e9 : n = 9
  · rw [if_pos e9]; exact ⟨h.k2, h.am, h.ad, h.q⟩
  rw [if_neg e9]
  by_cases e10 : n = 10
  · rw [if_pos e10]; exact ⟨h.k2, by show Ap (writeS ..).c; rw [(writeS_c _ _ _ _ _).1]; exact h.am, h.ad, h.q⟩
  rw [if_neg e10, if_neg h11]
  by_cases e12 : n = 12
  · rw [if_pos e12]
    refine ⟨h.k2, h.am, h.ad, fun e => ?_⟩
    show V11.qput s.q env ((s.q env).drop 1) e = []
    unfold V11.qput
    split
    · rw [h.q]; rfl
    · exact h.q e
  rw [if_neg e12]
  by_cases e13 : n = 13
  · rw [if_pos e13]
    refine ⟨fun x hx => ?_, h.am, h.ad.alloc12 h.w2 env (w13 w 0) (w13 w 1), h.q⟩
    have hx : x ∈ (allocS12 s.d env (w13 w 0) (w13 w 1)).c.L := hx
    unfold allocS12 at hx
    split at hx
    · rcases mem_add hx with hx | ⟨-, hx, -⟩
      · exact h.k2 x hx
      · rw [hx]
    · exact h.k2 x hx
  rw [if_neg e13, if_neg h14]
  by_cases e15 : n = 15
  · rw [if_pos e15, revS12_roots h]; exact ⟨h.k2, h.am, h.ad, h.q⟩
  rw [if_neg e15]
  by_cases e16 : n = 16
  · rw [if_pos e16]; exact ⟨by show kind2 (getS12 ..).c; rw [getS12_c]; exact h.k2, h.am, by show Ap (getS12 ..).c; rw [getS12_c]; exact h.ad, h.q⟩
  rw [if_neg e16]
  exact ⟨by show kind2 (putS12 ..).c; rw [putS12_c]; exact h.k2, h.am, by show Ap (putS12 ..).c; rw [putS12_c]; exact h.ad, h.q⟩
theorem Ap13.do_ {s : S13} (h : Ap13 s) (env : Int) {n : Int} (w : List Int) (h1 : n ≠ 1) (h11 : n ≠ 11) (h14 : n ≠ 14) (hw : W8 (doS13 s env n w).m.c) (hw2 : W8 (doS13 s env n w).d.c) (hd : T12 (doS13 s env n w).d) : Ap13 (doS13 s env n w) := by
  obtain ⟨a1, a2, a3, a4⟩ := ap_do h env w h1 h11 h14
  exact ⟨h.t.do_ env n w hw, hw2, a1, hd, a2, a3, a4⟩

/-! ### Alike for environment 1 -/
structure Rmk (a b : S9) : Prop where
  v : vw a.c.L 1 = vw b.c.L 1
  l : a.m.length = b.m.length
  r : ∀ p ∈ vw a.c.L 1, row9 a.m p.2.i = row9 b.m p.2.i
  t : a.t 1 = b.t 1
structure Rdk (a b : S12) : Prop where
  v : vw a.c.L 1 = vw b.c.L 1
  r : ∀ p ∈ vw a.c.L 1, ∀ x, p.2.i ≤ x → x < p.2.i + p.2.n → look12 a x = look12 b x
structure Rl (s t : S13) : Prop where
  e : s.e = t.e
  m : Rmk s.m t.m
  d : Rdk s.d t.d
theorem Rl.refl (s : S13) : Rl s s := ⟨rfl, ⟨rfl, rfl, fun _ _ => rfl, rfl⟩, ⟨rfl, fun _ _ _ _ _ => rfl⟩⟩
theorem Rl.trans {s t u : S13} (h : Rl s t) (h' : Rl t u) : Rl s u :=
  ⟨h.e.trans h'.e, ⟨h.m.v.trans h'.m.v, h.m.l.trans h'.m.l, fun p hp => (h.m.r p hp).trans (h'.m.r p (by rw [← h.m.v]; exact hp)), h.m.t.trans h'.m.t⟩, ⟨h.d.v.trans h'.d.v, fun p hp x h1 h2 => (h.d.r p hp x h1 h2).trans (h'.d.r p (by rw [← h.d.v]; exact hp) x h1 h2)⟩⟩

/-! ### Another's call -/
theorem holds_vw {c c' : S8} (hv : vw c.L 1 = vw c'.L 1) (x : Int × Bool) : holds9 c 1 x = holds9 c' 1 x := by
  unfold holds9
  rw [has8_vw, has8_vw, show (((1 : Nat) : Int)) = 1 from rfl, hv]
theorem tidyT_vw {c c' : S8} (hv : vw c.L 1 = vw c'.L 1) (t : Tb) : tidyT c 1 t = tidyT c' 1 t := by
  funext p
  unfold tidyT
  cases t p with
  | none => rfl
  | some x => dsimp only; rw [holds_vw hv]
end Go.Proofs

set_option linter.unusedSimpArgs false
namespace Go.Proofs
open Go Go.Den

/-! ### Rows -/
theorem row9_self {m : List (List Int)} {f : Int} (hf : inM m f) (ws : List Int) : row9 (m.set f.toNat ws) f = ws := by
  unfold row9
  rw [List.getElem?_set, if_pos rfl, if_pos (by have := hf.1; have := hf.2; omega)]
  rfl
theorem inM_len {m m' : List (List Int)} (h : m.length = m'.length) (f : Int) : inM m f = inM m' f := by unfold inM; rw [h]
theorem wrM_eq {m m' : List (List Int)} (hl : m.length = m'.length) {i : Int} (hi : 0 ≤ i) (h : row9 m i = row9 m' i) (f w v : Int) : row9 (wrM m f w v) i = row9 (wrM m' f w v) i := by
  by_cases hc : i = f
  · subst hc
    unfold wrM
    by_cases hh : inM m i ∧ in32 w
    · have hh' : inM m' i ∧ in32 w := by rw [← inM_len hl]; exact hh
      rw [if_pos hh, if_pos hh', row9_self hh.1, row9_self hh'.1, h]
    · have hh' : ¬ (inM m' i ∧ in32 w) := by rw [← inM_len hl]; exact hh
      rw [if_neg hh, if_neg hh', h]
  · rw [wrM_row hi hc, wrM_row hi hc, h]
theorem cpM_eq {m m' : List (List Int)} (hl : m.length = m'.length) {i : Int} (hi : 0 ≤ i) (h : row9 m i = row9 m' i) (a b : Int) (hb : row9 m b = row9 m' b) : row9 (cpM m a b) i = row9 (cpM m' a b) i := by
  by_cases hc : i = a
  · subst hc
    unfold cpM
    by_cases hh : inM m i ∧ inM m b
    · have hh' : inM m' i ∧ inM m' b := by rw [← inM_len hl, ← inM_len hl]; exact hh
      rw [if_pos hh, if_pos hh', row9_self hh.1, row9_self hh'.1, hb]
    · have hh' : ¬ (inM m' i ∧ inM m' b) := by rw [← inM_len hl, ← inM_len hl]; exact hh
      rw [if_neg hh, if_neg hh', h]
  · rw [cpM_row hi hc, cpM_row hi hc, h]
theorem rdV_eq {m m' : List (List Int)} (hl : m.length = m'.length) (f w : Int) (h : row9 m f = row9 m' f) : rdV m f w = rdV m' f w := by
  unfold rdV
  simp only [inM_len hl, h]
theorem wrV_eq {m m' : List (List Int)} (hl : m.length = m'.length) (f w : Int) : wrV m f w = wrV m' f w := by
  unfold wrV
  simp only [inM_len hl]
theorem cpV_eq {m m' : List (List Int)} (hl : m.length = m'.length) (a b : Int) : cpV m a b = cpV m' a b := by
  unfold cpV
  simp only [inM_len hl]

/-! ### Capabilities -/
theorem getW_some {v : Vw} {sl : Int} (h : (getW v sl).2 = true) : ∃ p ∈ v, p.2 = (getW v sl).1 := by
  unfold getW at h ⊢
  split at h
  · cases h
  · rename_i p hp
    exact ⟨p, List.mem_of_find?_eq_some hp, rfl⟩
theorem cap9_vw {c c' : S8} (hv : vw c.L 1 = vw c'.L 1) (sl r : Int) : cap9 c 1 sl r = cap9 c' 1 sl r := by
  unfold cap9
  rw [getV8_vw, getV8_vw, hv]
theorem cap9_own {c : S8} {sl r : Int} (h : (cap9 c 1 sl r).2 = true) : ∃ p ∈ vw c.L 1, p.2.i = (cap9 c 1 sl r).1 := by
  unfold cap9 at h ⊢
  rw [getV8_vw] at h ⊢
  simp only [Bool.and_eq_true] at h
  obtain ⟨p, hp, e⟩ := getW_some h.1
  exact ⟨p, hp, by rw [e]⟩
theorem walk_own {s : S13} (h : Ap13 s) {a : Int} {wr : Bool} (h0 : (walk3 (s.m.t 1) a wr).2.2 = 0) : ∃ p ∈ vw s.m.c.L 1, p.2.i = (walk3 (s.m.t 1) a wr).1 := by
  unfold walk3 at h0 ⊢
  split at h0
  · simp at h0
  · rename_i hlt
    rw [if_neg hlt]
    split at h0
    · simp at h0
    · rename_i x hx
      unfold use3 at h0 ⊢
      split at h0
      · simp at h0
      · rename_i hu
        rw [if_neg hu]
        have ht := h.t.tidy 1 _ x hx
        unfold holds9 at ht
        rw [has8_vw] at ht
        obtain ⟨p, hp, hcov⟩ := List.any_eq_true.1 ht
        simp only [covers8, Bool.and_eq_true, decide_eq_true_eq, beq_iff_eq] at hcov
        obtain ⟨⟨⟨c2, c3⟩, c4⟩, -⟩ := hcov
        obtain ⟨c, hc, -, rfl⟩ := mem_vw.1 hp
        have := (kind_i h.t.w8 h.t.kind hc).1
        refine ⟨_, hp, ?_⟩
        dsimp only at c3 c4 ⊢
        omega

/-! ### Own calls on frames -/
theorem own_i {s : S13} (hs : Ap13 s) {p : Int × Cap8} (hp : p ∈ vw s.m.c.L 1) : 0 ≤ p.2.i := by
  obtain ⟨c, hc, -, rfl⟩ := mem_vw.1 hp
  exact (kind_i hs.t.w8 hs.t.kind hc).2
section
variable {s t : S13} (hs : Ap13 s) (ht : Ap13 t) (h : Rl s t)
include h
theorem Rl.free (sl : Int) : Rmk (freeS s.m 1 sl) (freeS t.m 1 sl) := by
  have hv : vw (dropS8 s.m.c 1 sl).L 1 = vw (dropS8 t.m.c 1 sl).L 1 := by rw [vw_drop, vw_drop, if_pos rfl, if_pos rfl, h.m.v]
  refine ⟨hv, h.m.l, fun p hp => h.m.r p ?_, ?_⟩
  · have hp : p ∈ vw (dropS8 s.m.c 1 sl).L 1 := hp
    rw [vw_drop, if_pos rfl] at hp
    exact (List.mem_filter.1 hp).1
  · show tidyT (dropS8 s.m.c 1 sl) 1 (s.m.t 1) = tidyT (dropS8 t.m.c 1 sl) 1 (t.m.t 1)
    rw [tidyT_vw hv, h.m.t]
theorem Rl.map (p sl : Int) (w : Bool) : Rmk (mapS s.m 1 p sl w) (mapS t.m 1 p sl w) := by
  unfold mapS
  rw [cap9_vw h.m.v]
  split
  · exact ⟨h.m.v, h.m.l, h.m.r, by
      show upT s.m.t 1 (tMap (s.m.t 1) _ _) 1 = upT t.m.t 1 (tMap (t.m.t 1) _ _) 1
      unfold upT
      rw [if_pos rfl, if_pos rfl, h.m.t]⟩
  · exact h.m
theorem Rl.unmap (p : Int) : Rmk (unmapS s.m 1 p) (unmapS t.m 1 p) := by
  unfold unmapS
  split
  · exact ⟨h.m.v, h.m.l, h.m.r, by
      show upT s.m.t 1 (tdel (s.m.t 1) _) 1 = upT t.m.t 1 (tdel (t.m.t 1) _) 1
      unfold upT
      rw [if_pos rfl, if_pos rfl, h.m.t]⟩
  · exact h.m
theorem Rl.readV (sl w : Int) : readV s.m 1 sl w = readV t.m 1 sl w := by
  unfold Go.Proofs.readV
  rw [← cap9_vw h.m.v]
  split
  · rename_i hh
    obtain ⟨p, hp, e⟩ := cap9_own hh
    exact rdV_eq h.m.l _ _ (by rw [← e]; exact h.m.r p hp)
  · rfl
include hs
theorem Rl.store (a v : Int) : Rmk (storeS s.m 1 a v) (storeS t.m 1 a v) := by
  unfold storeS
  rw [show s.m.t (1 : Int).toNat = t.m.t (1 : Int).toNat from h.m.t]
  split
  · exact ⟨h.m.v, by show (wrM ..).length = (wrM ..).length; rw [wrM_len, wrM_len]; exact h.m.l, fun p hp => wrM_eq h.m.l (own_i hs hp) (h.m.r p hp) _ _ _, h.m.t⟩
  · exact h.m
theorem Rl.copy (a b : Int) : Rmk (copyS s.m 1 a b) (copyS t.m 1 a b) := by
  unfold copyS
  split
  · rename_i hh
    have hh' := hh
    rw [cap9_vw h.m.v, cap9_vw h.m.v] at hh'
    rw [if_pos hh']
    obtain ⟨p2, hp2, e2⟩ := cap9_own hh.2
    refine ⟨h.m.v, by show (cpM ..).length = (cpM ..).length; rw [cpM_len, cpM_len]; exact h.m.l, fun p hp => ?_, h.m.t⟩
    show row9 (cpM s.m.m _ _) p.2.i = row9 (cpM t.m.m _ _) p.2.i
    rw [← cap9_vw h.m.v, ← cap9_vw h.m.v]
    exact cpM_eq h.m.l (own_i hs hp) (h.m.r p hp) _ _ (by rw [← e2]; exact h.m.r p2 hp2)
  · rename_i hh
    rw [cap9_vw h.m.v, cap9_vw h.m.v] at hh
    rw [if_neg hh]
    exact h.m
theorem Rl.write (sl w v : Int) : Rmk (writeS s.m 1 sl w v) (writeS t.m 1 sl w v) := by
  unfold writeS
  rw [cap9_vw h.m.v]
  split
  · exact ⟨h.m.v, by show (wrM ..).length = (wrM ..).length; rw [wrM_len, wrM_len]; exact h.m.l, fun p hp => wrM_eq h.m.l (own_i hs hp) (h.m.r p hp) _ _ _, h.m.t⟩
  · exact h.m
theorem Rl.loadV (a : Int) : loadV s.m 1 a = loadV t.m 1 a := by
  unfold Go.Proofs.loadV
  rw [show t.m.t (1 : Int).toNat = s.m.t (1 : Int).toNat from h.m.t.symm]
  split
  · split
    · rename_i h0
      obtain ⟨p, hp, e⟩ := walk_own hs h0
      exact rdV_eq h.m.l _ _ (by rw [show (1 : Int).toNat = 1 from rfl, ← e]; exact h.m.r p hp)
    · rfl
  · rfl
omit hs
theorem Rl.storeV (a : Int) : storeV s.m 1 a = storeV t.m 1 a := by
  unfold Go.Proofs.storeV
  rw [show t.m.t (1 : Int).toNat = s.m.t (1 : Int).toNat from h.m.t.symm, wrV_eq h.m.l]
theorem Rl.copyV (a b : Int) : copyV s.m 1 a b = copyV t.m 1 a b := by
  unfold Go.Proofs.copyV
  rw [cap9_vw h.m.v, cap9_vw h.m.v, cpV_eq h.m.l]
theorem Rl.writeV (sl w : Int) : writeV s.m 1 sl w = writeV t.m 1 sl w := by
  unfold Go.Proofs.writeV
  rw [cap9_vw h.m.v, wrV_eq h.m.l]
theorem Rl.mapV (p sl : Int) (w : Bool) : mapV s.m 1 p sl w = mapV t.m 1 p sl w := by
  unfold Go.Proofs.mapV
  rw [cap9_vw h.m.v]
theorem Rl.unmapV (p : Int) : unmapV s.m 1 p = unmapV t.m 1 p := by
  unfold Go.Proofs.unmapV
  rw [show t.m.t (1 : Int).toNat = s.m.t (1 : Int).toNat from h.m.t.symm]
theorem Rl.may (sl b r : Int) : may12 s.d 1 sl b r = may12 t.d 1 sl b r := by unfold may12; rw [getV8_vw, getV8_vw, h.d.v]
end

/-! ### Own calls on blocks -/
theorem may_own {s : S12} {sl b r : Int} (h : may12 s 1 sl b r = true) : ∃ p ∈ vw s.c.L 1, p.2.i ≤ b ∧ b < p.2.i + p.2.n := by
  unfold may12 at h
  rw [getV8_vw] at h
  simp only [Bool.and_eq_true, decide_eq_true_eq] at h
  obtain ⟨p, hp, e⟩ := getW_some h.1
  rw [← e] at h
  exact ⟨p, hp, h.2.2.1, h.2.2.2⟩
theorem look12_putEq {s : S12} (hT : T12 s) (hw : W8 s.c) (e sl b : Int) (ws : List Int) (x : Int) : look12 (putS12 s e sl b ws) x = if (may12 s e sl b 2 = true ∧ ws.length = 32) ∧ x = b then ws else look12 s x := by
  unfold putS12
  by_cases hm : may12 s e sl b 2 = true ∧ ws.length = 32
  · rw [if_pos hm]
    have hb := may12_in hT hw hm.1
    unfold look12
    simp only [mem_putL]
    by_cases hx : x = b
    · subst hx
      rw [if_pos (.inl rfl), row12_set hb.1 hb.1 (by rw [hT.len]; have := hb.1; have := hb.2; omega), if_pos rfl, if_pos ⟨hm, rfl⟩]
    · rw [if_neg (show ¬ ((may12 s e sl b 2 = true ∧ ws.length = 32) ∧ x = b) from fun h => hx h.2)]
      by_cases hi : x ∈ s.I
      · rw [if_pos (.inr hi), if_pos hi, row12_set hb.1 (hT.inI x hi).1 (by rw [hT.len]; have := hb.1; have := hb.2; omega), if_neg hx]
      · rw [if_neg (by simp [hx, hi]), if_neg hi]
  · rw [if_neg hm, if_neg (fun h => hm h.1)]
section
variable {s t : S13} (hs : Ap13 s) (ht : Ap13 t) (h : Rl s t)
include h
theorem Rl.getV12 (sl b : Int) : getV12 s.d 1 sl b = getV12 t.d 1 sl b := by
  unfold Go.Proofs.getV12
  rw [← h.may]
  split
  · rename_i hm
    obtain ⟨p, hp, h1, h2⟩ := may_own hm
    rw [h.d.r p hp b h1 h2]
  · rfl
theorem Rl.putV12 (sl b : Int) (ws : List Int) : putV12 s.d 1 sl b ws = putV12 t.d 1 sl b ws := by
  unfold Go.Proofs.putV12
  rw [h.may]
include hs ht
theorem Rl.getS12 (sl b : Int) : Rdk (getS12 s.d 1 sl b) (getS12 t.d 1 sl b) := by
  refine ⟨by rw [getS12_c, getS12_c]; exact h.d.v, fun p hp x h1 h2 => ?_⟩
  rw [getS12_c] at hp
  rw [look12_get hs.d hs.w2, look12_get ht.d ht.w2]
  exact h.d.r p hp x h1 h2
theorem Rl.putS12 (sl b : Int) (ws : List Int) : Rdk (putS12 s.d 1 sl b ws) (putS12 t.d 1 sl b ws) := by
  refine ⟨by rw [putS12_c, putS12_c]; exact h.d.v, fun p hp x h1 h2 => ?_⟩
  rw [putS12_c] at hp
  rw [look12_putEq hs.d hs.w2, look12_putEq ht.d ht.w2, h.may, h.d.r p hp x h1 h2]

omit hs ht
end

/-- A call that joins nobody; the words in front. -/
def joined13 (cs : List Int) : Bool := match cs with
  | [] => false
  | n :: _ => n == 1 || n == 11 || n == 14
theorem Ap13.raw {s : S13} (h : Ap13 s) (env : Int) {cs : List Int} (hj : joined13 cs = false) (hw : W8 (rawS13 s env cs).m.c) (hw2 : W8 (rawS13 s env cs).d.c) (hd : T12 (rawS13 s env cs).d) : Ap13 (rawS13 s env cs) := by
  cases cs with
  | nil => exact h
  | cons n w =>
    unfold rawS13 at hw hw2 hd ⊢
    dsimp only at hw hw2 hd ⊢
    simp only [joined13, Bool.or_eq_false_iff, beq_eq_false_iff_ne] at hj
    split
    · rename_i hg
      rw [if_pos hg] at hw hw2 hd
      exact h.do_ env w hj.1.1 hj.1.2 hj.2 hw hw2 hd
    · exact h
end Go.Proofs
