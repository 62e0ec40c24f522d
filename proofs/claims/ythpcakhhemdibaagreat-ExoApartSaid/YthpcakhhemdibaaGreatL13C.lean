/-
  exo, as plain functions: what environment 1 sees and is answered, whatever the others do.
  exo, as plain functions: what environment 1 sees is the same whatever the others do: they change nothing of it; its own calls go alike.
  exo, as plain functions: environment 1's own calls go alike in both; what it sees.
  exo, as plain functions: how much a call adds; the reference's messages, few.
-/
import Derived.Test.YthpcakhhemdibaaGreatK13A
set_option linter.unusedVariables false
set_option linter.unusedSimpArgs false
namespace Go.Proofs
open Go Go.Den

/-! ### The capabilities of one environment -/
abbrev Vw := List (Int × Cap8)
def vw (L : List CE) (e : Int) : Vw := (L.filter fun c => c.env == e).map fun c => (c.slot, c.x)
def getW (v : Vw) (sl : Int) : Cap8 × Bool := match v.find? fun p => p.1 == sl with
  | none => (⟨0, 0, 0, 0⟩, false)
  | some p => (p.2, true)
theorem vw_cons (c : CE) (L : List CE) (e : Int) : vw (c :: L) e = if c.env = e then (c.slot, c.x) :: vw L e else vw L e := by
  unfold vw
  by_cases h : c.env = e <;> simp [h]
theorem vw_app (L L' : List CE) (e : Int) : vw (L ++ L') e = vw L e ++ vw L' e := by simp [vw]
theorem mem_vw {L : List CE} {e : Int} {p : Int × Cap8} : p ∈ vw L e ↔ ∃ c ∈ L, c.env = e ∧ p = (c.slot, c.x) := by
  simp only [vw, List.mem_map, List.mem_filter, beq_iff_eq]
  constructor
  · rintro ⟨c, ⟨h1, h2⟩, rfl⟩; exact ⟨c, h1, h2, rfl⟩
  · rintro ⟨c, h1, h2, rfl⟩; exact ⟨c, ⟨h1, h2⟩, rfl⟩
theorem getV8_vw (L : List CE) (e sl : Int) : getV8 L e sl = getW (vw L e) sl := by
  unfold getV8 getW
  induction L with
  | nil => rfl
  | cons c L ih =>
    unfold look8 at ih ⊢
    rw [vw_cons]
    by_cases h : c.env = e
    · rw [if_pos h]
      by_cases h2 : c.slot = sl
      · rw [List.find?_cons_of_pos (by simp [isAt, h, h2]), List.find?_cons_of_pos (by simp [h2])]
      · rw [List.find?_cons_of_neg (by simp [isAt, h2]), List.find?_cons_of_neg (by simp [h2])]; exact ih
    · rw [if_neg h, List.find?_cons_of_neg (by simp [isAt, h])]; exact ih
theorem getV8_some {L : List CE} {e sl : Int} : look8 L e sl = none ↔ (getV8 L e sl).2 = false := by
  unfold getV8; cases look8 L e sl <;> simp
theorem has8_vw (L : List CE) (e k i r : Int) : has8 L e k i r = (vw L e).any fun p => covers8 p.2 k i r := by
  unfold has8
  induction L with
  | nil => rfl
  | cons c L ih =>
    rw [vw_cons, List.any_cons, ih]
    by_cases h : c.env = e <;> simp [h]
theorem vw_same {f : CE → CE} (hf : ∀ c, (f c).env = c.env ∧ (f c).slot = c.slot ∧ (f c).x = c.x) (L : List CE) (e : Int) : vw (L.map f) e = vw L e := by
  induction L with
  | nil => rfl
  | cons c L ih => rw [List.map_cons, vw_cons, vw_cons, ih, (hf c).1, (hf c).2.1, (hf c).2.2]
theorem vw_without (L : List CE) (e sl e' : Int) : vw (without L e sl) e' = if e' = e then (vw L e').filter (fun p => !(p.1 == sl)) else vw L e' := by
  unfold without
  induction L with
  | nil => split <;> rfl
  | cons c L ih =>
    by_cases h : isAt e sl c = true
    · rw [List.filter_cons_of_neg (by simp [h]), ih, vw_cons]
      obtain ⟨h1, h2⟩ := isAt_iff.1 h
      by_cases he : e' = e
      · rw [if_pos he, if_pos he, if_pos (h1.trans he.symm), List.filter_cons_of_neg (by simp [h2])]
      · rw [if_neg he, if_neg he, if_neg (by rw [h1]; exact fun z => he z.symm)]
    · rw [List.filter_cons_of_pos (by simp [h]), vw_cons, vw_cons, ih]
      by_cases he : e' = e
      · rw [if_pos he, if_pos he]
        by_cases hc : c.env = e'
        · rw [if_pos hc, if_pos hc, List.filter_cons_of_pos (by have : c.slot ≠ sl := fun z => h (isAt_iff.2 ⟨hc.trans he, z⟩); simpa using this)]
        · rw [if_neg hc, if_neg hc]
      · rw [if_neg he, if_neg he]
theorem getW_none {v : Vw} {sl : Int} (h : (getW v sl).2 = false) : ∀ p ∈ v, p.1 ≠ sl := by
  unfold getW at h
  split at h
  · rename_i hn
    intro p hp
    have := List.find?_eq_none.1 hn p hp
    simpa using this
  · cases h
theorem vw_drop (s : S8) (e sl e' : Int) : vw (dropS8 s e sl).L e' = if e' = e then (vw s.L e').filter (fun p => !(p.1 == sl)) else vw s.L e' := by
  unfold dropS8
  cases hl : look8 s.L e sl with
  | none =>
    dsimp only
    split
    · rename_i h
      subst h
      rw [getV8_some, getV8_vw] at hl
      exact (List.filter_eq_self.2 fun p hp => by have := getW_none hl p hp; simpa using this).symm
    · rfl
  | some g =>
    dsimp only
    rw [vw_same (fun c => ⟨(reparent_same g c).2.1, (reparent_same g c).2.2.1, (reparent_same g c).2.2.2⟩), vw_without]
theorem vw_add (s : S8) (e e' : Int) (x : Cap8) (h : e ≠ e') : vw (addS8 s e x).L e' = vw s.L e' := by
  unfold addS8
  split
  · unfold putS8
    split
    · rfl
    · rw [vw_app]
      simp [vw, h]
  · rfl

/-! ### Roots, apart -/
def roots8 (c : S8) : Prop := ∀ x ∈ c.L, x.of_ = 0
def excl8 (c : S8) : Prop := ∀ x ∈ c.L, ∀ y ∈ c.L, meet8 x.x y.x = true → x.env = y.env
structure Ap (c : S8) : Prop where
  r : roots8 c
  x : excl8 c
theorem meet8_comm (a b : Cap8) : meet8 a b = meet8 b a := by
  unfold meet8
  have e : (a.k == b.k) = (b.k == a.k) := by
    by_cases h : a.k = b.k
    · rw [h]
    · rw [beq_eq_false_iff_ne.2 h, beq_eq_false_iff_ne.2 (Ne.symm h)]
  rw [Bool.and_assoc, Bool.and_assoc, Bool.and_comm (decide (b.i < a.i + a.n)), e]
theorem Ap.add {c : S8} (h : Ap c) {e : Int} {x : Cap8} (hf : ∀ y ∈ c.L, meet8 y.x x = false) : Ap (addS8 c e x) := by
  refine ⟨fun y hy => ?_, fun y hy z hz hm => ?_⟩
  · rcases mem_add hy with hy | hy
    · exact h.r y hy
    · exact hy.2.2
  · rcases mem_add hy with hy | ⟨hy, hy2, -⟩ <;> rcases mem_add hz with hz | ⟨hz, hz2, -⟩
    · exact h.x y hy z hz hm
    · rw [hz2, hf y hy] at hm; cases hm
    · rw [hy2, meet8_comm, hf z hz] at hm; cases hm
    · rw [hy, hz]
theorem Ap.drop {c : S8} (h : Ap c) (e sl : Int) : Ap (dropS8 c e sl) := by
  refine ⟨fun y hy => ?_, fun y hy z hz hm => ?_⟩
  · unfold dropS8 at hy
    split at hy
    · exact h.r y hy
    · rename_i g hg
      obtain ⟨d, hd, rfl⟩ := List.mem_map.1 hy
      have hd := (mem_without.1 hd).1
      unfold reparent
      split
      · exact h.r g (look8_some hg).1
      · exact h.r d hd
  · obtain ⟨y', hy1, -, hy2, -, hy3, -⟩ := mem_drop hy
    obtain ⟨z', hz1, -, hz2, -, hz3, -⟩ := mem_drop hz
    rw [← hy2, ← hz2]
    exact h.x y' hy1 z' hz1 (by rw [hy3, hz3]; exact hm)
theorem revoke_roots {c : S8} (hw : W8 c) (h : roots8 c) (e sl : Int) : revokeS8 c e sl = c := by
  unfold revokeS8
  split
  · rfl
  · rename_i g hg
    have : (c.L.filter fun d => !isUnder c.L g.no d) = c.L := List.filter_eq_self.2 fun d hd => by
      unfold isUnder under8
      have hn : parent8 c.L d = none := by
        unfold parent8
        refine List.find?_eq_none.2 fun y hy => ?_
        have h1 := (hw.in_ y hy).2.2.2.2.1
        have h2 := h d hd
        simp only [beq_iff_eq]
        omega
      rw [hn]
      rfl
    rw [this]

end Go.Proofs

set_option linter.unusedSimpArgs false
namespace Go.Proofs
open Go Go.Den

/-! ### Who has what -/
theorem hasR0 {r : Int} (h : 0 ≤ r ∧ r ≤ 7) : hasR r 0 = true := by
  have : ∀ x : Fin 8, hasR (x.val : Int) 0 = true := by decide +kernel
  have := this ⟨r.toNat, by omega⟩
  simp only at this
  rwa [show ((r.toNat : Nat) : Int) = r by omega] at this
theorem not_held {c : S8} (hw : W8 c) {k i : Int} (h : (holders8 c.L k i).isEmpty = true) {y : CE} (hy : y ∈ c.L) (hk : y.x.k = k) : ¬ (y.x.i ≤ i ∧ i < y.x.i + y.x.n) := fun hi => by
  rw [List.isEmpty_iff] at h
  obtain ⟨h1, -, -, h4, -⟩ := hw.in_ y hy
  have : y.env ∈ holders8 c.L k i := by
    unfold holders8
    rw [List.mem_filter, mem_ups]
    refine ⟨⟨h1.1, by have := h1.2; omega⟩, List.any_eq_true.2 ⟨y, hy, ?_⟩⟩
    simp only [covers8, hk, beq_self_eq_true, Bool.true_and, Bool.and_eq_true, decide_eq_true_eq]
    exact ⟨⟨hi.1, hi.2⟩, hasR0 (by obtain ⟨-, -, -, -, -, r1, r2⟩ := h4; omega)⟩
  rw [h] at this
  cases this
theorem kind_i {c : S8} (hw : W8 c) (hk : kind1 c) {y : CE} (hy : y ∈ c.L) : y.x.n = 1 ∧ 0 ≤ y.x.i := by
  obtain ⟨h3, h4, -⟩ := (hw.in_ y hy).2.2.2.1
  have := hk y hy
  exact ⟨by omega, h4⟩
theorem Ap.alloc {s : S9} (hw : W8 s.c) (hk : kind1 s.c) (h : Ap s.c) (e : Int) : Ap (allocS s e).c := by
  unfold allocS
  split
  · split
    · exact h
    · rename_i f hf
      refine h.add fun y hy => Bool.eq_false_iff.2 fun hm => ?_
      have hfree := List.find?_some (show (List.range s.m.length).find? (fun f : Nat => free9 s.c (f : Nat)) = some f from hf)
      simp only [meet8, fcap, Bool.and_eq_true, decide_eq_true_eq, beq_iff_eq] at hm
      obtain ⟨⟨m1, m2⟩, m3⟩ := hm
      have m2 := of_decide_eq_true m2
      have m3 := of_decide_eq_true m3
      exact not_held hw hfree hy (hk y hy) ⟨by omega, by omega⟩
  · exact h
theorem Ap.alloc12 {s : S12} (hw : W8 s.c) (h : Ap s.c) (e f n : Int) : Ap (allocS12 s e f n).c := by
  unfold allocS12
  split
  · rename_i hh
    obtain ⟨⟨-, h1, h2, -, -⟩, hall⟩ := hh
    refine h.add fun y hy => Bool.eq_false_iff.2 fun hm => ?_
    simp only [meet8, Bool.and_eq_true, decide_eq_true_eq, beq_iff_eq] at hm
    obtain ⟨⟨m1, m2⟩, m3⟩ := hm
    have hn : 1 ≤ y.x.n := (hw.in_ y hy).2.2.2.1.2.2.2.1
    have at_ : ∀ j : Nat, j < n.toNat → ¬ (y.x.i ≤ f + (j : Int) ∧ f + (j : Int) < y.x.i + y.x.n) := fun j hj => not_held hw (List.all_eq_true.1 hall j (List.mem_range.2 hj)) hy m1
    by_cases hc : f ≤ y.x.i
    · exact at_ (y.x.i - f).toNat (by omega) ⟨by omega, by omega⟩
    · exact at_ 0 (by omega) ⟨by omega, by omega⟩
  · exact h

/-! ### What holds as long as nobody is joined -/
structure Ap13 (s : S13) : Prop where
  t : T13 s
  w2 : W8 s.d.c
  k2 : kind2 s.d.c
  d : T12 s.d
  am : Ap s.m.c
  ad : Ap s.d.c
  q : ∀ e, s.q e = []
theorem getS12_c (s : S12) (e sl b : Int) : (getS12 s e sl b).c = s.c := by unfold getS12; split <;> rfl
theorem putS12_c (s : S12) (e sl b : Int) (ws : List Int) : (putS12 s e sl b ws).c = s.c := by unfold putS12; split <;> rfl
theorem revS_roots {s : S13} (h : Ap13 s) (e sl : Int) : revS s.m e sl = s.m := by
  unfold revS
  rw [revoke_roots h.t.w8 h.am.r]
  exact tidyS_of h.t.tidy
theorem revS12_roots {s : S13} (h : Ap13 s) (e sl : Int) : revS12 s.d e sl = s.d := by
  unfold revS12
  rw [revoke_roots h.w2 h.ad.r]
theorem ap_do {s : S13} (h : Ap13 s) (env : Int) {n : Int} (w : List Int) (h1 : n ≠ 1) (h11 : n ≠ 11) (h14 : n ≠ 14) : kind2 (doS13 s env n w).d.c ∧ Ap (doS13 s env n w).m.c ∧ Ap (doS13 s env n w).d.c ∧ ∀ e, (doS13 s env n w).q e = [] := by
  unfold doS13
  by_cases e0 : n = 0
  · rw [if_pos e0]; exact ⟨h.k2, h.am.alloc h.t.w8 h.t.kind env, h.ad, h.q⟩
  rw [if_neg e0, if_neg h1]
  by_cases e2 : n = 2
  · rw [if_pos e2]; exact ⟨h.k2, h.am.drop env (w13 w 0), h.ad, h.q⟩
  rw [if_neg e2]
  by_cases e3 : n = 3
  · rw [if_pos e3, revS_roots h]; exact ⟨h.k2, h.am, h.ad, h.q⟩
  rw [if_neg e3]
  by_cases e4 : n = 4
  · rw [if_pos e4]; exact ⟨h.k2, by show Ap (mapS ..).c; rw [mapS_c]; exact h.am, h.ad, h.q⟩
  rw [if_neg e4]
  by_cases e5 : n = 5
  · rw [if_pos e5]; exact ⟨h.k2, by show Ap (unmapS ..).c; rw [unmapS_c]; exact h.am, h.ad, h.q⟩
  rw [if_neg e5]
  by_cases e6 : n = 6
  · rw [if_pos e6]; exact ⟨h.k2, h.am, h.ad, h.q⟩
  rw [if_neg e6]
  by_cases e7 : n = 7
  · rw [if_pos e7]; exact ⟨h.k2, by show Ap (storeS ..).c; rw [(storeS_c _ _ _ _).1]; exact h.am, h.ad, h.q⟩
  rw [if_neg e7]
  by_cases e8 : n = 8
  · rw [if_pos e8]; exact ⟨h.k2, by show Ap (copyS ..).c; rw [(copyS_c _ _ _ _).1]; exact h.am, h.ad, h.q⟩
  rw [if_neg e8]
  by_cases e9 : n = 9
  · rw [if_pos e9]; exact ⟨h.k2, h.am, h.ad, h.q⟩
  rw [if_neg e9]
  by_cases e10 : n = 10
  · rw [if_pos e10]; exact ⟨h.k2, by show Ap (writeS ..).c; rw [(writeS_c _ _ _ _ _).1]; exact h.am, h.ad, h.q⟩
  rw [if_neg e10, if_neg h11]
  by_cases e12 : n = 12
  · rw [if_pos e12]
    refine ⟨h.k2, h.am, h.ad, fun e => ?_⟩
    show V11.qput s.q env ((s.q env).drop 1) e = []
    unfold V11.qput
    split
    · rw [h.q]; rfl
    · exact h.q e
  rw [if_neg e12]
  by_cases e13 : n = 13
  · rw [if_pos e13]
    refine ⟨fun x hx => ?_, h.am, h.ad.alloc12 h.w2 env (w13 w 0) (w13 w 1), h.q⟩
    have hx : x ∈ (allocS12 s.d env (w13 w 0) (w13 w 1)).c.L := hx
    unfold allocS12 at hx
    split at hx
    · rcases mem_add hx with hx | ⟨-, hx, -⟩
      · exact h.k2 x hx
      · rw [hx]
    · exact h.k2 x hx
  rw [if_neg e13, if_neg h14]
  by_cases e15 : n = 15
  · rw [if_pos e15, revS12_roots h]; exact ⟨h.k2, h.am, h.ad, h.q⟩
  rw [if_neg e15]
  by_cases e16 : n = 16
  · rw [if_pos e16]; exact ⟨by show kind2 (getS12 ..).c; rw [getS12_c]; exact h.k2, h.am, by show Ap (getS12 ..).c; rw [getS12_c]; exact h.ad, h.q⟩
  rw [if_neg e16]
  exact ⟨by show kind2 (putS12 ..).c; rw [putS12_c]; exact h.k2, h.am, by show Ap (putS12 ..).c; rw [putS12_c]; exact h.ad, h.q⟩
theorem Ap13.do_ {s : S13} (h : Ap13 s) (env : Int) {n : Int} (w : List Int) (h1 : n ≠ 1) (h11 : n ≠ 11) (h14 : n ≠ 14) (hw : W8 (doS13 s env n w).m.c) (hw2 : W8 (doS13 s env n w).d.c) (hd : T12 (doS13 s env n w).d) : Ap13 (doS13 s env n w) := by
  obtain ⟨a1, a2, a3, a4⟩ := ap_do h env w h1 h11 h14
  exact ⟨h.t.do_ env n w hw, hw2, a1, hd, a2, a3, a4⟩

/-! ### Alike for environment 1 -/
structure Rmk (a b : S9) : Prop where
  v : vw a.c.L 1 = vw b.c.L 1
  l : a.m.length = b.m.length
  r : ∀ p ∈ vw a.c.L 1, row9 a.m p.2.i = row9 b.m p.2.i
  t : a.t 1 = b.t 1
structure Rdk (a b : S12) : Prop where
  v : vw a.c.L 1 = vw b.c.L 1
  r : ∀ p ∈ vw a.c.L 1, ∀ x, p.2.i ≤ x → x < p.2.i + p.2.n → look12 a x = look12 b x
structure Rl (s t : S13) : Prop where
  e : s.e = t.e
  m : Rmk s.m t.m
  d : Rdk s.d t.d
theorem Rl.refl (s : S13) : Rl s s := ⟨rfl, ⟨rfl, rfl, fun _ _ => rfl, rfl⟩, ⟨rfl, fun _ _ _ _ _ => rfl⟩⟩
theorem Rl.trans {s t u : S13} (h : Rl s t) (h' : Rl t u) : Rl s u :=
  ⟨h.e.trans h'.e, ⟨h.m.v.trans h'.m.v, h.m.l.trans h'.m.l, fun p hp => (h.m.r p hp).trans (h'.m.r p (by rw [← h.m.v]; exact hp)), h.m.t.trans h'.m.t⟩, ⟨h.d.v.trans h'.d.v, fun p hp x h1 h2 => (h.d.r p hp x h1 h2).trans (h'.d.r p (by rw [← h.d.v]; exact hp) x h1 h2)⟩⟩

/-! ### Another's call -/
theorem own_row {s : S13} (h : Ap13 s) {p : Int × Cap8} (hp : p ∈ vw s.m.c.L 1) {e : Int} (he : e ≠ 1) : 0 ≤ p.2.i ∧ free9 s.m.c p.2.i = false ∧ has8 s.m.c.L e 1 p.2.i 2 = false := by
  obtain ⟨c, hc, h1, rfl⟩ := mem_vw.1 hp
  obtain ⟨k1, k2⟩ := kind_i h.t.w8 h.t.kind hc
  refine ⟨k2, Bool.eq_false_iff.2 fun hf => not_held h.t.w8 hf hc (h.t.kind c hc) ⟨Int.le_refl _, by dsimp only; omega⟩, Bool.eq_false_iff.2 fun hh => ?_⟩
  obtain ⟨y, hy, hcov⟩ := List.any_eq_true.1 hh
  simp only [covers8, Bool.and_eq_true, decide_eq_true_eq, beq_iff_eq] at hcov
  obtain ⟨c1, ⟨⟨c2, c3⟩, c4⟩, -⟩ := hcov
  have := h.am.x c hc y hy (by
    simp only [meet8, Bool.and_eq_true, decide_eq_true_eq, beq_iff_eq]
    exact ⟨⟨by rw [h.t.kind c hc, c2], by omega⟩, by omega⟩)
  omega
theorem own_ext {s : S13} (h : Ap13 s) {p : Int × Cap8} (hp : p ∈ vw s.d.c.L 1) {e x : Int} (he : e ≠ 1) (h1 : p.2.i ≤ x) (h2 : x < p.2.i + p.2.n) : has8 s.d.c.L e 2 x 2 = false := by
  obtain ⟨c, hc, h3, rfl⟩ := mem_vw.1 hp
  refine Bool.eq_false_iff.2 fun hh => ?_
  obtain ⟨y, hy, hcov⟩ := List.any_eq_true.1 hh
  simp only [covers8, Bool.and_eq_true, decide_eq_true_eq, beq_iff_eq] at hcov
  obtain ⟨c1, ⟨⟨c2, c3⟩, c4⟩, -⟩ := hcov
  dsimp only at h1 h2
  have := h.ad.x c hc y hy (by
    simp only [meet8, Bool.and_eq_true, decide_eq_true_eq, beq_iff_eq]
    exact ⟨⟨by rw [h.k2 c hc, c2], by omega⟩, by omega⟩)
  omega

theorem allocS_len (s : S9) (e : Int) : (allocS s e).m.length = s.m.length := by
  unfold allocS
  split
  · split
    · rfl
    · dsimp only
      split
      · exact zrM_len ..
      · rfl
  · rfl
theorem mapS_m (s : S9) (e p sl : Int) (w : Bool) : (mapS s e p sl w).m = s.m := by unfold mapS; split <;> rfl
theorem unmapS_m (s : S9) (e p : Int) : (unmapS s e p).m = s.m := by unfold unmapS; split <;> rfl
theorem storeS_len (s : S9) (e a v : Int) : (storeS s e a v).m.length = s.m.length := by
  unfold storeS
  split
  · exact wrM_len ..
  · rfl
theorem copyS_len (s : S9) (e a b : Int) : (copyS s e a b).m.length = s.m.length := by
  unfold copyS
  split
  · exact cpM_len ..
  · rfl
theorem writeS_len (s : S9) (e sl w v : Int) : (writeS s e sl w v).m.length = s.m.length := by
  unfold writeS
  split
  · exact wrM_len ..
  · rfl
theorem upT_ne {t : Nat → Tb} {e : Int} (h0 : env12 e) (he : e ≠ 1) (x : Tb) : upT t e.toNat x 1 = t 1 := by
  unfold upT
  rw [if_neg (by have := h0.1; omega)]
theorem mapS_t1 (s : S9) {e : Int} (he : e ≠ 1) (p sl : Int) (w : Bool) : (mapS s e p sl w).t 1 = s.t 1 := by
  unfold mapS
  split
  · rename_i h; exact upT_ne h.1.1 he _
  · rfl
theorem unmapS_t1 (s : S9) {e : Int} (he : e ≠ 1) (p : Int) : (unmapS s e p).t 1 = s.t 1 := by
  unfold unmapS
  split
  · rename_i h; exact upT_ne h he _
  · rfl
theorem holds_vw {c c' : S8} (hv : vw c.L 1 = vw c'.L 1) (x : Int × Bool) : holds9 c 1 x = holds9 c' 1 x := by
  unfold holds9
  rw [has8_vw, has8_vw, show (((1 : Nat) : Int)) = 1 from rfl, hv]
theorem tidyT_vw {c c' : S8} (hv : vw c.L 1 = vw c'.L 1) (t : Tb) : tidyT c 1 t = tidyT c' 1 t := by
  funext p
  unfold tidyT
  cases t p with
  | none => rfl
  | some x => dsimp only; rw [holds_vw hv]
theorem freeS_t1 {s : S13} (h : Ap13 s) {e : Int} (he : e ≠ 1) (sl : Int) : (freeS s.m e sl).t 1 = s.m.t 1 := by
  show tidyT (dropS8 s.m.c e sl) 1 (s.m.t 1) = _
  rw [tidyT_vw (c' := s.m.c) (by rw [vw_drop, if_neg (Ne.symm he)])]
  exact tidyT_of fun q x hx => h.t.tidy 1 q x hx

theorem other_do {t : S13} (h : Ap13 t) {e : Int} (he : e ≠ 1) {n : Int} (w : List Int) (h1 : n ≠ 1) (h11 : n ≠ 11) (h14 : n ≠ 14) : (doS13 t e n w).e = t.e ∧ vw (doS13 t e n w).m.c.L 1 = vw t.m.c.L 1 ∧ (doS13 t e n w).m.m.length = t.m.m.length ∧ (doS13 t e n w).m.t 1 = t.m.t 1 ∧ vw (doS13 t e n w).d.c.L 1 = vw t.d.c.L 1 ∧ ∀ x, look12 (doS13 t e n w).d x ≠ look12 t.d x → has8 t.d.c.L e 2 x 2 = true := by
  have no : ∀ x, look12 t.d x ≠ look12 t.d x → has8 t.d.c.L e 2 x 2 = true := fun x hx => absurd rfl hx
  unfold doS13
  by_cases e0 : n = 0
  · rw [if_pos e0]
    refine ⟨rfl, ?_, allocS_len _ _, by rw [allocS_t], rfl, no⟩
    show vw (allocS t.m e).c.L 1 = _
    unfold allocS
    split
    · split
      · rfl
      · exact vw_add _ _ _ _ he
    · rfl
  rw [if_neg e0, if_neg h1]
  by_cases e2 : n = 2
  · rw [if_pos e2]
    exact ⟨rfl, by show vw (dropS8 t.m.c e (w13 w 0)).L 1 = _; rw [vw_drop, if_neg (Ne.symm he)], rfl, freeS_t1 h he _, rfl, no⟩
  rw [if_neg e2]
  by_cases e3 : n = 3
  · rw [if_pos e3, revS_roots h]; exact ⟨rfl, rfl, rfl, rfl, rfl, no⟩
  rw [if_neg e3]
  by_cases e4 : n = 4
  · rw [if_pos e4]; exact ⟨rfl, by dsimp only; rw [mapS_c], by dsimp only; rw [mapS_m], mapS_t1 _ he _ _ _, rfl, no⟩
  rw [if_neg e4]
  by_cases e5 : n = 5
  · rw [if_pos e5]; exact ⟨rfl, by dsimp only; rw [unmapS_c], by dsimp only; rw [unmapS_m], unmapS_t1 _ he _, rfl, no⟩
  rw [if_neg e5]
  by_cases e6 : n = 6
  · rw [if_pos e6]; exact ⟨rfl, rfl, rfl, rfl, rfl, no⟩
  rw [if_neg e6]
  by_cases e7 : n = 7
  · rw [if_pos e7]; exact ⟨rfl, by dsimp only; rw [(storeS_c _ _ _ _).1], storeS_len _ _ _ _, by dsimp only; rw [(storeS_c _ _ _ _).2], rfl, no⟩
  rw [if_neg e7]
  by_cases e8 : n = 8
  · rw [if_pos e8]; exact ⟨rfl, by dsimp only; rw [(copyS_c _ _ _ _).1], copyS_len _ _ _ _, by dsimp only; rw [(copyS_c _ _ _ _).2], rfl, no⟩
  rw [if_neg e8]
  by_cases e9 : n = 9
  · rw [if_pos e9]; exact ⟨rfl, rfl, rfl, rfl, rfl, no⟩
  rw [if_neg e9]
  by_cases e10 : n = 10
  · rw [if_pos e10]; exact ⟨rfl, by dsimp only; rw [(writeS_c _ _ _ _ _).1], writeS_len _ _ _ _ _, by dsimp only; rw [(writeS_c _ _ _ _ _).2], rfl, no⟩
  rw [if_neg e10, if_neg h11]
  by_cases e12 : n = 12
  · rw [if_pos e12]; exact ⟨rfl, rfl, rfl, rfl, rfl, no⟩
  rw [if_neg e12]
  by_cases e13 : n = 13
  · rw [if_pos e13]
    have hl : ∀ x, look12 (allocS12 t.d e (w13 w 0) (w13 w 1)) x = look12 t.d x := fun x => by unfold allocS12; split <;> rfl
    refine ⟨rfl, rfl, rfl, rfl, ?_, fun x hx => absurd (hl x) hx⟩
    show vw (allocS12 t.d e (w13 w 0) (w13 w 1)).c.L 1 = _
    unfold allocS12
    split
    · exact vw_add _ _ _ _ he
    · rfl
  rw [if_neg e13, if_neg h14]
  by_cases e15 : n = 15
  · rw [if_pos e15, revS12_roots h]; exact ⟨rfl, rfl, rfl, rfl, rfl, no⟩
  rw [if_neg e15]
  by_cases e16 : n = 16
  · rw [if_pos e16]; exact ⟨rfl, rfl, rfl, rfl, by dsimp only; rw [getS12_c], fun x hx => absurd (look12_get h.d h.w2 e _ _ x) hx⟩
  rw [if_neg e16]
  exact ⟨rfl, rfl, rfl, rfl, by dsimp only; rw [putS12_c], fun x hx => look12_put h.d h.w2 h.k2 hx⟩
theorem other13 {t : S13} (h : Ap13 t) {e : Int} (he : e ≠ 1) {n : Int} (w : List Int) (h1 : n ≠ 1) (h11 : n ≠ 11) (h14 : n ≠ 14) : Rl t (doS13 t e n w) := by
  obtain ⟨a1, a2, a3, a4, a5, a6⟩ := other_do h he w h1 h11 h14
  refine ⟨a1.symm, ⟨a2.symm, a3.symm, fun p hp => ?_, a4.symm⟩, ⟨a5.symm, fun p hp x x1 x2 => ?_⟩⟩
  · obtain ⟨o1, o2, o3⟩ := own_row h hp he
    by_cases hc : row9 (doS13 t e n w).m.m p.2.i = row9 t.m.m p.2.i
    · exact hc.symm
    · rcases frame13 h.t e n w o1 hc with hf | hf
      · rw [o2] at hf; cases hf
      · rw [o3] at hf; cases hf
  · by_cases hc : look12 (doS13 t e n w).d x = look12 t.d x
    · exact hc.symm
    · have := a6 x hc
      rw [own_ext h hp he x1 x2] at this
      cases this

end Go.Proofs

set_option linter.unusedSimpArgs false
namespace Go.Proofs
open Go Go.Den

/-! ### Rows -/
theorem row9_self {m : List (List Int)} {f : Int} (hf : inM m f) (ws : List Int) : row9 (m.set f.toNat ws) f = ws := by
  unfold row9
  rw [List.getElem?_set, if_pos rfl, if_pos (by have := hf.1; have := hf.2; omega)]
  rfl
theorem inM_len {m m' : List (List Int)} (h : m.length = m'.length) (f : Int) : inM m f = inM m' f := by unfold inM; rw [h]
theorem wrM_eq {m m' : List (List Int)} (hl : m.length = m'.length) {i : Int} (hi : 0 ≤ i) (h : row9 m i = row9 m' i) (f w v : Int) : row9 (wrM m f w v) i = row9 (wrM m' f w v) i := by
  by_cases hc : i = f
  · subst hc
    unfold wrM
    by_cases hh : inM m i ∧ in32 w
    · have hh' : inM m' i ∧ in32 w := by rw [← inM_len hl]; exact hh
      rw [if_pos hh, if_pos hh', row9_self hh.1, row9_self hh'.1, h]
    · have hh' : ¬ (inM m' i ∧ in32 w) := by rw [← inM_len hl]; exact hh
      rw [if_neg hh, if_neg hh', h]
  · rw [wrM_row hi hc, wrM_row hi hc, h]
theorem cpM_eq {m m' : List (List Int)} (hl : m.length = m'.length) {i : Int} (hi : 0 ≤ i) (h : row9 m i = row9 m' i) (a b : Int) (hb : row9 m b = row9 m' b) : row9 (cpM m a b) i = row9 (cpM m' a b) i := by
  by_cases hc : i = a
  · subst hc
    unfold cpM
    by_cases hh : inM m i ∧ inM m b
    · have hh' : inM m' i ∧ inM m' b := by rw [← inM_len hl, ← inM_len hl]; exact hh
      rw [if_pos hh, if_pos hh', row9_self hh.1, row9_self hh'.1, hb]
    · have hh' : ¬ (inM m' i ∧ inM m' b) := by rw [← inM_len hl, ← inM_len hl]; exact hh
      rw [if_neg hh, if_neg hh', h]
  · rw [cpM_row hi hc, cpM_row hi hc, h]
theorem rdV_eq {m m' : List (List Int)} (hl : m.length = m'.length) (f w : Int) (h : row9 m f = row9 m' f) : rdV m f w = rdV m' f w := by
  unfold rdV
  simp only [inM_len hl, h]
theorem wrV_eq {m m' : List (List Int)} (hl : m.length = m'.length) (f w : Int) : wrV m f w = wrV m' f w := by
  unfold wrV
  simp only [inM_len hl]
theorem cpV_eq {m m' : List (List Int)} (hl : m.length = m'.length) (a b : Int) : cpV m a b = cpV m' a b := by
  unfold cpV
  simp only [inM_len hl]

/-! ### Capabilities -/
theorem getW_some {v : Vw} {sl : Int} (h : (getW v sl).2 = true) : ∃ p ∈ v, p.2 = (getW v sl).1 := by
  unfold getW at h ⊢
  split at h
  · cases h
  · rename_i p hp
    exact ⟨p, List.mem_of_find?_eq_some hp, rfl⟩
theorem cap9_vw {c c' : S8} (hv : vw c.L 1 = vw c'.L 1) (sl r : Int) : cap9 c 1 sl r = cap9 c' 1 sl r := by
  unfold cap9
  rw [getV8_vw, getV8_vw, hv]
theorem cap9_own {c : S8} {sl r : Int} (h : (cap9 c 1 sl r).2 = true) : ∃ p ∈ vw c.L 1, p.2.i = (cap9 c 1 sl r).1 := by
  unfold cap9 at h ⊢
  rw [getV8_vw] at h ⊢
  simp only [Bool.and_eq_true] at h
  obtain ⟨p, hp, e⟩ := getW_some h.1
  exact ⟨p, hp, by rw [e]⟩
theorem drop2 (c : S8) (e sl : Int) : (dropV8 c e sl).2 = if (getV8 c.L e sl).2 then 0 else 104 := by
  unfold dropV8 getV8
  cases look8 c.L e sl <;> rfl
theorem revoke2 (c : S8) (e sl : Int) : (revokeV8 c e sl).2 = if (getV8 c.L e sl).2 then 0 else 104 := by
  unfold revokeV8 getV8
  cases look8 c.L e sl <;> rfl
theorem walk_own {s : S13} (h : Ap13 s) {a : Int} {wr : Bool} (h0 : (walk3 (s.m.t 1) a wr).2.2 = 0) : ∃ p ∈ vw s.m.c.L 1, p.2.i = (walk3 (s.m.t 1) a wr).1 := by
  unfold walk3 at h0 ⊢
  split at h0
  · simp at h0
  · rename_i hlt
    rw [if_neg hlt]
    split at h0
    · simp at h0
    · rename_i x hx
      unfold use3 at h0 ⊢
      split at h0
      · simp at h0
      · rename_i hu
        rw [if_neg hu]
        have ht := h.t.tidy 1 _ x hx
        unfold holds9 at ht
        rw [has8_vw] at ht
        obtain ⟨p, hp, hcov⟩ := List.any_eq_true.1 ht
        simp only [covers8, Bool.and_eq_true, decide_eq_true_eq, beq_iff_eq] at hcov
        obtain ⟨⟨⟨c2, c3⟩, c4⟩, -⟩ := hcov
        obtain ⟨c, hc, -, rfl⟩ := mem_vw.1 hp
        have := (kind_i h.t.w8 h.t.kind hc).1
        refine ⟨_, hp, ?_⟩
        dsimp only at c3 c4 ⊢
        omega

/-! ### Own calls on frames -/
theorem own_i {s : S13} (hs : Ap13 s) {p : Int × Cap8} (hp : p ∈ vw s.m.c.L 1) : 0 ≤ p.2.i := by
  obtain ⟨c, hc, -, rfl⟩ := mem_vw.1 hp
  exact (kind_i hs.t.w8 hs.t.kind hc).2
section
variable {s t : S13} (hs : Ap13 s) (ht : Ap13 t) (h : Rl s t)
include h
theorem Rl.free (sl : Int) : Rmk (freeS s.m 1 sl) (freeS t.m 1 sl) := by
  have hv : vw (dropS8 s.m.c 1 sl).L 1 = vw (dropS8 t.m.c 1 sl).L 1 := by rw [vw_drop, vw_drop, if_pos rfl, if_pos rfl, h.m.v]
  refine ⟨hv, h.m.l, fun p hp => h.m.r p ?_, ?_⟩
  · have hp : p ∈ vw (dropS8 s.m.c 1 sl).L 1 := hp
    rw [vw_drop, if_pos rfl] at hp
    exact (List.mem_filter.1 hp).1
  · show tidyT (dropS8 s.m.c 1 sl) 1 (s.m.t 1) = tidyT (dropS8 t.m.c 1 sl) 1 (t.m.t 1)
    rw [tidyT_vw hv, h.m.t]
theorem Rl.map (p sl : Int) (w : Bool) : Rmk (mapS s.m 1 p sl w) (mapS t.m 1 p sl w) := by
  unfold mapS
  rw [cap9_vw h.m.v]
  split
  · exact ⟨h.m.v, h.m.l, h.m.r, by
      show upT s.m.t 1 (tMap (s.m.t 1) _ _) 1 = upT t.m.t 1 (tMap (t.m.t 1) _ _) 1
      unfold upT
      rw [if_pos rfl, if_pos rfl, h.m.t]⟩
  · exact h.m
theorem Rl.unmap (p : Int) : Rmk (unmapS s.m 1 p) (unmapS t.m 1 p) := by
  unfold unmapS
  split
  · exact ⟨h.m.v, h.m.l, h.m.r, by
      show upT s.m.t 1 (tdel (s.m.t 1) _) 1 = upT t.m.t 1 (tdel (t.m.t 1) _) 1
      unfold upT
      rw [if_pos rfl, if_pos rfl, h.m.t]⟩
  · exact h.m
theorem Rl.readV (sl w : Int) : readV s.m 1 sl w = readV t.m 1 sl w := by
  unfold Go.Proofs.readV
  rw [← cap9_vw h.m.v]
  split
  · rename_i hh
    obtain ⟨p, hp, e⟩ := cap9_own hh
    exact rdV_eq h.m.l _ _ (by rw [← e]; exact h.m.r p hp)
  · rfl
include hs
theorem Rl.store (a v : Int) : Rmk (storeS s.m 1 a v) (storeS t.m 1 a v) := by
  unfold storeS
  rw [show s.m.t (1 : Int).toNat = t.m.t (1 : Int).toNat from h.m.t]
  split
  · exact ⟨h.m.v, by show (wrM ..).length = (wrM ..).length; rw [wrM_len, wrM_len]; exact h.m.l, fun p hp => wrM_eq h.m.l (own_i hs hp) (h.m.r p hp) _ _ _, h.m.t⟩
  · exact h.m
theorem Rl.copy (a b : Int) : Rmk (copyS s.m 1 a b) (copyS t.m 1 a b) := by
  unfold copyS
  split
  · rename_i hh
    have hh' := hh
    rw [cap9_vw h.m.v, cap9_vw h.m.v] at hh'
    rw [if_pos hh']
    obtain ⟨p2, hp2, e2⟩ := cap9_own hh.2
    refine ⟨h.m.v, by show (cpM ..).length = (cpM ..).length; rw [cpM_len, cpM_len]; exact h.m.l, fun p hp => ?_, h.m.t⟩
    show row9 (cpM s.m.m _ _) p.2.i = row9 (cpM t.m.m _ _) p.2.i
    rw [← cap9_vw h.m.v, ← cap9_vw h.m.v]
    exact cpM_eq h.m.l (own_i hs hp) (h.m.r p hp) _ _ (by rw [← e2]; exact h.m.r p2 hp2)
  · rename_i hh
    rw [cap9_vw h.m.v, cap9_vw h.m.v] at hh
    rw [if_neg hh]
    exact h.m
theorem Rl.write (sl w v : Int) : Rmk (writeS s.m 1 sl w v) (writeS t.m 1 sl w v) := by
  unfold writeS
  rw [cap9_vw h.m.v]
  split
  · exact ⟨h.m.v, by show (wrM ..).length = (wrM ..).length; rw [wrM_len, wrM_len]; exact h.m.l, fun p hp => wrM_eq h.m.l (own_i hs hp) (h.m.r p hp) _ _ _, h.m.t⟩
  · exact h.m
theorem Rl.loadV (a : Int) : loadV s.m 1 a = loadV t.m 1 a := by
  unfold Go.Proofs.loadV
  rw [show t.m.t (1 : Int).toNat = s.m.t (1 : Int).toNat from h.m.t.symm]
  split
  · split
    · rename_i h0
      obtain ⟨p, hp, e⟩ := walk_own hs h0
      exact rdV_eq h.m.l _ _ (by rw [show (1 : Int).toNat = 1 from rfl, ← e]; exact h.m.r p hp)
    · rfl
  · rfl
omit hs
theorem Rl.storeV (a : Int) : storeV s.m 1 a = storeV t.m 1 a := by
  unfold Go.Proofs.storeV
  rw [show t.m.t (1 : Int).toNat = s.m.t (1 : Int).toNat from h.m.t.symm, wrV_eq h.m.l]
theorem Rl.copyV (a b : Int) : copyV s.m 1 a b = copyV t.m 1 a b := by
  unfold Go.Proofs.copyV
  rw [cap9_vw h.m.v, cap9_vw h.m.v, cpV_eq h.m.l]
theorem Rl.writeV (sl w : Int) : writeV s.m 1 sl w = writeV t.m 1 sl w := by
  unfold Go.Proofs.writeV
  rw [cap9_vw h.m.v, wrV_eq h.m.l]
theorem Rl.mapV (p sl : Int) (w : Bool) : mapV s.m 1 p sl w = mapV t.m 1 p sl w := by
  unfold Go.Proofs.mapV
  rw [cap9_vw h.m.v]
theorem Rl.unmapV (p : Int) : unmapV s.m 1 p = unmapV t.m 1 p := by
  unfold Go.Proofs.unmapV
  rw [show t.m.t (1 : Int).toNat = s.m.t (1 : Int).toNat from h.m.t.symm]
theorem Rl.drop2 (sl : Int) : (dropV8 s.m.c 1 sl).2 = (dropV8 t.m.c 1 sl).2 := by rw [Go.Proofs.drop2, Go.Proofs.drop2, getV8_vw, getV8_vw, h.m.v]
theorem Rl.revoke2 (sl : Int) : (revokeV8 s.m.c 1 sl).2 = (revokeV8 t.m.c 1 sl).2 := by rw [Go.Proofs.revoke2, Go.Proofs.revoke2, getV8_vw, getV8_vw, h.m.v]
theorem Rl.revoke2d (sl : Int) : (revokeV8 s.d.c 1 sl).2 = (revokeV8 t.d.c 1 sl).2 := by rw [Go.Proofs.revoke2, Go.Proofs.revoke2, getV8_vw, getV8_vw, h.d.v]
theorem Rl.may (sl b r : Int) : may12 s.d 1 sl b r = may12 t.d 1 sl b r := by unfold may12; rw [getV8_vw, getV8_vw, h.d.v]
end

/-! ### Own calls on blocks -/
theorem may_own {s : S12} {sl b r : Int} (h : may12 s 1 sl b r = true) : ∃ p ∈ vw s.c.L 1, p.2.i ≤ b ∧ b < p.2.i + p.2.n := by
  unfold may12 at h
  rw [getV8_vw] at h
  simp only [Bool.and_eq_true, decide_eq_true_eq] at h
  obtain ⟨p, hp, e⟩ := getW_some h.1
  rw [← e] at h
  exact ⟨p, hp, h.2.2.1, h.2.2.2⟩
theorem look12_putEq {s : S12} (hT : T12 s) (hw : W8 s.c) (e sl b : Int) (ws : List Int) (x : Int) : look12 (putS12 s e sl b ws) x = if (may12 s e sl b 2 = true ∧ ws.length = 32) ∧ x = b then ws else look12 s x := by
  unfold putS12
  by_cases hm : may12 s e sl b 2 = true ∧ ws.length = 32
  · rw [if_pos hm]
    have hb := may12_in hT hw hm.1
    unfold look12
    simp only [mem_putL]
    by_cases hx : x = b
    · subst hx
      rw [if_pos (.inl rfl), row12_set hb.1 hb.1 (by rw [hT.len]; have := hb.1; have := hb.2; omega), if_pos rfl, if_pos ⟨hm, rfl⟩]
    · rw [if_neg (show ¬ ((may12 s e sl b 2 = true ∧ ws.length = 32) ∧ x = b) from fun h => hx h.2)]
      by_cases hi : x ∈ s.I
      · rw [if_pos (.inr hi), if_pos hi, row12_set hb.1 (hT.inI x hi).1 (by rw [hT.len]; have := hb.1; have := hb.2; omega), if_neg hx]
      · rw [if_neg (by simp [hx, hi]), if_neg hi]
  · rw [if_neg hm, if_neg (fun h => hm h.1)]
section
variable {s t : S13} (hs : Ap13 s) (ht : Ap13 t) (h : Rl s t)
include h
theorem Rl.getV12 (sl b : Int) : getV12 s.d 1 sl b = getV12 t.d 1 sl b := by
  unfold Go.Proofs.getV12
  rw [← h.may]
  split
  · rename_i hm
    obtain ⟨p, hp, h1, h2⟩ := may_own hm
    rw [h.d.r p hp b h1 h2]
  · rfl
theorem Rl.putV12 (sl b : Int) (ws : List Int) : putV12 s.d 1 sl b ws = putV12 t.d 1 sl b ws := by
  unfold Go.Proofs.putV12
  rw [h.may]
include hs ht
theorem Rl.getS12 (sl b : Int) : Rdk (getS12 s.d 1 sl b) (getS12 t.d 1 sl b) := by
  refine ⟨by rw [getS12_c, getS12_c]; exact h.d.v, fun p hp x h1 h2 => ?_⟩
  rw [getS12_c] at hp
  rw [look12_get hs.d hs.w2, look12_get ht.d ht.w2]
  exact h.d.r p hp x h1 h2
theorem Rl.putS12 (sl b : Int) (ws : List Int) : Rdk (putS12 s.d 1 sl b ws) (putS12 t.d 1 sl b ws) := by
  refine ⟨by rw [putS12_c, putS12_c]; exact h.d.v, fun p hp x h1 h2 => ?_⟩
  rw [putS12_c] at hp
  rw [look12_putEq hs.d hs.w2, look12_putEq ht.d ht.w2, h.may, h.d.r p hp x h1 h2]

theorem own_do {n : Int} (w : List Int) (h0 : n ≠ 0) (h1 : n ≠ 1) (h11 : n ≠ 11) (h12 : n ≠ 12) (h13 : n ≠ 13) (h14 : n ≠ 14) : Rl (doS13 s 1 n w) (doS13 t 1 n w) ∧ doV13 s 1 n w = doV13 t 1 n w := by
  unfold doS13 doV13
  rw [if_neg h0, if_neg h0, if_neg h0, if_neg h0, if_neg h1, if_neg h1, if_neg h1, if_neg h1]
  by_cases e2 : n = 2
  · rw [if_pos e2, if_pos e2, if_pos e2, if_pos e2]; exact ⟨⟨h.e, h.free _, h.d⟩, by rw [h.drop2]⟩
  rw [if_neg e2, if_neg e2, if_neg e2, if_neg e2]
  by_cases e3 : n = 3
  · rw [if_pos e3, if_pos e3, if_pos e3, if_pos e3, revS_roots hs, revS_roots ht]; exact ⟨⟨h.e, h.m, h.d⟩, by rw [h.revoke2]⟩
  rw [if_neg e3, if_neg e3, if_neg e3, if_neg e3]
  by_cases e4 : n = 4
  · rw [if_pos e4, if_pos e4, if_pos e4, if_pos e4]; exact ⟨⟨h.e, h.map _ _ _, h.d⟩, by rw [h.mapV]⟩
  rw [if_neg e4, if_neg e4, if_neg e4, if_neg e4]
  by_cases e5 : n = 5
  · rw [if_pos e5, if_pos e5, if_pos e5, if_pos e5]; exact ⟨⟨h.e, h.unmap _, h.d⟩, by rw [h.unmapV]⟩
  rw [if_neg e5, if_neg e5, if_neg e5, if_neg e5]
  by_cases e6 : n = 6
  · rw [if_pos e6, if_pos e6, if_pos e6, if_pos e6]; exact ⟨h, by rw [h.loadV hs]⟩
  rw [if_neg e6, if_neg e6, if_neg e6, if_neg e6]
  by_cases e7 : n = 7
  · rw [if_pos e7, if_pos e7, if_pos e7, if_pos e7]; exact ⟨⟨h.e, h.store hs _ _, h.d⟩, by rw [h.storeV]⟩
  rw [if_neg e7, if_neg e7, if_neg e7, if_neg e7]
  by_cases e8 : n = 8
  · rw [if_pos e8, if_pos e8, if_pos e8, if_pos e8]; exact ⟨⟨h.e, h.copy hs _ _, h.d⟩, by rw [h.copyV]⟩
  rw [if_neg e8, if_neg e8, if_neg e8, if_neg e8]
  by_cases e9 : n = 9
  · rw [if_pos e9, if_pos e9, if_pos e9, if_pos e9]; exact ⟨h, by rw [h.readV]⟩
  rw [if_neg e9, if_neg e9, if_neg e9, if_neg e9]
  by_cases e10 : n = 10
  · rw [if_pos e10, if_pos e10, if_pos e10, if_pos e10]; exact ⟨⟨h.e, h.write hs _ _ _, h.d⟩, by rw [h.writeV]⟩
  rw [if_neg e10, if_neg e10, if_neg e10, if_neg e10, if_neg h11, if_neg h11, if_neg h11, if_neg h11, if_neg h12, if_neg h12, if_neg h12, if_neg h12, if_neg h13, if_neg h13, if_neg h13, if_neg h13, if_neg h14, if_neg h14, if_neg h14, if_neg h14]
  by_cases e15 : n = 15
  · rw [if_pos e15, if_pos e15, if_pos e15, if_pos e15, revS12_roots hs, revS12_roots ht]; exact ⟨⟨h.e, h.m, h.d⟩, by rw [h.revoke2d]⟩
  rw [if_neg e15, if_neg e15, if_neg e15, if_neg e15]
  by_cases e16 : n = 16
  · rw [if_pos e16, if_pos e16, if_pos e16, if_pos e16]; exact ⟨⟨h.e, h.m, h.getS12 hs ht _ _⟩, by rw [h.getV12]⟩
  rw [if_neg e16, if_neg e16, if_neg e16, if_neg e16]
  exact ⟨⟨h.e, h.m, h.putS12 hs ht _ _ _⟩, by rw [h.putV12]⟩
omit hs ht
theorem good_eq (env n : Int) (w : List Int) : good13 s env n w = good13 t env n w := by unfold good13; rw [h.e]
end

/-- A call that joins nobody; the words in front. -/
def joined13 (cs : List Int) : Bool := match cs with
  | [] => false
  | n :: _ => n == 1 || n == 11 || n == 14
def skip13 (cs : List Int) : Bool := match cs with
  | [] => true
  | n :: _ => n == 1 || n == 11 || n == 14 || n == 0 || n == 12 || n == 13
theorem Ap13.raw {s : S13} (h : Ap13 s) (env : Int) {cs : List Int} (hj : joined13 cs = false) (hw : W8 (rawS13 s env cs).m.c) (hw2 : W8 (rawS13 s env cs).d.c) (hd : T12 (rawS13 s env cs).d) : Ap13 (rawS13 s env cs) := by
  cases cs with
  | nil => exact h
  | cons n w =>
    unfold rawS13 at hw hw2 hd ⊢
    dsimp only at hw hw2 hd ⊢
    simp only [joined13, Bool.or_eq_false_iff, beq_eq_false_iff_ne] at hj
    split
    · rename_i hg
      rw [if_pos hg] at hw hw2 hd
      exact h.do_ env w hj.1.1 hj.1.2 hj.2 hw hw2 hd
    · exact h
theorem other_raw {t : S13} (h : Ap13 t) {e : Int} (he : e ≠ 1) {cs : List Int} (hj : joined13 cs = false) : Rl t (rawS13 t e cs) := by
  cases cs with
  | nil => exact Rl.refl t
  | cons n w =>
    unfold rawS13
    dsimp only
    simp only [joined13, Bool.or_eq_false_iff, beq_eq_false_iff_ne] at hj
    split
    · exact other13 h he w hj.1.1 hj.1.2 hj.2
    · exact Rl.refl t
theorem own_raw {s t : S13} (hs : Ap13 s) (ht : Ap13 t) (h : Rl s t) {cs : List Int} (hj : skip13 cs = false) : Rl (rawS13 s 1 cs) (rawS13 t 1 cs) ∧ rawV13 s 1 cs = rawV13 t 1 cs := by
  cases cs with
  | nil => cases hj
  | cons n w =>
    simp only [skip13, Bool.or_eq_false_iff, beq_eq_false_iff_ne] at hj
    unfold rawS13 rawV13
    dsimp only
    rw [← good_eq h, ← h.e]
    split
    · exact own_do hs ht h w hj.1.1.2 hj.1.1.1.1.1 hj.1.1.1.1.2 hj.1.2 hj.2 hj.1.1.1.2
    · exact ⟨h, rfl⟩
theorem skip_joined {cs : List Int} (h : skip13 cs = false) : joined13 cs = false := by
  cases cs with
  | nil => rfl
  | cons n w =>
    simp only [skip13, Bool.or_eq_false_iff] at h
    simp only [joined13, Bool.or_eq_false_iff]
    exact h.1.1.1

/-! ### What it sees -/
theorem capsW_get (s : S13) (env : Int) (j : Nat) : capsW13 s env j = if (getV8 s.m.c.L env ((j : Nat) + 1 : Int)).2 then [(j : Int) + 1, IntKind.u64.wrap (getV8 s.m.c.L env ((j : Nat) + 1 : Int)).1.i, IntKind.u64.wrap (getV8 s.m.c.L env ((j : Nat) + 1 : Int)).1.r] ++ pageW13 s.m.m (getV8 s.m.c.L env ((j : Nat) + 1 : Int)).1.i else [] := by
  unfold capsW13 getV8
  cases look8 s.m.c.L env ((j : Nat) + 1 : Int) <;> rfl
theorem extW_get (s : S13) (env : Int) (j : Nat) : extW13 s env j = if (getV8 s.d.c.L env ((j : Nat) + 1 : Int)).2 then [(j : Int) + 1, IntKind.u64.wrap (getV8 s.d.c.L env ((j : Nat) + 1 : Int)).1.i, IntKind.u64.wrap (getV8 s.d.c.L env ((j : Nat) + 1 : Int)).1.n, IntKind.u64.wrap (getV8 s.d.c.L env ((j : Nat) + 1 : Int)).1.r] ++ ((List.range (getV8 s.d.c.L env ((j : Nat) + 1 : Int)).1.n.toNat).flatMap fun b => look12 s.d ((getV8 s.d.c.L env ((j : Nat) + 1 : Int)).1.i + (b : Nat))) else [] := by
  unfold extW13 getV8
  cases look8 s.d.c.L env ((j : Nat) + 1 : Int) <;> rfl
theorem flatMap_eq {α β : Type} {f g : α → List β} : ∀ {l : List α}, (∀ x ∈ l, f x = g x) → l.flatMap f = l.flatMap g
  | [], _ => rfl
  | a :: l, h => by rw [List.flatMap_cons, List.flatMap_cons, h a (by simp), flatMap_eq fun x hx => h x (by simp [hx])]
theorem sees_eq {s t : S13} (hs : Ap13 s) (ht : Ap13 t) (h : Rl s t) : sees13 s 1 = sees13 t 1 := by
  have hc : ∀ j, capsW13 s 1 j = capsW13 t 1 j := fun j => by
    rw [capsW_get, capsW_get, getV8_vw t.m.c.L, ← h.m.v, ← getV8_vw]
    split
    · rename_i hg
      rw [getV8_vw] at hg ⊢
      obtain ⟨p, hp, e⟩ := getW_some hg
      rw [← e]
      unfold pageW13
      simp only [inM_len h.m.l, h.m.r p hp]
    · rfl
  have hx : ∀ j, extW13 s 1 j = extW13 t 1 j := fun j => by
    rw [extW_get, extW_get, getV8_vw t.d.c.L, ← h.d.v, ← getV8_vw]
    split
    · rename_i hg
      rw [getV8_vw] at hg ⊢
      obtain ⟨p, hp, e⟩ := getW_some hg
      rw [← e]
      rw [flatMap_eq (g := fun b : Nat => look12 t.d (p.2.i + (b : Nat))) fun b hb => h.d.r p hp _ (by omega) (by have := List.mem_range.1 hb; omega)]
    · rfl
  have hpg : ∀ j, pagesW13 s 1 j = pagesW13 t 1 j := fun j => by
    unfold pagesW13 pageT
    rw [show t.m.t (1 : Int).toNat = s.m.t (1 : Int).toNat from h.m.t.symm]
  unfold sees13
  rw [h.e, hs.q, ht.q, funext hc, funext hx, funext hpg]

end Go.Proofs

set_option linter.unusedSimpArgs false
namespace Go.Proofs
open Go Go.Den

theorem gr_alloc (s : S9) (e : Int) : Grows 1 s.c (allocS s e).c := by
  unfold allocS
  split
  · split
    · exact Grows.refl ..
    · exact addS8_len ..
  · exact Grows.refl ..
theorem gr_grant (s : S9) (e sl to r : Int) : Grows 1 s.c (grantS s e sl to r).c := giveS8_len s.c e sl to r
theorem gr_free (s : S9) (e sl : Int) : Grows 1 s.c (freeS s e sl).c := (dropS8_len s.c e sl).mono (by omega)
theorem gr_rev (s : S9) (e sl : Int) : Grows 1 s.c (revS s e sl).c := (revokeS8_len s.c e sl).mono (by omega)
theorem gr_map (s : S9) (e p sl : Int) (w : Bool) : Grows 1 s.c (mapS s e p sl w).c := by rw [mapS_c]; exact Grows.refl ..
theorem gr_unmap (s : S9) (e p : Int) : Grows 1 s.c (unmapS s e p).c := by rw [unmapS_c]; exact Grows.refl ..
theorem gr_store (s : S9) (e a v : Int) : Grows 1 s.c (storeS s e a v).c := by rw [(storeS_c _ _ _ _).1]; exact Grows.refl ..
theorem gr_copy (s : S9) (e a b : Int) : Grows 1 s.c (copyS s e a b).c := by rw [(copyS_c _ _ _ _).1]; exact Grows.refl ..
theorem gr_write (s : S9) (e sl w v : Int) : Grows 1 s.c (writeS s e sl w v).c := by rw [(writeS_c _ _ _ _ _).1]; exact Grows.refl ..
theorem gr_alloc12 (s : S12) (e f n : Int) : Grows 1 s.c (allocS12 s e f n).c := by
  unfold allocS12
  split
  · exact addS8_len ..
  · exact Grows.refl ..
theorem gr_grant12 (s : S12) (e sl to r : Int) : Grows 1 s.c (grantS12 s e sl to r).c := giveS8_len s.c e sl to r
theorem gr_rev12 (s : S12) (e sl : Int) : Grows 1 s.c (revS12 s e sl).c := (revokeS8_len s.c e sl).mono (by omega)
theorem gr_get12 (s : S12) (e sl b : Int) : Grows 1 s.c (getS12 s e sl b).c := by unfold getS12; split <;> exact Grows.refl ..
theorem gr_put12 (s : S12) (e sl b : Int) (ws : List Int) : Grows 1 s.c (putS12 s e sl b ws).c := by unfold putS12; split <;> exact Grows.refl ..
theorem P_ite {α : Type} {P : α → Prop} {c : Prop} [Decidable c] {a b : α} (ha : P a) (hb : P b) : P (if c then a else b) := by split <;> assumption
theorem doS13_len (s : S13) (env n : Int) (w : List Int) : Grows 1 s.m.c (doS13 s env n w).m.c ∧ Grows 1 s.d.c (doS13 s env n w).d.c := by
  have key : ∀ P : S13 → Prop, P s → (∀ m : S9, Grows 1 s.m.c m.c → P { s with m := m }) → (∀ d : S12, Grows 1 s.d.c d.c → P { s with d := d }) → (∀ q, P { s with q := q }) → P (doS13 s env n w) := by
    intro P h0 hm hd hq
    unfold doS13
    repeat' refine P_ite (P := P) ?_ ?_
    all_goals first
      | exact h0
      | exact hm _ (gr_alloc ..)
      | exact hm _ (gr_grant ..)
      | exact hm _ (gr_free ..)
      | exact hm _ (gr_rev ..)
      | exact hm _ (gr_map ..)
      | exact hm _ (gr_unmap ..)
      | exact hm _ (gr_store ..)
      | exact hm _ (gr_copy ..)
      | exact hm _ (gr_write ..)
      | exact hd _ (gr_alloc12 ..)
      | exact hd _ (gr_grant12 ..)
      | exact hd _ (gr_rev12 ..)
      | exact hd _ (gr_get12 ..)
      | exact hd _ (gr_put12 ..)
      | exact hq _
  exact key (fun x : S13 => Grows 1 s.m.c x.m.c ∧ Grows 1 s.d.c x.d.c) ⟨Grows.refl .., Grows.refl ..⟩ (fun m h => ⟨h, Grows.refl ..⟩) (fun d h => ⟨Grows.refl .., h⟩) fun q => ⟨Grows.refl .., Grows.refl ..⟩
theorem rawS13_len (s : S13) (env : Int) (cs : List Int) : Grows 1 s.m.c (rawS13 s env cs).m.c ∧ Grows 1 s.d.c (rawS13 s env cs).d.c := by
  unfold rawS13
  split
  · exact ⟨Grows.refl .., Grows.refl ..⟩
  · split
    · exact doS13_len ..
    · exact ⟨Grows.refl .., Grows.refl ..⟩

end Go.Proofs
