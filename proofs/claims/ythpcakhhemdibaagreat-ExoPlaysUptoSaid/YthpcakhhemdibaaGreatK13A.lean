/-
  exo, as plain functions: raw calls on all parts; what an environment sees.
  exo, as plain functions: what holds of all states; a call that answers an error changes nothing.
  exo, as plain functions: what a call changes, its caller may write, or it was free.
-/
import Derived.Test.YthpcakhhemdibaaGreatK9A
import Derived.Test.YthpcakhhemdibaaGreatK12A
import Derived.Test.YthpcakhhemdibaaGreatV1A
set_option linter.unusedVariables false
set_option linter.unusedSimpArgs false
namespace Go.Proofs
open Go Go.Den

/-- Frames; the disk; who lives; the messages that wait. -/
structure S13 where
  m : S9
  d : S12
  e : List Int
  q : V11.Qs

/-! ### A call's form -/
def form13 (n : Int) : Option (Nat × Nat × Nat) :=
  if n = 0 ∨ n = 12 then some (0, 0, 0) else if n = 1 ∨ n = 4 ∨ n = 14 then some (3, 3, 3) else if n = 2 ∨ n = 3 ∨ n = 5 ∨ n = 15 then some (1, 1, 1) else
  if n = 6 then some (1, 1, 0) else if n = 7 then some (2, 2, 0) else if n = 8 ∨ n = 9 ∨ n = 13 ∨ n = 16 then some (2, 2, 2) else if n = 10 then some (3, 3, 2) else
  if n = 11 then some (1, 9, 1) else if n = 17 then some (34, 34, 2) else none
def w13 (w : List Int) (i : Nat) : Int := (w[i]?).getD 0
def arg13 (w : List Int) (pl i : Nat) : Int := if i < pl then w13 w i else 0
/-- May the call be done? -/
def good13 (s : S13) (env n : Int) (w : List Int) : Bool := match form13 n with
  | none => false
  | some f => decide (f.1 ≤ w.length) && decide (w.length ≤ f.2.1) && (w.take f.2.2).all (fun x => decide (x < 2147483648)) &&
    (if n = 1 ∨ n = 14 then decide (arg13 w f.2.2 1 ∈ s.e) else if n = 4 then decide (arg13 w f.2.2 2 < 2) else if n = 11 then decide (arg13 w f.2.2 0 ∈ s.e) else true)

def ans1 (x : Int × Int) : List Int × Int := if x.2 = 0 then ([IntKind.u64.wrap x.1], 0) else ([], x.2)
def ansW (x : Int × Int) : List Int × Int := if x.2 = 0 then ([x.1], 0) else ([], x.2)
def doV13 (s : S13) (env n : Int) (w : List Int) : List Int × Int :=
  if n = 0 then ans1 (allocV s.m env) else if n = 1 then ans1 (giveV8 s.m.c env (w13 w 0) (w13 w 1) (w13 w 2)) else if n = 2 then ([], (dropV8 s.m.c env (w13 w 0)).2) else
  if n = 3 then ([], (revokeV8 s.m.c env (w13 w 0)).2) else if n = 4 then ([], mapV s.m env (w13 w 0) (w13 w 1) (decide (w13 w 2 = 1))) else if n = 5 then ([], unmapV s.m env (w13 w 0)) else
  if n = 6 then ansW (loadV s.m env (w13 w 0)) else if n = 7 then ([], storeV s.m env (w13 w 0)) else if n = 8 then ([], copyV s.m env (w13 w 0) (w13 w 1)) else
  if n = 9 then ansW (readV s.m env (w13 w 0) (w13 w 1)) else if n = 10 then ([], writeV s.m env (w13 w 0) (w13 w 1)) else
  if n = 11 then ([], V11.sendE s.q env (w13 w 0) (w.length - 1)) else
  if n = 12 then (match s.q env with | [] => ([], 106) | x :: _ => (IntKind.u64.wrap x.1 :: x.2, 0)) else
  if n = 13 then ans1 (allocV12 s.d env (w13 w 0) (w13 w 1)) else if n = 14 then ans1 (giveV8 s.d.c env (w13 w 0) (w13 w 1) (w13 w 2)) else if n = 15 then ([], (revokeV8 s.d.c env (w13 w 0)).2) else
  if n = 16 then getV12 s.d env (w13 w 0) (w13 w 1) else ([], putV12 s.d env (w13 w 0) (w13 w 1) (w.drop 2))
def doS13 (s : S13) (env n : Int) (w : List Int) : S13 :=
  if n = 0 then { s with m := allocS s.m env } else if n = 1 then { s with m := grantS s.m env (w13 w 0) (w13 w 1) (w13 w 2) } else if n = 2 then { s with m := freeS s.m env (w13 w 0) } else
  if n = 3 then { s with m := revS s.m env (w13 w 0) } else if n = 4 then { s with m := mapS s.m env (w13 w 0) (w13 w 1) (decide (w13 w 2 = 1)) } else if n = 5 then { s with m := unmapS s.m env (w13 w 0) } else
  if n = 6 then s else if n = 7 then { s with m := storeS s.m env (w13 w 0) (w13 w 1) } else if n = 8 then { s with m := copyS s.m env (w13 w 0) (w13 w 1) } else
  if n = 9 then s else if n = 10 then { s with m := writeS s.m env (w13 w 0) (w13 w 1) (w13 w 2) } else
  if n = 11 then { s with q := V11.sendQ s.q env (w13 w 0) (w.drop 1) } else
  if n = 12 then { s with q := V11.qput s.q env ((s.q env).drop 1) } else
  if n = 13 then { s with d := allocS12 s.d env (w13 w 0) (w13 w 1) } else if n = 14 then { s with d := grantS12 s.d env (w13 w 0) (w13 w 1) (w13 w 2) } else if n = 15 then { s with d := revS12 s.d env (w13 w 0) } else
  if n = 16 then { s with d := getS12 s.d env (w13 w 0) (w13 w 1) } else { s with d := putS12 s.d env (w13 w 0) (w13 w 1) (w.drop 2) }
def rawV13 (s : S13) (env : Int) (call : List Int) : List Int × Int := match call with
  | [] => ([], 101)
  | n :: w => if env ∈ s.e ∧ good13 s env n w = true then doV13 s env n w else ([], 101)
def rawS13 (s : S13) (env : Int) (call : List Int) : S13 := match call with
  | [] => s
  | n :: w => if env ∈ s.e ∧ good13 s env n w = true then doS13 s env n w else s

/-! ### What an environment sees -/
def pageW13 (m : List (List Int)) (f : Int) : List Int := if inM m f then row9 m f else []
def capsW13 (s : S13) (env : Int) (j : Nat) : List Int := match look8 s.m.c.L env ((j : Nat) + 1 : Int) with
  | none => []
  | some c => [(j : Int) + 1, IntKind.u64.wrap c.x.i, IntKind.u64.wrap c.x.r] ++ pageW13 s.m.m c.x.i
def pagesW13 (s : S13) (env : Int) (p : Nat) : List Int := match pageT s.m env (p : Nat) with
  | none => []
  | some x => [(p : Int), IntKind.u64.wrap x.1, if x.2 then 1 else 0]
def extW13 (s : S13) (env : Int) (j : Nat) : List Int := match look8 s.d.c.L env ((j : Nat) + 1 : Int) with
  | none => []
  | some c => [(j : Int) + 1, IntKind.u64.wrap c.x.i, IntKind.u64.wrap c.x.n, IntKind.u64.wrap c.x.r] ++ ((List.range c.x.n.toNat).flatMap fun b => look12 s.d (c.x.i + (b : Nat)))
def sees13 (s : S13) (env : Int) : List Int :=
  if env ∈ s.e then 1 :: ((List.range 64).flatMap (capsW13 s env) ++ (List.range 4).flatMap (pagesW13 s env) ++ (List.range 64).flatMap (extW13 s env) ++ [(((s.q env).length : Nat) : Int)]) else []

end Go.Proofs

set_option linter.unusedSimpArgs false
namespace Go.Proofs
open Go Go.Den

/-! ### Frames -/
def Tidy9 (s : S9) : Prop := ∀ (e : Nat) (q : Int) (x : Int × Bool), s.t e q = some x → holds9 s.c e x = true
def kind1 (c : S8) : Prop := ∀ x ∈ c.L, x.x.k = 1
theorem tidyT_of {c : S8} {e : Nat} {t : Tb} (h : ∀ q x, t q = some x → holds9 c e x = true) : tidyT c e t = t := by
  funext q
  unfold tidyT
  split
  · rename_i hq; rw [hq]
  · rename_i x hq; rw [if_pos (h q x hq), hq]
theorem tidyS_of {s : S9} (h : Tidy9 s) : tidyS s = s := by
  unfold tidyS
  have : (fun e => tidyT s.c e (s.t e)) = s.t := by funext e; exact tidyT_of (h e)
  rw [this]
theorem tidyS_tidy (s : S9) : Tidy9 (tidyS s) := fun e q x hx => (tidyT_some hx).2
theorem has8_mono {L L' : List CE} (h : ∀ c ∈ L, c ∈ L') {e k i r : Int} (hh : has8 L e k i r = true) : has8 L' e k i r = true := by
  obtain ⟨c, hc, h2⟩ := List.any_eq_true.1 hh
  exact List.any_eq_true.2 ⟨c, h c hc, h2⟩
theorem Tidy9.grow {s : S9} (h : Tidy9 s) {c : S8} {m : List (List Int)} (hc : ∀ x ∈ s.c.L, x ∈ c.L) : Tidy9 { s with c := c, m := m } := fun e q x hx => has8_mono hc (h e q x hx)
theorem Tidy9.alloc {s : S9} (h : Tidy9 s) (e : Int) : Tidy9 (allocS s e) := by
  unfold allocS
  split
  · split
    · exact h
    · exact h.grow fun x hx => keep_add hx
  · exact h
theorem Tidy9.grant {s : S9} (h : Tidy9 s) (e sl to r : Int) : Tidy9 (grantS s e sl to r) := h.grow fun x hx => keep_give hx
theorem cap9_has {c : S8} (hw : W8 c) (hk : kind1 c) {e sl r : Int} (h : (cap9 c e sl r).2 = true) : has8 c.L e 1 (cap9 c e sl r).1 r = true := by
  unfold cap9 getV8 at h ⊢
  cases hl : look8 c.L e sl with
  | none => rw [hl] at h; simp at h
  | some d =>
    rw [hl] at h
    obtain ⟨hd, h1, h2⟩ := look8_some hl
    simp only [Bool.true_and] at h
    refine List.any_eq_true.2 ⟨d, hd, ?_⟩
    obtain ⟨h3, h4, -⟩ := (hw.in_ d hd).2.2.2.1
    have hn : d.x.n = 1 := by
      rcases h3 with h3 | h3
      · have := hk d hd; omega
      · exact h3.2
    simp only [covers8, h1, hk d hd, hn, h, beq_self_eq_true, Bool.true_and, Bool.and_true, Bool.and_eq_true, decide_eq_true_eq]
    exact ⟨Int.le_refl _, by omega⟩
theorem Tidy9.map {s : S9} (hw : W8 s.c) (hk : kind1 s.c) (h : Tidy9 s) (e p sl : Int) (w : Bool) : Tidy9 (mapS s e p sl w) := by
  unfold mapS
  split
  · rename_i hh
    intro e' q x hx
    simp only [upT] at hx
    split at hx
    · rename_i he
      unfold tMap at hx
      split at hx
      · subst he; exact h _ q x hx
      · unfold tput at hx
        split at hx
        · have hx := Option.some.inj hx
          subst hx
          have he0 : ((e.toNat : Nat) : Int) = e := by have := hh.1.1; unfold env12 at this; omega
          show has8 s.c.L (e' : Nat) 1 _ (need9 w) = true
          rw [← he, he0]
          exact cap9_has hw hk hh.2
        · subst he; exact h _ q x hx
    · exact h e' q x hx
  · exact h
theorem Tidy9.unmap {s : S9} (h : Tidy9 s) (e p : Int) : Tidy9 (unmapS s e p) := by
  unfold unmapS
  split
  · intro e' q x hx
    simp only [upT] at hx
    split at hx
    · rename_i he
      unfold tdel at hx
      split at hx
      · cases hx
      · subst he; exact h _ q x hx
    · exact h e' q x hx
  · exact h

/-- What holds of all states. -/
structure T13 (s : S13) : Prop where
  w8 : W8 s.m.c
  kind : kind1 s.m.c
  tidy : Tidy9 s.m
  tb : ∀ e, TbOk (s.m.t e)
/-! ### All that comes of calls -/
theorem kind1.sub {c c' : S8} (h : kind1 c) (hs : ∀ x ∈ c'.L, ∃ d ∈ c.L, d.x.k = x.x.k) : kind1 c' := fun x hx => by
  obtain ⟨d, hd, e⟩ := hs x hx
  rw [← e]; exact h d hd
theorem kind1.alloc {s : S9} (h : kind1 s.c) (e : Int) : kind1 (allocS s e).c := by
  unfold allocS
  split
  · split
    · exact h
    · intro x hx
      rcases mem_add hx with hx | ⟨-, hx, -⟩
      · exact h x hx
      · rw [hx]; rfl
  · exact h
theorem kind1.give {c : S8} (h : kind1 c) (e sl to r : Int) : kind1 (giveS8 c e sl to r) := h.sub fun x hx => by
  rcases mem_give hx with hx | ⟨d, hd, -, -, -, -, hx, -⟩
  · exact ⟨x, hx, rfl⟩
  · exact ⟨d, hd, by rw [hx]⟩
theorem kind1.drop {c : S8} (h : kind1 c) (e sl : Int) : kind1 (dropS8 c e sl) := h.sub fun x hx => by
  obtain ⟨d, hd, -, -, -, hx, -⟩ := mem_drop hx
  exact ⟨d, hd, by rw [hx]⟩
theorem kind1.revoke {c : S8} (h : kind1 c) (e sl : Int) : kind1 (revokeS8 c e sl) := h.sub fun x hx => ⟨x, mem_revoke hx, rfl⟩
theorem tbOk_tidy {c : S8} {e : Nat} {t : Tb} (h : TbOk t) : TbOk (tidyT c e t) := fun k x hx => h k x (tidyT_some hx).1
theorem tbOk_up {t : Nat → Tb} (h : ∀ e, TbOk (t e)) (i : Nat) {x : Tb} (hx : TbOk x) : ∀ e, TbOk (upT t i x e) := fun e => by
  unfold upT; split
  · exact hx
  · exact h e
theorem allocS_t (s : S9) (e : Int) : (allocS s e).t = s.t := by
  unfold allocS
  split
  · split <;> rfl
  · rfl
theorem storeS_c (s : S9) (e a v : Int) : (storeS s e a v).c = s.c ∧ (storeS s e a v).t = s.t := by unfold storeS; split <;> exact ⟨rfl, rfl⟩
theorem copyS_c (s : S9) (e a b : Int) : (copyS s e a b).c = s.c ∧ (copyS s e a b).t = s.t := by unfold copyS; split <;> exact ⟨rfl, rfl⟩
theorem writeS_c (s : S9) (e sl w v : Int) : (writeS s e sl w v).c = s.c ∧ (writeS s e sl w v).t = s.t := by unfold writeS; split <;> exact ⟨rfl, rfl⟩
theorem mapS_c (s : S9) (e p sl : Int) (w : Bool) : (mapS s e p sl w).c = s.c := by unfold mapS; split <;> rfl
theorem unmapS_c (s : S9) (e p : Int) : (unmapS s e p).c = s.c := by unfold unmapS; split <;> rfl
theorem Tidy9.same {s s' : S9} (h : Tidy9 s) (hc : s'.c = s.c) (ht : s'.t = s.t) : Tidy9 s' := fun e q x hx => by rw [ht] at hx; rw [hc]; exact h e q x hx
theorem mapS_tb {s : S9} (h : ∀ e, TbOk (s.t e)) (e p sl : Int) (w : Bool) : ∀ e', TbOk ((mapS s e p sl w).t e') := by
  unfold mapS
  split
  · exact tbOk_up h _ ((h _).map _ _)
  · exact h
theorem unmapS_tb {s : S9} (h : ∀ e, TbOk (s.t e)) (e p : Int) : ∀ e', TbOk ((unmapS s e p).t e') := by
  unfold unmapS
  split
  · exact tbOk_up h _ ((h _).del _)
  · exact h

theorem T13.do_ {s : S13} (h : T13 s) (env n : Int) (w : List Int) (hw : W8 (doS13 s env n w).m.c) : T13 (doS13 s env n w) := by
  unfold doS13 at hw ⊢
  by_cases e0 : n = 0
  · rw [if_pos e0] at hw ⊢
    exact ⟨hw, h.kind.alloc env, h.tidy.alloc env, by show ∀ e, TbOk ((allocS s.m env).t e); rw [allocS_t]; exact h.tb⟩
  rw [if_neg e0] at hw ⊢
  by_cases e1 : n = 1
  · rw [if_pos e1] at hw ⊢
    exact ⟨hw, by have h9 := h.kind.give env (w13 w 0) (w13 w 1) (w13 w 2); exact h9, by have h9 := h.tidy.grant env (w13 w 0) (w13 w 1) (w13 w 2); exact h9, h.tb⟩
  rw [if_neg e1] at hw ⊢
  by_cases e2 : n = 2
  · rw [if_pos e2] at hw ⊢
    exact ⟨hw, by have h9 := h.kind.drop env (w13 w 0); exact h9, tidyS_tidy _, fun e => tbOk_tidy (h.tb e)⟩
  rw [if_neg e2] at hw ⊢
  by_cases e3 : n = 3
  · rw [if_pos e3] at hw ⊢
    exact ⟨hw, by have h9 := h.kind.revoke env (w13 w 0); exact h9, tidyS_tidy _, fun e => tbOk_tidy (h.tb e)⟩
  rw [if_neg e3] at hw ⊢
  by_cases e4 : n = 4
  · rw [if_pos e4] at hw ⊢
    exact ⟨hw, by show kind1 (mapS ..).c; rw [mapS_c]; exact h.kind, by have h9 := h.tidy.map h.w8 h.kind env (w13 w 0) (w13 w 1) (decide (w13 w 2 = 1)); exact h9, by have h9 := mapS_tb h.tb env (w13 w 0) (w13 w 1) (decide (w13 w 2 = 1)); exact h9⟩
  rw [if_neg e4] at hw ⊢
  by_cases e5 : n = 5
  · rw [if_pos e5] at hw ⊢
    exact ⟨hw, by show kind1 (unmapS ..).c; rw [unmapS_c]; exact h.kind, by have h9 := h.tidy.unmap env (w13 w 0); exact h9, by have h9 := unmapS_tb h.tb env (w13 w 0); exact h9⟩
  rw [if_neg e5] at hw ⊢
  by_cases e6 : n = 6
  · rw [if_pos e6] at hw ⊢
    exact h
  rw [if_neg e6] at hw ⊢
  by_cases e7 : n = 7
  · rw [if_pos e7] at hw ⊢
    exact ⟨hw, by show kind1 (storeS ..).c; rw [(storeS_c ..).1]; exact h.kind, h.tidy.same (storeS_c ..).1 (storeS_c ..).2, by show ∀ e, TbOk ((storeS ..).t e); rw [(storeS_c ..).2]; exact h.tb⟩
  rw [if_neg e7] at hw ⊢
  by_cases e8 : n = 8
  · rw [if_pos e8] at hw ⊢
    exact ⟨hw, by show kind1 (copyS ..).c; rw [(copyS_c ..).1]; exact h.kind, h.tidy.same (copyS_c ..).1 (copyS_c ..).2, by show ∀ e, TbOk ((copyS ..).t e); rw [(copyS_c ..).2]; exact h.tb⟩
  rw [if_neg e8] at hw ⊢
  by_cases e9 : n = 9
  · rw [if_pos e9] at hw ⊢
    exact h
  rw [if_neg e9] at hw ⊢
  by_cases e10 : n = 10
  · rw [if_pos e10] at hw ⊢
    exact ⟨hw, by show kind1 (writeS ..).c; rw [(writeS_c ..).1]; exact h.kind, h.tidy.same (writeS_c ..).1 (writeS_c ..).2, by show ∀ e, TbOk ((writeS ..).t e); rw [(writeS_c ..).2]; exact h.tb⟩
  rw [if_neg e10] at hw ⊢
  by_cases e11 : n = 11
  · rw [if_pos e11] at hw ⊢
    exact ⟨h.w8, h.kind, h.tidy, h.tb⟩
  rw [if_neg e11] at hw ⊢
  by_cases e12 : n = 12
  · rw [if_pos e12] at hw ⊢
    exact ⟨h.w8, h.kind, h.tidy, h.tb⟩
  rw [if_neg e12] at hw ⊢
  by_cases e13 : n = 13
  · rw [if_pos e13] at hw ⊢
    exact ⟨h.w8, h.kind, h.tidy, h.tb⟩
  rw [if_neg e13] at hw ⊢
  by_cases e14 : n = 14
  · rw [if_pos e14] at hw ⊢
    exact ⟨h.w8, h.kind, h.tidy, h.tb⟩
  rw [if_neg e14] at hw ⊢
  by_cases e15 : n = 15
  · rw [if_pos e15] at hw ⊢
    exact ⟨h.w8, h.kind, h.tidy, h.tb⟩
  rw [if_neg e15] at hw ⊢
  by_cases e16 : n = 16
  · rw [if_pos e16] at hw ⊢
    exact ⟨h.w8, h.kind, h.tidy, h.tb⟩
  rw [if_neg e16] at hw ⊢
  exact ⟨h.w8, h.kind, h.tidy, h.tb⟩
theorem T13.raw {s : S13} (h : T13 s) (env : Int) (call : List Int) (hw : W8 (rawS13 s env call).m.c) : T13 (rawS13 s env call) := by
  unfold rawS13 at hw ⊢
  split
  · exact h
  · simp only at hw
    split
    · rename_i hg
      rw [if_pos hg] at hw
      exact h.do_ _ _ _ hw
    · exact h

end Go.Proofs

set_option linter.unusedSimpArgs false
namespace Go.Proofs
open Go Go.Den

theorem row9_set {m : List (List Int)} {f i : Int} (hf : 0 ≤ f) (hi : 0 ≤ i) (hne : i ≠ f) (ws : List Int) : row9 (m.set f.toNat ws) i = row9 m i := by
  unfold row9
  rw [List.getElem?_set, if_neg (by omega)]
theorem wrM_row {m : List (List Int)} {f w v i : Int} (hi : 0 ≤ i) (hne : i ≠ f) : row9 (wrM m f w v) i = row9 m i := by
  unfold wrM
  split
  · rename_i h; exact row9_set h.1.1 hi hne _
  · rfl
theorem cpM_row {m : List (List Int)} {a b i : Int} (hi : 0 ≤ i) (hne : i ≠ a) : row9 (cpM m a b) i = row9 m i := by
  unfold cpM
  split
  · rename_i h; exact row9_set h.1.1 hi hne _
  · rfl
/-! ### Blocks -/
def kind2 (c : S8) : Prop := ∀ x ∈ c.L, x.x.k = 2
theorem look12_get {s : S12} (hT : T12 s) (hw : W8 s.c) (e sl b x : Int) : look12 (getS12 s e sl b) x = look12 s x := by
  unfold getS12
  split
  · rename_i hm
    have hb := may12_in hT hw hm
    unfold look12
    simp only [mem_putL]
    by_cases hx : x = b
    · subst hx
      rw [if_pos (.inl rfl), row12_set hb.1 hb.1 (by rw [hT.len]; have := hb.1; have := hb.2; omega), if_pos rfl]
    · by_cases hi : x ∈ s.I
      · rw [if_pos (.inr hi), if_pos hi, row12_set hb.1 (hT.inI x hi).1 (by rw [hT.len]; have := hb.1; have := hb.2; omega), if_neg hx]
      · rw [if_neg (by simp [hx, hi]), if_neg hi]
  · rfl
end Go.Proofs
