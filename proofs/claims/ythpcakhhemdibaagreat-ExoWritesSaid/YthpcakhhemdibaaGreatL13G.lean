/-
  exo, as plain functions: what a call changes, its caller may write: the raw call; messages are short; the disk's capabilities are extents.
-/
import Derived.Test.YthpcakhhemdibaaGreatL13F
import Derived.Test.YthpcakhhemdibaaGreatR13C
set_option linter.unusedVariables false
set_option linter.unusedSimpArgs false
namespace Go.Proofs
open Go Go.Den

theorem zl_alloc (s : S9) (e : Int) : (allocS s e).m.length = s.m.length := by
  unfold allocS
  split
  · split
    · rfl
    · dsimp only
      split
      · exact zrM_len ..
      · rfl
  · rfl
theorem zl_map (s : S9) (e p sl : Int) (w : Bool) : (mapS s e p sl w).m.length = s.m.length := by unfold mapS; split <;> rfl
theorem zl_unmap (s : S9) (e p : Int) : (unmapS s e p).m.length = s.m.length := by unfold unmapS; split <;> rfl
theorem zl_store (s : S9) (e a v : Int) : (storeS s e a v).m.length = s.m.length := by
  unfold storeS
  split
  · exact wrM_len ..
  · rfl
theorem zl_copy (s : S9) (e a b : Int) : (copyS s e a b).m.length = s.m.length := by
  unfold copyS
  split
  · exact cpM_len ..
  · rfl
theorem zl_write (s : S9) (e sl w v : Int) : (writeS s e sl w v).m.length = s.m.length := by
  unfold writeS
  split
  · exact wrM_len ..
  · rfl
theorem doS13_mlen (s : S13) (env n : Int) (w : List Int) : (doS13 s env n w).m.m.length = s.m.m.length := by
  have key : ∀ P : S13 → Prop, P s → (∀ m : S9, m.m.length = s.m.m.length → P { s with m := m }) → (∀ d, P { s with d := d }) → (∀ q, P { s with q := q }) → P (doS13 s env n w) := by
    intro P h0 hm hd hq
    unfold doS13
    repeat' refine P_ite (P := P) ?_ ?_
    all_goals first
      | exact h0
      | exact hd _
      | exact hq _
      | exact hm _ (zl_alloc ..)
      | exact hm _ (zl_map ..)
      | exact hm _ (zl_unmap ..)
      | exact hm _ (zl_store ..)
      | exact hm _ (zl_copy ..)
      | exact hm _ (zl_write ..)
      | exact hm _ rfl
  exact key (fun x : S13 => x.m.m.length = s.m.m.length) rfl (fun m h => h) (fun d => rfl) fun q => rfl
theorem kind2.alloc {s : S12} (h : kind2 s.c) (e f n : Int) : kind2 (allocS12 s e f n).c := by
  unfold allocS12
  split
  · intro x hx
    rcases mem_add hx with hx | ⟨-, hx, -⟩
    · exact h x hx
    · rw [hx]
  · exact h
theorem kind2.give {c : S8} (h : kind2 c) (e sl to r : Int) : kind2 (giveS8 c e sl to r) := fun x hx => by
  rcases mem_give hx with hx | ⟨d, hd, -, -, -, -, hx, -⟩
  · exact h x hx
  · rw [hx]; exact h d hd
theorem kind2.rev {c : S8} (h : kind2 c) (e sl : Int) : kind2 (revokeS8 c e sl) := fun x hx => h x (mem_revoke hx)
theorem kind2.get {s : S12} (h : kind2 s.c) (e sl b : Int) : kind2 (getS12 s e sl b).c := by unfold getS12; split <;> exact h
theorem kind2.put {s : S12} (h : kind2 s.c) (e sl b : Int) (ws : List Int) : kind2 (putS12 s e sl b ws).c := by unfold putS12; split <;> exact h
theorem kind2_do {s : S13} (h : kind2 s.d.c) (env n : Int) (w : List Int) : kind2 (doS13 s env n w).d.c := by
  have key : ∀ P : S13 → Prop, P s → (∀ m, P { s with m := m }) → (∀ d : S12, kind2 d.c → P { s with d := d }) → (∀ q, P { s with q := q }) → P (doS13 s env n w) := by
    intro P h0 hm hd hq
    unfold doS13
    repeat' refine P_ite (P := P) ?_ ?_
    all_goals first
      | exact h0
      | exact hm _
      | exact hq _
      | exact hd _ (h.alloc _ _ _)
      | exact hd _ (h.give _ _ _ _)
      | exact hd _ (h.rev _ _)
      | exact hd _ (h.get _ _ _)
      | exact hd _ (h.put _ _ _ _)
  exact key (fun x : S13 => kind2 x.d.c) h (fun m => h) (fun d h => h) fun q => h
theorem kind2_raw {s : S13} (h : kind2 s.d.c) (env : Int) (cs : List Int) : kind2 (rawS13 s env cs).d.c := by
  unfold rawS13
  split
  · exact h
  · split
    · exact kind2_do h _ _ _
    · exact h
theorem q8_do {s : S13} (h : Q8 s) (env n : Int) (w : List Int) : Q8 (doS13 s env n w) := by
  have key : ∀ P : S13 → Prop, P s → (∀ m, P { s with m := m }) → (∀ d, P { s with d := d }) → (∀ q : V11.Qs, (∀ e, ∀ x ∈ q e, x.2.length ≤ 8) → P { s with q := q }) → P (doS13 s env n w) := by
    intro P h0 hm hd hq
    unfold doS13
    repeat' refine P_ite (P := P) ?_ ?_
    all_goals first
      | exact h0
      | exact hm _
      | exact hd _
      | skip
    · refine hq _ fun e x hx => ?_
      unfold V11.sendQ at hx
      split at hx
      · rename_i h0
        unfold V11.qput at hx
        split at hx
        · rcases List.mem_append.1 hx with hx | hx
          · exact h _ x hx
          · simp only [List.mem_singleton] at hx
            subst hx
            unfold V11.sendE at h0
            split at h0
            · simp at h0
            · rename_i hh; show (w.drop 1).length ≤ 8; omega
        · exact h e x hx
      · exact h e x hx
    · refine hq _ fun e x hx => ?_
      unfold V11.qput at hx
      split at hx
      · exact h _ x (List.mem_of_mem_drop hx)
      · exact h e x hx
  exact key (fun x : S13 => Q8 x) h (fun m => h) (fun d => h) fun q h => h
theorem q8_raw {s : S13} (h : Q8 s) (env : Int) (cs : List Int) : Q8 (rawS13 s env cs) := by
  unfold rawS13
  split
  · exact h
  · split
    · exact q8_do h _ _ _
    · exact h

theorem block13 {s : S13} (hT : T12 s.d) (hw : W8 s.d.c) (hk : kind2 s.d.c) (env n : Int) (w : List Int) {x : Int} (hne : look12 (doS13 s env n w).d x ≠ look12 s.d x) : has8 s.d.c.L env 2 x 2 = true := by
  have key : ∀ P : S13 → Prop, P s → (∀ m, P { s with m := m }) → (∀ d : S12, (look12 d x ≠ look12 s.d x → has8 s.d.c.L env 2 x 2 = true) → P { s with d := d }) → (∀ q, P { s with q := q }) → P (doS13 s env n w) := by
    intro P h0 hm hd hq
    have la : ∀ e f n, look12 (allocS12 s.d e f n) x = look12 s.d x := fun e f n => by unfold allocS12; split <;> rfl
    unfold doS13
    repeat' refine P_ite (P := P) ?_ ?_
    all_goals first
      | exact h0
      | exact hm _
      | exact hq _
      | exact hd _ fun h => absurd (la _ _ _) h
      | exact hd _ fun h => absurd (look12_get hT hw _ _ _ _) h
      | exact hd _ fun h => absurd rfl h
      | exact hd _ fun h => look12_put hT hw hk h
  exact key (fun y : S13 => look12 y.d x ≠ look12 s.d x → has8 s.d.c.L env 2 x 2 = true) (fun h => absurd rfl h) (fun m h => absurd rfl h) (fun d h => h) (fun q h => absurd rfl h) hne
theorem block_raw {s : S13} (hT : T12 s.d) (hw : W8 s.d.c) (hk : kind2 s.d.c) (env : Int) (cs : List Int) {x : Int} (hne : look12 (rawS13 s env cs).d x ≠ look12 s.d x) : has8 s.d.c.L env 2 x 2 = true := by
  unfold rawS13 at hne
  split at hne
  · exact absurd rfl hne
  · split at hne
    · exact block13 hT hw hk env _ _ hne
    · exact absurd rfl hne
theorem page_raw {s : S13} (h : T13 s) (env : Int) (cs : List Int) {i : Int} (hi : 0 ≤ i) (hne : pageW13 (rawS13 s env cs).m.m i ≠ pageW13 s.m.m i) : free9 s.m.c i = true ∨ has8 s.m.c.L env 1 i 2 = true := by
  have e : ∀ n w, pageW13 (doS13 s env n w).m.m i ≠ pageW13 s.m.m i → row9 (doS13 s env n w).m.m i ≠ row9 s.m.m i := fun n w hh hr => hh (by
    have e : inM (doS13 s env n w).m.m i = inM s.m.m i := by unfold inM; rw [doS13_mlen]
    unfold pageW13
    simp only [e, hr])
  unfold rawS13 at hne
  split at hne
  · exact absurd rfl hne
  · split at hne
    · exact frame13 h env _ _ hi (e _ _ hne)
    · exact absurd rfl hne

end Go.Proofs
