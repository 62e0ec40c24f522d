/-
  exo, as plain functions: what a call changes, its caller may write: the raw call; messages are short; the disk's capabilities are extents.
-/
import Derived.Test.YthpcakhhemdibaaGreatL13F
import Derived.Test.YthpcakhhemdibaaGreatR13C
set_option linter.unusedVariables false
set_option linter.unusedSimpArgs false
namespace Go.Proofs
open Go Go.Den

theorem kind2.alloc {s : S12} (h : kind2 s.c) (e f n : Int) : kind2 (allocS12 s e f n).c := by
  unfold allocS12
  split
  · intro x hx
    rcases mem_add hx with hx | ⟨-, hx, -⟩
    · exact h x hx
    · rw [hx]
  · exact h
theorem kind2.give {c : S8} (h : kind2 c) (e sl to r : Int) : kind2 (giveS8 c e sl to r) := fun x hx => by
  rcases mem_give hx with hx | ⟨d, hd, -, -, -, -, hx, -⟩
  · exact h x hx
  · rw [hx]; exact h d hd
theorem kind2.rev {c : S8} (h : kind2 c) (e sl : Int) : kind2 (revokeS8 c e sl) := fun x hx => h x (mem_revoke hx)
theorem kind2.get {s : S12} (h : kind2 s.c) (e sl b : Int) : kind2 (getS12 s e sl b).c := by unfold getS12; split <;> exact h
theorem kind2.put {s : S12} (h : kind2 s.c) (e sl b : Int) (ws : List Int) : kind2 (putS12 s e sl b ws).c := by unfold putS12; split <;> exact h
theorem kind2_do {s : S13} (h : kind2 s.d.c) (env n : Int) (w : List Int) : kind2 (doS13 s env n w).d.c := by
  have key : ∀ P : S13 → Prop, P s → (∀ m, P { s with m := m }) → (∀ d : S12, kind2 d.c → P { s with d := d }) → (∀ q, P { s with q := q }) → P (doS13 s env n w) := by
    intro P h0 hm hd hq
    unfold doS13
    repeat' refine P_ite (P := P) ?_ ?_
    all_goals first
      | exact h0
      | exact hm _
      | exact hq _
      | exact hd _ (h.alloc _ _ _)
      | exact hd _ (h.give _ _ _ _)
      | exact hd _ (h.rev _ _)
      | exact hd _ (h.get _ _ _)
      | exact hd _ (h.put _ _ _ _)
  exact key (fun x : S13 => kind2 x.d.c) h (fun m => h) (fun d h => h) fun q => h
theorem kind2_raw {s : S13} (h : kind2 s.d.c) (env : Int) (cs : List Int) : kind2 (rawS13 s env cs).d.c := by
  unfold rawS13
  split
  · exact h
  · split
    · exact kind2_do h _ _ _
    · exact h
theorem q8_do {s : S13} (h : Q8 s) (env n : Int) (w : List Int) : Q8 (doS13 s env n w) := by
  have key : ∀ P : S13 → Prop, P s → (∀ m, P { s with m := m }) → (∀ d, P { s with d := d }) → (∀ q : V11.Qs, (∀ e, ∀ x ∈ q e, x.2.length ≤ 8) → P { s with q := q }) → P (doS13 s env n w) := by
    intro P h0 hm hd hq
    unfold doS13
    repeat' refine P_ite (P := P) ?_ ?_
    all_goals first
      | exact h0
      | exact hm _
      | exact hd _
      | skip
    · refine hq _ fun e x hx => ?_
      unfold V11.sendQ at hx
      split at hx
      · rename_i h0
        unfold V11.qput at hx
        split at hx
        · rcases List.mem_append.1 hx with hx | hx
          · exact h _ x hx
          · simp only [List.mem_singleton] at hx
            subst hx
            unfold V11.sendE at h0
            split at h0
            · simp at h0
            · rename_i hh; show (w.drop 1).length ≤ 8; omega
        · exact h e x hx
      · exact h e x hx
    · refine hq _ fun e x hx => ?_
      unfold V11.qput at hx
      split at hx
      · exact h _ x (List.mem_of_mem_drop hx)
      · exact h e x hx
  exact key (fun x : S13 => Q8 x) h (fun m => h) (fun d => h) fun q h => h
theorem q8_raw {s : S13} (h : Q8 s) (env : Int) (cs : List Int) : Q8 (rawS13 s env cs) := by
  unfold rawS13
  split
  · exact h
  · split
    · exact q8_do h _ _ _
    · exact h

end Go.Proofs
