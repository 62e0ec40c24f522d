/-
  exo, as plain functions: how much a call adds; the reference's messages, few.
-/
import Derived.Test.YthpcakhhemdibaaGreatK13A
set_option linter.unusedVariables false
set_option linter.unusedSimpArgs false
namespace Go.Proofs
open Go Go.Den

theorem gr_alloc (s : S9) (e : Int) : Grows 1 s.c (allocS s e).c := by
  unfold allocS
  split
  · split
    · exact Grows.refl ..
    · exact addS8_len ..
  · exact Grows.refl ..
theorem gr_grant (s : S9) (e sl to r : Int) : Grows 1 s.c (grantS s e sl to r).c := giveS8_len s.c e sl to r
theorem gr_free (s : S9) (e sl : Int) : Grows 1 s.c (freeS s e sl).c := (dropS8_len s.c e sl).mono (by omega)
theorem gr_rev (s : S9) (e sl : Int) : Grows 1 s.c (revS s e sl).c := (revokeS8_len s.c e sl).mono (by omega)
theorem gr_map (s : S9) (e p sl : Int) (w : Bool) : Grows 1 s.c (mapS s e p sl w).c := by rw [mapS_c]; exact Grows.refl ..
theorem gr_unmap (s : S9) (e p : Int) : Grows 1 s.c (unmapS s e p).c := by rw [unmapS_c]; exact Grows.refl ..
theorem gr_store (s : S9) (e a v : Int) : Grows 1 s.c (storeS s e a v).c := by rw [(storeS_c _ _ _ _).1]; exact Grows.refl ..
theorem gr_copy (s : S9) (e a b : Int) : Grows 1 s.c (copyS s e a b).c := by rw [(copyS_c _ _ _ _).1]; exact Grows.refl ..
theorem gr_write (s : S9) (e sl w v : Int) : Grows 1 s.c (writeS s e sl w v).c := by rw [(writeS_c _ _ _ _ _).1]; exact Grows.refl ..
theorem gr_alloc12 (s : S12) (e f n : Int) : Grows 1 s.c (allocS12 s e f n).c := by
  unfold allocS12
  split
  · exact addS8_len ..
  · exact Grows.refl ..
theorem gr_grant12 (s : S12) (e sl to r : Int) : Grows 1 s.c (grantS12 s e sl to r).c := giveS8_len s.c e sl to r
theorem gr_rev12 (s : S12) (e sl : Int) : Grows 1 s.c (revS12 s e sl).c := (revokeS8_len s.c e sl).mono (by omega)
theorem gr_get12 (s : S12) (e sl b : Int) : Grows 1 s.c (getS12 s e sl b).c := by unfold getS12; split <;> exact Grows.refl ..
theorem gr_put12 (s : S12) (e sl b : Int) (ws : List Int) : Grows 1 s.c (putS12 s e sl b ws).c := by unfold putS12; split <;> exact Grows.refl ..
theorem P_ite {α : Type} {P : α → Prop} {c : Prop} [Decidable c] {a b : α} (ha : P a) (hb : P b) : P (if c then a else b) := by split <;> assumption
theorem doS13_len (s : S13) (env n : Int) (w : List Int) : Grows 1 s.m.c (doS13 s env n w).m.c ∧ Grows 1 s.d.c (doS13 s env n w).d.c := by
  have key : ∀ P : S13 → Prop, P s → (∀ m : S9, Grows 1 s.m.c m.c → P { s with m := m }) → (∀ d : S12, Grows 1 s.d.c d.c → P { s with d := d }) → (∀ q, P { s with q := q }) → P (doS13 s env n w) := by
    intro P h0 hm hd hq
    unfold doS13
    repeat' refine P_ite (P := P) ?_ ?_
    all_goals first
      | exact h0
      | exact hm _ (gr_alloc ..)
      | exact hm _ (gr_grant ..)
      | exact hm _ (gr_free ..)
      | exact hm _ (gr_rev ..)
      | exact hm _ (gr_map ..)
      | exact hm _ (gr_unmap ..)
      | exact hm _ (gr_store ..)
      | exact hm _ (gr_copy ..)
      | exact hm _ (gr_write ..)
      | exact hd _ (gr_alloc12 ..)
      | exact hd _ (gr_grant12 ..)
      | exact hd _ (gr_rev12 ..)
      | exact hd _ (gr_get12 ..)
      | exact hd _ (gr_put12 ..)
      | exact hq _
  exact key (fun x : S13 => Grows 1 s.m.c x.m.c ∧ Grows 1 s.d.c x.d.c) ⟨Grows.refl .., Grows.refl ..⟩ (fun m h => ⟨h, Grows.refl ..⟩) (fun d h => ⟨Grows.refl .., h⟩) fun q => ⟨Grows.refl .., Grows.refl ..⟩
theorem rawS13_len (s : S13) (env : Int) (cs : List Int) : Grows 1 s.m.c (rawS13 s env cs).m.c ∧ Grows 1 s.d.c (rawS13 s env cs).d.c := by
  unfold rawS13
  split
  · exact ⟨Grows.refl .., Grows.refl ..⟩
  · split
    · exact doS13_len ..
    · exact ⟨Grows.refl .., Grows.refl ..⟩

end Go.Proofs
