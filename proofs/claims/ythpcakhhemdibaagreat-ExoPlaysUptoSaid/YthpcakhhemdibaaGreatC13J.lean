/-
  exo: rows of frames and blocks as they were; what the law reads of the reference's kernel.
  exo: no call writes a frame or block that its caller may not write: the law.
-/
import Derived.Test.YthpcakhhemdibaaGreatC13D
import Derived.Test.YthpcakhhemdibaaGreatR13C
import Derived.Test.YthpcakhhemdibaaGreatL13G
set_option linter.unusedVariables false
set_option linter.unusedSimpArgs false
namespace Go.Proofs
open Go Go.Den

section
variable {w : World} {r n : Nat} {s : S13} {G : List Nat}
end

/-- What holds of all that comes of at most 'j' calls. -/
structure Wr13 (s : S13) (j : Nat) : Prop where
  t : T13 s
  k2 : kind2 s.d.c
  q8 : Q8 s
  m1 : s.m.c.L.length ≤ j
  m2 : s.m.c.last ≤ j
  d1 : s.d.c.L.length ≤ j
  d2 : s.d.c.last ≤ j
theorem Wr13.small {s : S13} {j : Nat} (h : Wr13 s j) (hj : j ≤ 80) : Small s.m.c ∧ Small12 s.d.c := ⟨⟨by have := h.m1; omega, by have := h.m2; omega⟩, ⟨by have := h.d1; omega, by have := h.d2; omega⟩⟩
theorem Wr13.raw {s : S13} {j : Nat} (h : Wr13 s j) (env : Int) (cs : List Int) (hw : W8 (rawS13 s env cs).m.c) : Wr13 (rawS13 s env cs) (j + 1) := by
  obtain ⟨⟨g1, g2⟩, g3, g4⟩ := rawS13_len s env cs
  have := h.m1; have := h.m2; have := h.d1; have := h.d2
  exact ⟨h.t.raw env cs hw, kind2_raw h.k2 env cs, q8_raw h.q8 env cs, by omega, by omega, by omega, by omega⟩
theorem Wr13_W : Wr13 (W13 3) 0 := by
  have hm : (W13 3).m.c = ⟨[], 0⟩ := rfl
  have hd : (W13 3).d.c = ⟨[], 0⟩ := rfl
  exact ⟨T13_W 3, (by rw [hd]; intro x hx; cases hx), (fun e x hx => by cases hx), (by rw [hm]; exact Nat.le_refl _), (by rw [hm]; decide), (by rw [hd]; exact Nat.le_refl _), (by rw [hd]; decide)⟩

end Go.Proofs

set_option linter.unusedSimpArgs false
namespace Go.Proofs
open Go Go.Den

end Go.Proofs
