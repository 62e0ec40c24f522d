/-
  exo: what an environment sees is not long.
-/
import Derived.Test.YthpcakhhemdibaaGreatC13C
set_option linter.unusedVariables false
set_option linter.unusedSimpArgs false
namespace Go.Proofs
open Go Go.Den

theorem KX.w8 {w : World} {k : Nat} {s : S13} {F : List Nat} (h : KX w k s F) : W8 s.m.c := by
  obtain ⟨A, h1, -⟩ := h
  exact (xm h1).w8
theorem KX.w8d {w : World} {k : Nat} {s : S13} {F : List Nat} (h : KX w k s F) : W8 s.d.c := by
  obtain ⟨A, h1, -⟩ := h
  exact (xd h1).w8
theorem KX.all {w : World} {k : Nat} {s : S13} {F : List Nat} (h : KX w k s F) : All32 s.m.m ∧ T12 s.d := by
  obtain ⟨A, h1, -⟩ := h
  refine ⟨?_, (xd h1).t⟩
  obtain ⟨-, B, h2, -⟩ := xm h1
  obtain ⟨_, _, _, _, _, _, h3, _⟩ := kmem h2
  exact h3

theorem sees_le {w : World} {k : Nat} {s : S13} {F : List Nat} (h : KX w k s F) (env : Int) : (sees13 s env).length ≤ 9223372036854775807 := by
  obtain ⟨A, h1, rfl⟩ := h
  have hkx : KX w k s (PF (xparts k A s)) := ⟨A, h1, rfl⟩
  obtain ⟨hall, hT12⟩ := hkx.all
  have hW12 : W8 s.d.c := (xd h1).w8
  have hq4 : (s.q env).length ≤ 4 := ((xq h1).ok).2 env
  have hcl : ∀ j, (capsW13 s env j).length ≤ 35 := fun j => by
    unfold capsW13
    split
    · simp
    · rename_i c _
      have := pageW_le hall c.x.i
      simp only [List.length_append, List.length_cons, List.length_nil]
      omega
  have hpl : ∀ j, (pagesW13 s env j).length ≤ 3 := fun j => by
    unfold pagesW13
    split <;> simp
  have hel : ∀ j, (extW13 s env j).length ≤ 32772 := fun j => by
    unfold extW13
    split
    · simp
    · rename_i c hc
      have hm := (look8_some hc).1
      have h3 := hT12.cap c hm
      obtain ⟨-, h2, -⟩ := (hW12.in_ c hm).2.2.2.1
      have h4 := hT12.le
      have h5 := flat_le (f := fun b => look12 s.d (c.x.i + (b : Nat))) (c := 32) (fun b => look12_le hT12 _) c.x.n.toNat
      have h6 : c.x.n.toNat ≤ 1024 := by omega
      simp only [List.length_append, List.length_cons, List.length_nil]
      have : 32 * c.x.n.toNat ≤ 32 * 1024 := Nat.mul_le_mul_left _ h6
      omega
  unfold sees13
  split
  · have b1 := flat_le hcl 64
    have b2 := flat_le hpl 4
    have b3 := flat_le hel 64
    simp only [List.length_cons, List.length_append, List.length_nil]
    omega
  · simp

end Go.Proofs
