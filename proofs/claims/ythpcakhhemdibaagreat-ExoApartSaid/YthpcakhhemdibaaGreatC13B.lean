/-
  exo: what the laws that play share: an ask among the arguments; what is new; an error has no words.
-/
import Derived.Test.YthpcakhhemdibaaGreatR13A
import Derived.Test.YthpcakhhemdibaaGreatK13A
set_option linter.unusedVariables false
set_option linter.unusedSimpArgs false
namespace Go.Proofs
open Go Go.Den

theorem words_in13 {w : World} {a : Option Addr} {l c : Nat} (hl : SlIn w 1 Q_u64 a l c) : ∃ (xs : List Int) (G : List Nat), Rd w a l 1 (u64s xs) G ∧ ∀ x ∈ xs, 0 ≤ x ∧ x < 18446744073709551616 := by
  obtain ⟨vss, F, h1, h2, h3⟩ := hl.rd
  obtain ⟨xs, h4, h5, h6⟩ := flat1 (k := .u64) vss fun vs hv => (h2 vs hv).1
  exact ⟨xs, F, by rw [h4] at h3; exact h3, fun x hx => u64_bounds (h6 x hx)⟩

/-- An ask among the arguments. -/
theorem ask_at {W w : World} {a : Option Addr} {l c : Nat} (hin : SlIn W 2 (Q_januslaw13_Ask W) a l c) (hm : Mod [] W w) {i : Nat} (hi : i < l) : ∃ ad n wa wl wc cs G, a = some ad ∧ w.cell? (Addr.add ad (i * 2)) = some (.int .i64 n) ∧ w.cell? (Addr.add (Addr.add ad (i * 2)) 1) = some (.slice wa wl wc) ∧ Rd w wa wl 1 (u64s cs) G ∧ wl ≤ wc ∧ wc ≤ 9223372036854775807 ∧ ∀ x ∈ cs, 0 ≤ x ∧ x < 18446744073709551616 := by
  obtain ⟨ad, vs, rfl, hadlt, ⟨n, wa, wl, wc, rfl, -, hw⟩, -, hcell⟩ := hin.at hi
  obtain ⟨cs, G, hr, hcs⟩ := words_in13 hw
  have c0 := hcell 0 (by omega)
  have c1 := hcell 1 (by omega)
  rw [add_zero] at c0
  refine ⟨ad, n, wa, wl, wc, cs, G, rfl, ?_, ?_, hr.keep (hm.at0 hr.lt), hw.le.1, hw.le.2, hcs⟩
  · rw [hm.cell (by rw [add_block]; exact hadlt), c0]; rfl
  · rw [hm.cell (by rw [add_block, add_block]; exact hadlt), c1]; rfl

theorem T13_W (j : Nat) : T13 (W13 j) := by
  have hc : (W13 j).m.c = ⟨[], 0⟩ := rfl
  refine ⟨?_, ?_, ?_, ?_⟩
  · rw [hc]; exact W8.nil
  · rw [hc]; intro x hx; cases hx
  · intro e q x hx; cases hx
  · intro e k x hx; cases hx

theorem ans1_nil {x : Int × Int} (h : (ans1 x).2 ≠ 0) : (ans1 x).1 = [] := by
  unfold ans1 at h ⊢
  split
  · rename_i h0; rw [if_pos h0] at h; exact absurd rfl h
  · rfl
theorem ansW_nil {x : Int × Int} (h : (ansW x).2 ≠ 0) : (ansW x).1 = [] := by
  unfold ansW at h ⊢
  split
  · rename_i h0; rw [if_pos h0] at h; exact absurd rfl h
  · rfl

theorem doV13_nil {s : S13} {env n : Int} {w : List Int} (h : (doV13 s env n w).2 ≠ 0) : (doV13 s env n w).1 = [] := by
  unfold doV13 at h ⊢
  by_cases e0 : n = 0
  · rw [if_pos e0] at h ⊢
    exact ans1_nil h
  rw [if_neg e0] at h ⊢
  by_cases e1 : n = 1
  · rw [if_pos e1] at h ⊢
    exact ans1_nil h
  rw [if_neg e1] at h ⊢
  by_cases e2 : n = 2
  · rw [if_pos e2]
  rw [if_neg e2] at h ⊢
  by_cases e3 : n = 3
  · rw [if_pos e3]
  rw [if_neg e3] at h ⊢
  by_cases e4 : n = 4
  · rw [if_pos e4]
  rw [if_neg e4] at h ⊢
  by_cases e5 : n = 5
  · rw [if_pos e5]
  rw [if_neg e5] at h ⊢
  by_cases e6 : n = 6
  · rw [if_pos e6] at h ⊢
    exact ansW_nil h
  rw [if_neg e6] at h ⊢
  by_cases e7 : n = 7
  · rw [if_pos e7]
  rw [if_neg e7] at h ⊢
  by_cases e8 : n = 8
  · rw [if_pos e8]
  rw [if_neg e8] at h ⊢
  by_cases e9 : n = 9
  · rw [if_pos e9] at h ⊢
    exact ansW_nil h
  rw [if_neg e9] at h ⊢
  by_cases e10 : n = 10
  · rw [if_pos e10]
  rw [if_neg e10] at h ⊢
  by_cases e11 : n = 11
  · rw [if_pos e11]
  rw [if_neg e11] at h ⊢
  by_cases e12 : n = 12
  · rw [if_pos e12] at h ⊢
    cases hq : s.q env with
    | nil => rfl
    | cons x r => rw [hq] at h; exact absurd rfl h
  rw [if_neg e12] at h ⊢
  by_cases e13 : n = 13
  · rw [if_pos e13] at h ⊢
    exact ans1_nil h
  rw [if_neg e13] at h ⊢
  by_cases e14 : n = 14
  · rw [if_pos e14] at h ⊢
    exact ans1_nil h
  rw [if_neg e14] at h ⊢
  by_cases e15 : n = 15
  · rw [if_pos e15]
  rw [if_neg e15] at h ⊢
  by_cases e16 : n = 16
  · rw [if_pos e16] at h ⊢
    unfold getV12 at h ⊢
    split
    · rename_i hm; rw [if_pos hm] at h; exact absurd rfl h
    · rfl
  rw [if_neg e16] at h ⊢
theorem rawV13_nil {s : S13} {env : Int} {cs : List Int} (h : (rawV13 s env cs).2 ≠ 0) : (rawV13 s env cs).1 = [] := by
  unfold rawV13 at h ⊢
  cases cs with
  | nil => rfl
  | cons n w =>
    simp only at h ⊢
    split
    · rename_i hg
      rw [if_pos hg] at h
      exact doV13_nil h
    · rfl

end Go.Proofs
