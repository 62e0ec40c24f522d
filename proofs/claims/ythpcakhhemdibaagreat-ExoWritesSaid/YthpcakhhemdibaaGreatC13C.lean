/-
  exo: a part changes, and a row comes of it.
-/
import Derived.Test.YthpcakhhemdibaaGreatC13B
set_option linter.unusedVariables false
set_option linter.unusedSimpArgs false
namespace Go.Proofs
open Go Go.Den

theorem sep_row {w0 w w' : World} {l : List Part} (h : Den.Sep w0 w l) (i : Nat) {p : Part} (hi : l[i]? = some p) (p' : Part) (hp : p'.P w') (hm : Mod p.F w w') (ho : Own w p.F p'.F) (q : Part) (hq : q.P w') (hG : Beyond w.heap.size q.F) (hD : ∀ x ∈ q.F, x ∉ p'.F) : Den.Sep w0 w' (q :: l.set i p') := by
  have hil := (List.getElem?_eq_some_iff.1 hi).1
  have h2 := h.step i hi p' hp hm ho
  refine Den.Sep.of_prts h2.mod ((h2.prts).cons (p := q) hq fun x hx hx2 => ?_) fun x hx => ?_
  · obtain ⟨j, y, hy, hxy⟩ := mem_PF.1 hx2
    rw [List.getElem?_set] at hy
    by_cases hij : i = j
    · rw [if_pos hij, if_pos hil] at hy
      cases hy
      exact hD x hx hxy
    · rw [if_neg hij] at hy
      have h5 := hG x hx
      have := y.lt (h.nth j hy) x hxy
      omega
  · obtain ⟨j, y, hy, hxy⟩ := mem_PF.1 hx
    rcases j with _ | j
    · cases hy
      have := hG x hxy
      have := h.mod.size
      omega
    · exact h2.bey j hy x hxy

/-- What is new behind what was new before. -/
theorem sep_glue {w0 w1 w2 : World} {l l2 : List Part} (h : Den.Sep w0 w1 l) (h2 : Den.Sep w1 w2 l2) : Den.Sep w0 w2 (l2 ++ l) := by
  have hm := h2.mod
  refine Den.Sep.of_prts (h.mod.trans' hm) ⟨fun {i p} hi => ?_, fun {i j p q} hij hi hj x hx => ?_⟩ fun x hx => ?_
  · rw [List.getElem?_append] at hi
    split at hi
    · exact h2.nth i hi
    · exact p.keep (h.nth _ hi) (hm.at0 (p.lt (h.nth _ hi)))
  · rw [List.getElem?_append] at hi hj
    split at hi <;> split at hj
    · exact h2.dj i j hij hi hj x hx
    · intro hxq
      have h5 := h2.bey i hi x hx
      have := q.lt (h.nth _ hj) x hxq
      omega
    · intro hxq
      have h5 := h2.bey j hj x hxq
      have := p.lt (h.nth _ hi) x hx
      omega
    · exact h.dj _ _ (by omega) hi hj x hx
  · obtain ⟨i, p, hi, hxp⟩ := mem_PF.1 hx
    rw [List.getElem?_append] at hi
    split at hi
    · exact Nat.le_trans h.mod.size (h2.bey i hi x hxp)
    · exact h.bey _ hi x hxp

end Go.Proofs
