/-
  exo: a part changes, and a row comes of it.
-/
import Derived.Test.YthpcakhhemdibaaGreatC13B
set_option linter.unusedVariables false
set_option linter.unusedSimpArgs false
namespace Go.Proofs
open Go Go.Den

theorem sep_row {w0 w w' : World} {l : List Part} (h : Den.Sep w0 w l) (i : Nat) {p : Part} (hi : l[i]? = some p) (p' : Part) (hp : p'.P w') (hm : Mod p.F w w') (ho : Own w p.F p'.F) (q : Part) (hq : q.P w') (hG : Beyond w.heap.size q.F) (hD : ∀ x ∈ q.F, x ∉ p'.F) : Den.Sep w0 w' (q :: l.set i p') := by
  have hil := (List.getElem?_eq_some_iff.1 hi).1
  have h2 := h.step i hi p' hp hm ho
  refine Den.Sep.of_prts h2.mod ((h2.prts).cons (p := q) hq fun x hx hx2 => ?_) fun x hx => ?_
  · obtain ⟨j, y, hy, hxy⟩ := mem_PF.1 hx2
    rw [List.getElem?_set] at hy
    by_cases hij : i = j
    · rw [if_pos hij, if_pos hil] at hy
      cases hy
      exact hD x hx hxy
    · rw [if_neg hij] at hy
      have h5 := hG x hx
      have := y.lt (h.nth j hy) x hxy
      omega
  · obtain ⟨j, y, hy, hxy⟩ := mem_PF.1 hx
    rcases j with _ | j
    · cases hy
      have := hG x hxy
      have := h.mod.size
      omega
    · exact h2.bey j hy x hxy

end Go.Proofs
