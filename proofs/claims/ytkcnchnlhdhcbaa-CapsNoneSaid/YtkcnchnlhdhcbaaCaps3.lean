/-
  Capabilities, as plain functions: how many were made of one.
-/
import Derived.Test.YtkcnchnlhdhcbaaCaps2
set_option linter.unusedSimpArgs false
namespace Go.Den
open Go

theorem nodup_len_le : ∀ {a b : List Int}, a.Nodup → (∀ x ∈ a, x ∈ b) → a.length ≤ b.length
  | [], _, _, _ => Nat.zero_le _
  | x :: a, b, hn, h => by
    obtain ⟨h1, h2⟩ := List.nodup_cons.1 hn
    have hx := h x (by simp)
    have := nodup_len_le (b := b.erase x) h2 fun y hy => (List.mem_erase_of_ne (show y ≠ x from fun e => h1 (by rw [← e]; exact hy))).2 (h y (by simp [hy]))
    rw [List.length_erase_of_mem hx] at this
    have hb : 0 < b.length := List.length_pos_of_mem hx
    simp only [List.length_cons]
    omega
theorem nodup_len {a b : List Int} (ha : a.Nodup) (hb : b.Nodup) (h : ∀ x, x ∈ a ↔ x ∈ b) : a.length = b.length :=
  Nat.le_antisymm (nodup_len_le ha fun x hx => (h x).1 hx) (nodup_len_le hb fun x hx => (h x).2 hx)

/-- What the search for those that were made of one has found so far. -/
structure Bad (s : S8) (g : CE) (rest : List Int) : Prop where
  nodup : (g.no :: rest).Nodup
  und : ∀ b ∈ rest, ∃ c ∈ s.L, c.no = b ∧ Und s.L g.no c

theorem Bad.nil (s : S8) (g : CE) : Bad s g [] := ⟨by simp, by simp⟩
theorem Bad.add {s : S8} (hw : W8 s) {g : CE} {rest : List Int} (h : Bad s g rest) (hg : g ∈ s.L) {c : CE} (hc : c ∈ s.L) (ho : c.of_ ∈ g.no :: rest) (hn : c.no ∉ g.no :: rest) : Bad s g (rest ++ [c.no]) := by
  refine ⟨?_, fun b hb => ?_⟩
  · rw [← List.cons_append]
    exact List.nodup_append.2 ⟨h.nodup, by simp, fun a ha b hb e => hn (by simp at hb; rw [← hb, ← e]; exact ha)⟩
  · rcases List.mem_append.1 hb with hb | hb
    · exact h.und b hb
    · simp only [List.mem_singleton] at hb
      subst hb
      refine ⟨c, hc, rfl, ?_⟩
      rcases List.mem_cons.1 ho with e | ho
      · exact .here hg e.symm rfl
      · obtain ⟨d, hd, hdn, hu⟩ := h.und _ ho
        exact .step hd hdn hu
theorem Bad.mem {s : S8} (hw : W8 s) {g : CE} {rest : List Int} (h : Bad s g rest) (hcl : ∀ c ∈ s.L, c.of_ ∈ g.no :: rest → c.no ∈ g.no :: rest) {c : CE} (hc : c ∈ s.L) : c.no ∈ rest ↔ isUnder s.L g.no c = true := by
  rw [isUnder_iff hw hc]
  constructor
  · intro hm
    obtain ⟨d, hd, hdn, hu⟩ := h.und _ hm
    rwa [no_same hw.no hc hd hdn.symm]
  · intro hu
    have key : c.no ∈ g.no :: rest := by
      clear h
      induction hu with
      | @here c d hd he ht => exact hcl c hc (by rw [← he, ht]; simp)
      | @step c d hd he hu ih => exact hcl c hc (by rw [← he]; exact ih hd)
    rcases List.mem_cons.1 key with e | hm
    · have := und_lt hw hu hc; omega
    · exact hm
theorem Bad.count {s : S8} (hw : W8 s) {g : CE} {rest : List Int} (h : Bad s g rest) (hcl : ∀ c ∈ s.L, c.of_ ∈ g.no :: rest → c.no ∈ g.no :: rest) : rest.length = (s.L.filter fun c => isUnder s.L g.no c).length := by
  have hn : ((s.L.filter fun c => isUnder s.L g.no c).map (·.no)).Nodup := by
    refine List.pairwise_map.2 (List.Pairwise.imp ?_ (hw.no.filter _))
    intro a b hab e
    omega
  rw [← List.length_map (f := (·.no)) (as := s.L.filter fun c => isUnder s.L g.no c)]
  refine nodup_len (List.nodup_cons.1 h.nodup).2 hn fun x => ?_
  rw [List.mem_map]
  constructor
  · intro hx
    obtain ⟨c, hc, rfl, hu⟩ := h.und x hx
    exact ⟨c, List.mem_filter.2 ⟨hc, (isUnder_iff hw hc).2 hu⟩, rfl⟩
  · rintro ⟨c, hc, rfl⟩
    obtain ⟨h1, h2⟩ := List.mem_filter.1 hc
    exact (h.mem hw hcl h1).2 h2

end Go.Den
