/-
  Capabilities, as plain functions: what was made of one.
-/
import Derived.Test.YtkcnchnlhdhcbaaCaps
set_option linter.unusedSimpArgs false
namespace Go.Den
open Go

/-- Made of that of number 't', itself or through others. -/
inductive Und (L : List CE) (t : Int) : CE → Prop
  | here {c d : CE} : d ∈ L → d.no = c.of_ → d.no = t → Und L t c
  | step {c d : CE} : d ∈ L → d.no = c.of_ → Und L t d → Und L t c

theorem parent8_some {L : List CE} {c d : CE} (h : parent8 L c = some d) : d ∈ L ∧ d.no = c.of_ :=
  ⟨List.mem_of_find?_eq_some h, by simpa using List.find?_some h⟩
theorem parent8_of {L : List CE} (hp : L.Pairwise fun a b => a.no < b.no) {c d : CE} (hd : d ∈ L) (he : d.no = c.of_) : parent8 L c = some d := by
  cases h : parent8 L c with
  | none =>
    have := List.find?_eq_none.1 h d hd
    simp [he] at this
  | some d' =>
    obtain ⟨h1, h2⟩ := parent8_some h
    rw [no_same hp h1 hd (by omega)]

theorem und_of_under {L : List CE} {t : Int} : ∀ (n : Nat) {c : CE}, under8 L t n c = true → Und L t c
  | 0, _, h => by cases h
  | n + 1, c, h => by
    unfold under8 at h
    split at h
    · cases h
    · rename_i d hd
      obtain ⟨h1, h2⟩ := parent8_some hd
      rw [Bool.or_eq_true] at h
      rcases h with h | h
      · exact .here h1 h2 (by simpa using h)
      · exact .step h1 h2 (und_of_under n h)
theorem under_of_und {s : S8} (hw : W8 s) {t : Int} {c : CE} (h : Und s.L t c) : ∀ (n : Nat), c ∈ s.L → c.no.toNat < n → under8 s.L t n c = true := by
  induction h with
  | here hd he ht =>
    intro n hc hn
    obtain ⟨n, rfl⟩ : ∃ m, n = m + 1 := ⟨n - 1, by omega⟩
    unfold under8
    rw [parent8_of hw.no hd he]
    simp [ht]
  | @step c d hd he hu ih =>
    intro n hc hn
    obtain ⟨n, rfl⟩ : ∃ m, n = m + 1 := ⟨n - 1, by omega⟩
    unfold under8
    rw [parent8_of hw.no hd he]
    have h1 := (hw.in_ d hd).2.2.2.2.1
    have hlt : d.no < c.no := by
      rcases hw.up c hc with h2 | ⟨d', hd', h2, h3⟩
      · omega
      · omega
    simp [ih n hd (by omega)]
theorem isUnder_iff {s : S8} (hw : W8 s) {t : Int} {c : CE} (hc : c ∈ s.L) : isUnder s.L t c = true ↔ Und s.L t c :=
  ⟨und_of_under _, fun h => under_of_und hw h _ hc (by omega)⟩
theorem und_lt {s : S8} (hw : W8 s) {t : Int} {c : CE} (h : Und s.L t c) (hc : c ∈ s.L) : t < c.no := by
  have par : ∀ {c d : CE}, c ∈ s.L → d ∈ s.L → d.no = c.of_ → d.no < c.no := fun hc hd he => by
    have h1 := (hw.in_ _ hd).2.2.2.2.1
    rcases hw.up _ hc with h2 | ⟨d', hd', h2, h3⟩ <;> omega
  induction h with
  | here hd he ht => have := par hc hd he; omega
  | step hd he hu ih => have := par hc hd he; have := ih hd; omega

theorem W8.revoke {s : S8} (h : W8 s) (e sl : Int) : W8 (revokeS8 s e sl) := by
  unfold revokeS8
  split
  · exact h
  · rename_i g hg
    refine ⟨h.key.filter _, h.no.filter _, fun c hc => h.in_ c (List.mem_filter.1 hc).1, fun c hc => ?_, h.last⟩
    obtain ⟨hcL, hcu⟩ := List.mem_filter.1 hc
    rcases h.up c hcL with h1 | ⟨d, hd, h1, h2⟩
    · exact .inl h1
    · refine .inr ⟨d, List.mem_filter.2 ⟨hd, ?_⟩, h1, h2⟩
      cases hu : isUnder s.L g.no d with
      | false => rfl
      | true =>
        have : isUnder s.L g.no c = true := (isUnder_iff h hcL).2 (.step hd h1 ((isUnder_iff h hd).1 hu))
        rw [this] at hcu
        cases hcu

end Go.Den
