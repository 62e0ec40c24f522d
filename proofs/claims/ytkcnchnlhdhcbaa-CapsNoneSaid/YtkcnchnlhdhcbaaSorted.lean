/-
  Rising rows of numbers: one more where it belongs; what has the same numbers is the same.
-/
namespace Go.Den

def Rising (l : List Int) : Prop := l.Pairwise (· < ·)

theorem Rising.ext : ∀ {l l' : List Int}, Rising l → Rising l' → (∀ x, x ∈ l ↔ x ∈ l') → l = l'
  | [], [], _, _, _ => rfl
  | [], y :: l', _, _, h => by have := (h y).2 (by simp); cases this
  | x :: l, [], _, _, h => by have := (h x).1 (by simp); cases this
  | x :: l, y :: l', h1, h2, h => by
    have a1 := List.pairwise_cons.1 h1
    have a2 := List.pairwise_cons.1 h2
    have exy : x = y := by
      have b1 := (h x).1 (by simp)
      have b2 := (h y).2 (by simp)
      rcases List.mem_cons.1 b1 with e | b1
      · exact e
      · rcases List.mem_cons.1 b2 with e | b2
        · exact e.symm
        · have := a1.1 y b2
          have := a2.1 x b1
          omega
    subst exy
    rw [Rising.ext a1.2 a2.2 fun z => ⟨fun hz => ?_, fun hz => ?_⟩]
    · rcases List.mem_cons.1 ((h z).1 (List.mem_cons_of_mem _ hz)) with e | hz'
      · have := a1.1 z hz; omega
      · exact hz'
    · rcases List.mem_cons.1 ((h z).2 (List.mem_cons_of_mem _ hz)) with e | hz'
      · have := a2.1 z hz; omega
      · exact hz'

def putL : List Int → Int → List Int
  | [], n => [n]
  | x :: l, n => if x < n then x :: putL l n else if x = n then n :: l else n :: x :: l

theorem mem_putL {l : List Int} {n : Int} : ∀ {x : Int}, x ∈ putL l n ↔ x = n ∨ x ∈ l := by
  induction l with
  | nil => intro x; simp [putL]
  | cons y l ih =>
    intro x
    unfold putL
    split
    · simp only [List.mem_cons, ih]
      constructor
      · rintro (h | h | h)
        · exact .inr (.inl h)
        · exact .inl h
        · exact .inr (.inr h)
      · rintro (h | h | h)
        · exact .inr (.inl h)
        · exact .inl h
        · exact .inr (.inr h)
    · split
      · rename_i h; subst h; simp
      · simp

theorem Rising.put {l : List Int} (h : Rising l) (n : Int) : Rising (putL l n) := by
  induction l with
  | nil => simp [putL, Rising]
  | cons y l ih =>
    obtain ⟨h1, h2⟩ := List.pairwise_cons.1 h
    unfold putL
    split
    · rename_i hlt
      refine List.pairwise_cons.2 ⟨fun z hz => ?_, ih h2⟩
      rcases mem_putL.1 hz with e | hz
      · omega
      · exact h1 z hz
    · split
      · rename_i e; subst e; exact h
      · rename_i h3 h4
        refine List.pairwise_cons.2 ⟨fun z hz => ?_, h⟩
        rcases List.mem_cons.1 hz with e | hz
        · omega
        · have := h1 z hz; omega
theorem putL_len (l : List Int) (n : Int) : (putL l n).length ≤ l.length + 1 := by
  induction l with
  | nil => simp [putL]
  | cons y l ih =>
    unfold putL
    split
    · simp; omega
    · split <;> simp

theorem Rising.filter {l : List Int} (h : Rising l) (f : Int → Bool) : Rising (l.filter f) := List.Pairwise.filter f h

/-- The numbers below 'n', as they are gone over. -/
def ups (n : Nat) : List Int := (List.range n).map fun (j : Nat) => (j : Int)
theorem ups_succ (n : Nat) : ups (n + 1) = ups n ++ [(n : Int)] := by simp [ups, List.range_succ]
theorem mem_ups {n : Nat} {x : Int} : x ∈ ups n ↔ 0 ≤ x ∧ x < n := by
  simp only [ups, List.mem_map, List.mem_range]
  constructor
  · rintro ⟨j, h, rfl⟩; omega
  · rintro ⟨h1, h2⟩; exact ⟨x.toNat, by omega, by omega⟩
theorem ups_rising (n : Nat) : Rising (ups n) := by
  induction n with
  | zero => simp [ups, Rising]
  | succ n ih =>
    rw [ups_succ]
    refine List.pairwise_append.2 ⟨ih, by simp, fun a ha b hb => ?_⟩
    simp only [List.mem_singleton] at hb
    have := (mem_ups.1 ha).2
    omega
theorem Rising.is_filter {l : List Int} {n : Nat} (h : Rising l) (hn : ∀ x ∈ l, 0 ≤ x ∧ x < n) : (ups n).filter (fun x => decide (x ∈ l)) = l := by
  refine Rising.ext ((ups_rising n).filter _) h fun x => ?_
  rw [List.mem_filter, mem_ups]
  simp only [decide_eq_true_eq]
  exact ⟨fun h => h.2, fun hx => ⟨hn x hx, hx⟩⟩

end Go.Den
