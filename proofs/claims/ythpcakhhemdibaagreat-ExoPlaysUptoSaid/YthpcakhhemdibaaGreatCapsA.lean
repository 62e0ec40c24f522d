/-
  Capabilities, as plain functions: what the document says of them.
  Capabilities, as plain functions: what was made of one.
  Capabilities, as plain functions: how many were made of one.
  Capabilities, as plain functions: how many there are; what stays.
-/
import Derived.Test.YthpcakhhemdibaaGreatDenC
set_option linter.unusedVariables false
set_option linter.unusedSimpArgs false
namespace Go.Den
open Go

/-- A capability: its kind, number, length, rights. -/
structure Cap8 where
  k : Int
  i : Int
  n : Int
  r : Int
deriving DecidableEq

/-- A capability in a slot: its number; that of the one it was made of (0: none). -/
structure CE where
  no : Int
  of_ : Int
  env : Int
  slot : Int
  x : Cap8
deriving DecidableEq

structure S8 where
  L : List CE
  last : Int

def cec (c : CE) : List Value := [.int .i64 c.no, .int .i64 c.of_, .int .i64 c.env, .int .i64 c.slot, .int .i64 c.x.k, .int .i64 c.x.i, .int .i64 c.x.n, .int .i64 c.x.r]
theorem cec_8 (c : CE) : (cec c).length = 8 := rfl
theorem cec_cell (c : CE) : ∀ v ∈ cec c, isCell v = true := by
  intro v hv
  simp only [cec, List.mem_cons, List.not_mem_nil, or_false] at hv
  rcases hv with rfl | rfl | rfl | rfl | rfl | rfl | rfl | rfl <;> rfl

def env12 (n : Int) : Prop := 0 ≤ n ∧ n < 12
instance (n : Int) : Decidable (env12 n) := inferInstanceAs (Decidable (_ ∧ _))
def May8 (x : Cap8) : Prop := (x.k = 2 ∨ x.k = 1 ∧ x.n = 1) ∧ 0 ≤ x.i ∧ x.i ≤ 1048576 ∧ 1 ≤ x.n ∧ x.n ≤ 1048576 ∧ 1 ≤ x.r ∧ x.r ≤ 7
instance (x : Cap8) : Decidable (May8 x) := inferInstanceAs (Decidable (_ ∧ _))

def isAt (e s : Int) (c : CE) : Bool := c.env == e && c.slot == s
def look8 (L : List CE) (e s : Int) : Option CE := L.find? (isAt e s)
/-- The lowest free slot among the first 'n'; 0: there is none. -/
def freeIn (L : List CE) (e : Int) : Nat → Nat → Int
  | _, 0 => 0
  | s, n + 1 => if (look8 L e s).isNone then s else freeIn L e (s + 1) n
def free8 (L : List CE) (e : Int) : Int := freeIn L e 1 64
def putS8 (s : S8) (e o : Int) (x : Cap8) : S8 := if free8 s.L e = 0 then s else ⟨s.L ++ [⟨s.last + 1, o, e, free8 s.L e, x⟩], s.last + 1⟩
def putV8 (s : S8) (e : Int) : Int × Int := if free8 s.L e = 0 then (0, 105) else (free8 s.L e, 0)
def addS8 (s : S8) (e : Int) (x : Cap8) : S8 := if env12 e ∧ May8 x then putS8 s e 0 x else s
def addV8 (s : S8) (e : Int) (x : Cap8) : Int × Int := if env12 e ∧ May8 x then putV8 s e else (0, 101)
/-- Rights, as sets. -/
def hasR (r a : Int) : Bool := ibits .and .i64 r a == a
def mayGive (c : CE) (r : Int) : Prop := ibits .and .i64 c.x.r 4 ≠ 0 ∧ 1 ≤ r ∧ r ≤ 7 ∧ ibits .and .i64 r c.x.r = r
instance (c : CE) (r : Int) : Decidable (mayGive c r) := inferInstanceAs (Decidable (_ ∧ _))
def giveS8 (s : S8) (e sl to r : Int) : S8 := match look8 s.L e sl with
  | none => s
  | some c => if mayGive c r ∧ env12 to then putS8 s to c.no ⟨c.x.k, c.x.i, c.x.n, r⟩ else s
def giveV8 (s : S8) (e sl to r : Int) : Int × Int := match look8 s.L e sl with
  | none => (0, 104)
  | some c => if mayGive c r then (if env12 to then putV8 s to else (0, 101)) else (0, 104)
def meet8 (a b : Cap8) : Bool := a.k == b.k && decide (b.i < a.i + a.n) && decide (a.i < b.i + b.n)
def without (L : List CE) (e sl : Int) : List CE := L.filter fun c => !isAt e sl c
def reparent (g : CE) (c : CE) : CE := if c.of_ = g.no then { c with of_ := g.of_ } else c
def dropS8 (s : S8) (e sl : Int) : S8 := match look8 s.L e sl with
  | none => s
  | some g => ⟨(without s.L e sl).map (reparent g), s.last⟩
def dropV8 (s : S8) (e sl : Int) : Bool × Int := match look8 s.L e sl with
  | none => (false, 104)
  | some g => ((without s.L e sl).all fun c => !meet8 c.x g.x, 0)
def parent8 (L : List CE) (c : CE) : Option CE := L.find? fun d => d.no == c.of_
/-- Was one made of that of number 't', itself or through others? -/
def under8 (L : List CE) (t : Int) : Nat → CE → Bool
  | 0, _ => false
  | n + 1, c => match parent8 L c with
    | none => false
    | some d => d.no == t || under8 L t n d
def isUnder (L : List CE) (t : Int) (c : CE) : Bool := under8 L t (c.no.toNat + 1) c
def revokeS8 (s : S8) (e sl : Int) : S8 := match look8 s.L e sl with
  | none => s
  | some g => ⟨s.L.filter fun c => !isUnder s.L g.no c, s.last⟩
def revokeV8 (s : S8) (e sl : Int) : Int × Int := match look8 s.L e sl with
  | none => (0, 104)
  | some g => (((s.L.filter fun c => isUnder s.L g.no c).length : Int), 0)
def getV8 (L : List CE) (e sl : Int) : Cap8 × Bool := match look8 L e sl with
  | none => (⟨0, 0, 0, 0⟩, false)
  | some c => (c.x, true)
def covers8 (x : Cap8) (k i r : Int) : Bool := x.k == k && decide (x.i ≤ i) && decide (i < x.i + x.n) && hasR x.r r
def has8 (L : List CE) (e k i r : Int) : Bool := L.any fun c => c.env == e && covers8 c.x k i r
def holders8 (L : List CE) (k i : Int) : List Int := (ups 12).filter fun e => has8 L e k i 0
/-- What holds of all that comes of these. -/
structure W8 (s : S8) : Prop where
  key : s.L.Pairwise fun a b => ¬ (a.env = b.env ∧ a.slot = b.slot)
  no : s.L.Pairwise fun a b => a.no < b.no
  in_ : ∀ c ∈ s.L, env12 c.env ∧ 1 ≤ c.slot ∧ c.slot ≤ 64 ∧ May8 c.x ∧ 1 ≤ c.no ∧ c.no ≤ s.last
  up : ∀ c ∈ s.L, c.of_ = 0 ∨ ∃ d ∈ s.L, d.no = c.of_ ∧ d.no < c.no
  last : 0 ≤ s.last

theorem W8.nil : W8 ⟨[], 0⟩ := ⟨by simp, by simp, by simp, by simp, by simp⟩

theorem isAt_iff {e s : Int} {c : CE} : isAt e s c = true ↔ c.env = e ∧ c.slot = s := by simp [isAt]
theorem look8_some {L : List CE} {e s : Int} {c : CE} (h : look8 L e s = some c) : c ∈ L ∧ c.env = e ∧ c.slot = s :=
  ⟨List.mem_of_find?_eq_some h, isAt_iff.1 (List.find?_some h)⟩
theorem look8_none {L : List CE} {e s : Int} (h : look8 L e s = none) : ∀ c ∈ L, ¬ (c.env = e ∧ c.slot = s) := fun c hc hh => by
  have := List.find?_eq_none.1 h c hc
  exact this (isAt_iff.2 hh)
theorem look8_of {L : List CE} (hk : L.Pairwise fun a b => ¬ (a.env = b.env ∧ a.slot = b.slot)) {c : CE} (hc : c ∈ L) : look8 L c.env c.slot = some c := by
  induction L with
  | nil => cases hc
  | cons a L ih =>
    obtain ⟨h1, h2⟩ := List.pairwise_cons.1 hk
    rcases List.mem_cons.1 hc with rfl | hc
    · simp [look8, isAt]
    · have hne : isAt c.env c.slot a = false := by
        cases hh : isAt c.env c.slot a with
        | false => rfl
        | true => exact absurd (isAt_iff.1 hh) (h1 c hc)
      have := ih h2 hc
      unfold look8 at this ⊢
      rw [List.find?_cons_of_neg (by simp [hne])]
      exact this

theorem freeIn_spec (L : List CE) (e : Int) : ∀ (n s : Nat), (freeIn L e s n = 0 ∧ (∀ j, s ≤ j → j < s + n → look8 L e j ≠ none) ∨ (∃ j, s ≤ j ∧ j < s + n ∧ freeIn L e s n = j ∧ look8 L e j = none ∧ ∀ i, s ≤ i → i < j → look8 L e i ≠ none))
  | 0, s => .inl ⟨rfl, fun j h1 h2 => by omega⟩
  | n + 1, s => by
    unfold freeIn
    cases hl : look8 L e s with
    | none =>
      refine .inr ⟨s, by omega, by omega, by simp, hl, fun i h1 h2 => by omega⟩
    | some c =>
      simp only [Option.isNone_some, Bool.false_eq_true, if_false]
      rcases freeIn_spec L e n (s + 1) with ⟨h1, h2⟩ | ⟨j, h1, h2, h3, h4, h5⟩
      · refine .inl ⟨h1, fun j h3 h4 => ?_⟩
        rcases Nat.eq_or_lt_of_le h3 with rfl | h
        · rw [hl]; simp
        · exact h2 j h (by omega)
      · refine .inr ⟨j, by omega, by omega, h3, h4, fun i h6 h7 => ?_⟩
        rcases Nat.eq_or_lt_of_le h6 with rfl | h
        · rw [hl]; simp
        · exact h5 i h h7
theorem free8_spec (L : List CE) (e : Int) : (free8 L e = 0 ∧ ∀ j : Nat, 1 ≤ j → j ≤ 64 → look8 L e j ≠ none) ∨ (∃ j : Nat, 1 ≤ j ∧ j ≤ 64 ∧ free8 L e = j ∧ look8 L e j = none ∧ ∀ i : Nat, 1 ≤ i → i < j → look8 L e i ≠ none) := by
  rcases freeIn_spec L e 64 1 with ⟨h1, h2⟩ | ⟨j, h1, h2, h3, h4, h5⟩
  · exact .inl ⟨h1, fun j h3 h4 => h2 j h3 (by omega)⟩
  · exact .inr ⟨j, h1, by omega, h3, h4, h5⟩

theorem W8.put {s : S8} (h : W8 s) {e o : Int} {x : Cap8} (he : env12 e) (hx : May8 x) (ho : o = 0 ∨ ∃ d ∈ s.L, d.no = o) : W8 (putS8 s e o x) := by
  unfold putS8
  split
  · exact h
  · rename_i hf
    rcases free8_spec s.L e with ⟨h1, _⟩ | ⟨j, h1, h2, h3, h4, _⟩
    · exact absurd h1 hf
    · have hl := h.last
      refine ⟨List.pairwise_append.2 ⟨h.key, by simp, fun a ha b hb => ?_⟩, List.pairwise_append.2 ⟨h.no, by simp, fun a ha b hb => ?_⟩, fun c hc => ?_, fun c hc => ?_, by simp only; omega⟩
      · simp only [List.mem_singleton] at hb
        subst hb
        intro hh
        exact look8_none h4 a ha ⟨hh.1, by rw [hh.2]; exact h3⟩
      · simp only [List.mem_singleton] at hb
        subst hb
        have := (h.in_ a ha).2.2.2.2.2
        simp only
        omega
      · rcases List.mem_append.1 hc with hc | hc
        · obtain ⟨a1, a2, a3, a4, a5, a6⟩ := h.in_ c hc
          exact ⟨a1, a2, a3, a4, a5, by simp only; omega⟩
        · simp only [List.mem_singleton] at hc
          subst hc
          exact ⟨he, by simp only; omega, by simp only; omega, hx, by simp only; omega, by simp only; omega⟩
      · rcases List.mem_append.1 hc with hc | hc
        · rcases h.up c hc with h5 | ⟨d, hd, h5, h6⟩
          · exact .inl h5
          · exact .inr ⟨d, by simp [hd], h5, h6⟩
        · simp only [List.mem_singleton] at hc
          subst hc
          rcases ho with h5 | ⟨d, hd, h5⟩
          · exact .inl h5
          · have := (h.in_ d hd).2.2.2.2.2
            exact .inr ⟨d, by simp [hd], h5, by simp only; omega⟩
theorem W8.add {s : S8} (h : W8 s) (e : Int) (x : Cap8) : W8 (addS8 s e x) := by
  unfold addS8
  split
  · rename_i hh; exact h.put hh.1 hh.2 (.inl rfl)
  · exact h
theorem W8.give {s : S8} (h : W8 s) (e sl to r : Int) : W8 (giveS8 s e sl to r) := by
  unfold giveS8
  split
  · exact h
  · rename_i c hc
    split
    · rename_i hh
      obtain ⟨hm, -, -⟩ := look8_some hc
      obtain ⟨a1, a2, a3, ⟨b1, b2, b3, b4, b5, b6, b7⟩, a5, a6⟩ := h.in_ c hm
      exact h.put hh.2 ⟨b1, b2, b3, b4, b5, hh.1.2.1, hh.1.2.2.1⟩ (.inr ⟨c, hm, rfl⟩)
    · exact h
theorem reparent_same (g c : CE) : (reparent g c).no = c.no ∧ (reparent g c).env = c.env ∧ (reparent g c).slot = c.slot ∧ (reparent g c).x = c.x := by
  unfold reparent; split <;> simp
theorem mem_without {L : List CE} {e sl : Int} {c : CE} : c ∈ without L e sl ↔ c ∈ L ∧ ¬ (c.env = e ∧ c.slot = sl) := by
  rw [without, List.mem_filter]
  simp only [Bool.not_eq_true', and_congr_right_iff]
  intro _
  rw [← Bool.not_eq_true, isAt_iff]
theorem no_same {L : List CE} (hp : L.Pairwise fun a b => a.no < b.no) {c g : CE} (hc : c ∈ L) (hm : g ∈ L) (hno : c.no = g.no) : c = g := by
  induction L with
  | nil => cases hc
  | cons a L ih =>
    obtain ⟨h1, h2⟩ := List.pairwise_cons.1 hp
    rcases List.mem_cons.1 hc with e1 | hc1
    · rcases List.mem_cons.1 hm with e2 | hm1
      · rw [e1, e2]
      · have := h1 g hm1; rw [← e1] at this; omega
    · rcases List.mem_cons.1 hm with e2 | hm1
      · have := h1 c hc1; rw [← e2] at this; omega
      · exact ih h2 hc1 hm1
theorem W8.drop {s : S8} (h : W8 s) (e sl : Int) : W8 (dropS8 s e sl) := by
  unfold dropS8
  split
  · exact h
  · rename_i g hg
    obtain ⟨hm, hge, hgs⟩ := look8_some hg
    refine ⟨?_, ?_, fun c hc => ?_, fun c hc => ?_, h.last⟩
    · refine List.pairwise_map.2 (List.Pairwise.imp ?_ (h.key.filter _))
      intro a b hab hh
      obtain ⟨-, a2, a3, -⟩ := reparent_same g a
      obtain ⟨-, b2, b3, -⟩ := reparent_same g b
      rw [a2, a3, b2, b3] at hh
      exact hab hh
    · refine List.pairwise_map.2 (List.Pairwise.imp ?_ (h.no.filter _))
      intro a b hab
      rw [(reparent_same g a).1, (reparent_same g b).1]
      exact hab
    · obtain ⟨d, hd, rfl⟩ := List.mem_map.1 hc
      obtain ⟨a1, a2, a3, a4⟩ := reparent_same g d
      rw [a1, a2, a3, a4]
      exact h.in_ d (mem_without.1 hd).1
    · obtain ⟨d, hd, rfl⟩ := List.mem_map.1 hc
      obtain ⟨hdL, hdk⟩ := mem_without.1 hd
      have live : ∀ f ∈ s.L, f.no ≠ g.no → ∃ f' ∈ (without s.L e sl).map (reparent g), f'.no = f.no := fun f hf hne => by
        refine ⟨reparent g f, List.mem_map.2 ⟨f, mem_without.2 ⟨hf, fun hk => hne ?_⟩, rfl⟩, (reparent_same g f).1⟩
        have : look8 s.L f.env f.slot = some f := look8_of h.key hf
        rw [hk.1, hk.2, hg] at this
        rw [Option.some.inj this]
      rw [(reparent_same g d).1]
      by_cases hp : d.of_ = g.no
      · have e1 : (reparent g d).of_ = g.of_ := by unfold reparent; rw [if_pos hp]
        rw [e1]
        rcases h.up g hm with h5 | ⟨f, hf, h5, h6⟩
        · exact .inl h5
        · obtain ⟨f', hf', h7⟩ := live f hf (by omega)
          have hgd : g.no < d.no := by
            rcases h.up d hdL with h8 | ⟨u, hu, h8, h9⟩
            · have := (h.in_ g hm).2.2.2.2.1; omega
            · omega
          exact .inr ⟨f', hf', by omega, by omega⟩
      · have e1 : (reparent g d).of_ = d.of_ := by unfold reparent; rw [if_neg hp]
        rw [e1]
        rcases h.up d hdL with h5 | ⟨f, hf, h5, h6⟩
        · exact .inl h5
        · obtain ⟨f', hf', h7⟩ := live f hf (by omega)
          exact .inr ⟨f', hf', by omega, by omega⟩
end Go.Den

set_option linter.unusedSimpArgs false
namespace Go.Den
open Go

/-- Made of that of number 't', itself or through others. -/
inductive Und (L : List CE) (t : Int) : CE → Prop
  | here {c d : CE} : d ∈ L → d.no = c.of_ → d.no = t → Und L t c
  | step {c d : CE} : d ∈ L → d.no = c.of_ → Und L t d → Und L t c

theorem parent8_some {L : List CE} {c d : CE} (h : parent8 L c = some d) : d ∈ L ∧ d.no = c.of_ :=
  ⟨List.mem_of_find?_eq_some h, by simpa using List.find?_some h⟩
theorem parent8_of {L : List CE} (hp : L.Pairwise fun a b => a.no < b.no) {c d : CE} (hd : d ∈ L) (he : d.no = c.of_) : parent8 L c = some d := by
  cases h : parent8 L c with
  | none =>
    have := List.find?_eq_none.1 h d hd
    simp [he] at this
  | some d' =>
    obtain ⟨h1, h2⟩ := parent8_some h
    rw [no_same hp h1 hd (by omega)]

theorem und_of_under {L : List CE} {t : Int} : ∀ (n : Nat) {c : CE}, under8 L t n c = true → Und L t c
  | 0, _, h => by cases h
  | n + 1, c, h => by
    unfold under8 at h
    split at h
    · cases h
    · rename_i d hd
      obtain ⟨h1, h2⟩ := parent8_some hd
      rw [Bool.or_eq_true] at h
      rcases h with h | h
      · exact .here h1 h2 (by simpa using h)
      · exact .step h1 h2 (und_of_under n h)
theorem under_of_und {s : S8} (hw : W8 s) {t : Int} {c : CE} (h : Und s.L t c) : ∀ (n : Nat), c ∈ s.L → c.no.toNat < n → under8 s.L t n c = true := by
  induction h with
  | here hd he ht =>
    intro n hc hn
    obtain ⟨n, rfl⟩ : ∃ m, n = m + 1 := ⟨n - 1, by omega⟩
    unfold under8
    rw [parent8_of hw.no hd he]
    simp [ht]
  | @step c d hd he hu ih =>
    intro n hc hn
    obtain ⟨n, rfl⟩ : ∃ m, n = m + 1 := ⟨n - 1, by omega⟩
    unfold under8
    rw [parent8_of hw.no hd he]
    have h1 := (hw.in_ d hd).2.2.2.2.1
    have hlt : d.no < c.no := by
      rcases hw.up c hc with h2 | ⟨d', hd', h2, h3⟩
      · omega
      · omega
    simp [ih n hd (by omega)]
theorem isUnder_iff {s : S8} (hw : W8 s) {t : Int} {c : CE} (hc : c ∈ s.L) : isUnder s.L t c = true ↔ Und s.L t c :=
  ⟨und_of_under _, fun h => under_of_und hw h _ hc (by omega)⟩
theorem und_lt {s : S8} (hw : W8 s) {t : Int} {c : CE} (h : Und s.L t c) (hc : c ∈ s.L) : t < c.no := by
  have par : ∀ {c d : CE}, c ∈ s.L → d ∈ s.L → d.no = c.of_ → d.no < c.no := fun hc hd he => by
    have h1 := (hw.in_ _ hd).2.2.2.2.1
    rcases hw.up _ hc with h2 | ⟨d', hd', h2, h3⟩ <;> omega
  induction h with
  | here hd he ht => have := par hc hd he; omega
  | step hd he hu ih => have := par hc hd he; have := ih hd; omega

theorem W8.revoke {s : S8} (h : W8 s) (e sl : Int) : W8 (revokeS8 s e sl) := by
  unfold revokeS8
  split
  · exact h
  · rename_i g hg
    refine ⟨h.key.filter _, h.no.filter _, fun c hc => h.in_ c (List.mem_filter.1 hc).1, fun c hc => ?_, h.last⟩
    obtain ⟨hcL, hcu⟩ := List.mem_filter.1 hc
    rcases h.up c hcL with h1 | ⟨d, hd, h1, h2⟩
    · exact .inl h1
    · refine .inr ⟨d, List.mem_filter.2 ⟨hd, ?_⟩, h1, h2⟩
      cases hu : isUnder s.L g.no d with
      | false => rfl
      | true =>
        have : isUnder s.L g.no c = true := (isUnder_iff h hcL).2 (.step hd h1 ((isUnder_iff h hd).1 hu))
        rw [this] at hcu
        cases hcu

end Go.Den

set_option linter.unusedSimpArgs false
namespace Go.Den
open Go

theorem nodup_len_le : ∀ {a b : List Int}, a.Nodup → (∀ x ∈ a, x ∈ b) → a.length ≤ b.length
  | [], _, _, _ => Nat.zero_le _
  | x :: a, b, hn, h => by
    obtain ⟨h1, h2⟩ := List.nodup_cons.1 hn
    have hx := h x (by simp)
    have := nodup_len_le (b := b.erase x) h2 fun y hy => (List.mem_erase_of_ne (show y ≠ x from fun e => h1 (by rw [← e]; exact hy))).2 (h y (by simp [hy]))
    rw [List.length_erase_of_mem hx] at this
    have hb : 0 < b.length := List.length_pos_of_mem hx
    simp only [List.length_cons]
    omega
theorem nodup_len {a b : List Int} (ha : a.Nodup) (hb : b.Nodup) (h : ∀ x, x ∈ a ↔ x ∈ b) : a.length = b.length :=
  Nat.le_antisymm (nodup_len_le ha fun x hx => (h x).1 hx) (nodup_len_le hb fun x hx => (h x).2 hx)

/-- What the search for those that were made of one has found so far. -/
structure Bad (s : S8) (g : CE) (rest : List Int) : Prop where
  nodup : (g.no :: rest).Nodup
  und : ∀ b ∈ rest, ∃ c ∈ s.L, c.no = b ∧ Und s.L g.no c

theorem Bad.nil (s : S8) (g : CE) : Bad s g [] := ⟨by simp, by simp⟩
theorem Bad.add {s : S8} (hw : W8 s) {g : CE} {rest : List Int} (h : Bad s g rest) (hg : g ∈ s.L) {c : CE} (hc : c ∈ s.L) (ho : c.of_ ∈ g.no :: rest) (hn : c.no ∉ g.no :: rest) : Bad s g (rest ++ [c.no]) := by
  refine ⟨?_, fun b hb => ?_⟩
  · rw [← List.cons_append]
    exact List.nodup_append.2 ⟨h.nodup, by simp, fun a ha b hb e => hn (by simp at hb; rw [← hb, ← e]; exact ha)⟩
  · rcases List.mem_append.1 hb with hb | hb
    · exact h.und b hb
    · simp only [List.mem_singleton] at hb
      subst hb
      refine ⟨c, hc, rfl, ?_⟩
      rcases List.mem_cons.1 ho with e | ho
      · exact .here hg e.symm rfl
      · obtain ⟨d, hd, hdn, hu⟩ := h.und _ ho
        exact .step hd hdn hu
theorem Bad.mem {s : S8} (hw : W8 s) {g : CE} {rest : List Int} (h : Bad s g rest) (hcl : ∀ c ∈ s.L, c.of_ ∈ g.no :: rest → c.no ∈ g.no :: rest) {c : CE} (hc : c ∈ s.L) : c.no ∈ rest ↔ isUnder s.L g.no c = true := by
  rw [isUnder_iff hw hc]
  constructor
  · intro hm
    obtain ⟨d, hd, hdn, hu⟩ := h.und _ hm
    rwa [no_same hw.no hc hd hdn.symm]
  · intro hu
    have key : c.no ∈ g.no :: rest := by
      clear h
      induction hu with
      | @here c d hd he ht => exact hcl c hc (by rw [← he, ht]; simp)
      | @step c d hd he hu ih => exact hcl c hc (by rw [← he]; exact ih hd)
    rcases List.mem_cons.1 key with e | hm
    · have := und_lt hw hu hc; omega
    · exact hm
theorem Bad.count {s : S8} (hw : W8 s) {g : CE} {rest : List Int} (h : Bad s g rest) (hcl : ∀ c ∈ s.L, c.of_ ∈ g.no :: rest → c.no ∈ g.no :: rest) : rest.length = (s.L.filter fun c => isUnder s.L g.no c).length := by
  have hn : ((s.L.filter fun c => isUnder s.L g.no c).map (·.no)).Nodup := by
    refine List.pairwise_map.2 (List.Pairwise.imp ?_ (hw.no.filter _))
    intro a b hab e
    omega
  rw [← List.length_map (f := (·.no)) (as := s.L.filter fun c => isUnder s.L g.no c)]
  refine nodup_len (List.nodup_cons.1 h.nodup).2 hn fun x => ?_
  rw [List.mem_map]
  constructor
  · intro hx
    obtain ⟨c, hc, rfl, hu⟩ := h.und x hx
    exact ⟨c, List.mem_filter.2 ⟨hc, (isUnder_iff hw hc).2 hu⟩, rfl⟩
  · rintro ⟨c, hc, rfl⟩
    obtain ⟨h1, h2⟩ := List.mem_filter.1 hc
    exact (h.mem hw hcl h1).2 h2

end Go.Den

set_option linter.unusedSimpArgs false
namespace Go.Den
open Go

/-- At most 'n' more than before. -/
def Grows (n : Nat) (s s' : S8) : Prop := s'.L.length ≤ s.L.length + n ∧ s'.last ≤ s.last + n
theorem Grows.refl (n : Nat) (s : S8) : Grows n s s := ⟨by omega, by omega⟩
theorem Grows.mono {n m : Nat} {s s' : S8} (h : Grows n s s') (hn : n ≤ m) : Grows m s s' := ⟨by have := h.1; omega, by have := h.2; omega⟩
theorem putS8_len (s : S8) (e o : Int) (x : Cap8) : Grows 1 s (putS8 s e o x) := by
  unfold putS8 Grows; split
  · simp; omega
  · simp
theorem addS8_len (s : S8) (e : Int) (x : Cap8) : Grows 1 s (addS8 s e x) := by
  unfold addS8; split
  · exact putS8_len ..
  · exact Grows.refl ..
theorem giveS8_len (s : S8) (e sl to r : Int) : Grows 1 s (giveS8 s e sl to r) := by
  unfold giveS8; split
  · exact Grows.refl ..
  · split
    · exact putS8_len ..
    · exact Grows.refl ..
theorem dropS8_len (s : S8) (e sl : Int) : Grows 0 s (dropS8 s e sl) := by
  unfold dropS8; split
  · exact Grows.refl ..
  · refine ⟨?_, by simp⟩
    simp only [List.length_map, Nat.add_zero]
    exact List.length_filter_le _ _
theorem revokeS8_len (s : S8) (e sl : Int) : Grows 0 s (revokeS8 s e sl) := by
  unfold revokeS8; split
  · exact Grows.refl ..
  · exact ⟨List.length_filter_le _ _, by simp⟩
theorem Grows.zero {s a b : S8} (h : Grows 0 s a) (h' : Grows 0 a b) : Grows 0 s b := ⟨Nat.le_trans h'.1 h.1, Int.le_trans h'.2 (by have := h.2; omega)⟩
/-- What is left of one that went: those of other slots, their parents turned. -/
theorem mem_drop {s : S8} {e sl : Int} {c : CE} (h : c ∈ (dropS8 s e sl).L) : ∃ d ∈ s.L, d.no = c.no ∧ d.env = c.env ∧ d.slot = c.slot ∧ d.x = c.x ∧ ((look8 s.L e sl).isSome → ¬ (c.env = e ∧ c.slot = sl)) := by
  unfold dropS8 at h
  cases hl : look8 s.L e sl with
  | none => rw [hl] at h; exact ⟨c, h, rfl, rfl, rfl, rfl, by simp⟩
  | some g =>
    rw [hl] at h
    obtain ⟨d, hd, rfl⟩ := List.mem_map.1 h
    obtain ⟨h1, h2⟩ := mem_without.1 hd
    obtain ⟨a1, a2, a3, a4⟩ := reparent_same g d
    exact ⟨d, h1, a1.symm, a2.symm, a3.symm, a4.symm, fun _ => by rw [a2, a3]; exact h2⟩
theorem mem_revoke {s : S8} {e sl : Int} {c : CE} (h : c ∈ (revokeS8 s e sl).L) : c ∈ s.L := by
  unfold revokeS8 at h
  split at h
  · exact h
  · exact (List.mem_filter.1 h).1
theorem mem_put {s : S8} {e o : Int} {x : Cap8} {c : CE} (h : c ∈ (putS8 s e o x).L) : c ∈ s.L ∨ c.env = e ∧ c.x = x ∧ c.of_ = o := by
  unfold putS8 at h
  split at h
  · exact .inl h
  · rcases List.mem_append.1 h with h | h
    · exact .inl h
    · rw [List.mem_singleton.1 h]; exact .inr ⟨rfl, rfl, rfl⟩
theorem keep_put {s : S8} {e o : Int} {x : Cap8} {g : CE} (h : g ∈ s.L) : g ∈ (putS8 s e o x).L := by
  unfold putS8
  split
  · exact h
  · exact List.mem_append_left _ h
theorem mem_add {s : S8} {e : Int} {x : Cap8} {c : CE} (h : c ∈ (addS8 s e x).L) : c ∈ s.L ∨ c.env = e ∧ c.x = x ∧ c.of_ = 0 := by
  unfold addS8 at h
  split at h
  · exact mem_put h
  · exact .inl h
theorem keep_add {s : S8} {e : Int} {x : Cap8} {g : CE} (h : g ∈ s.L) : g ∈ (addS8 s e x).L := by
  unfold addS8
  split
  · exact keep_put h
  · exact h
theorem mem_give {s : S8} {e sl to r : Int} {c : CE} (h : c ∈ (giveS8 s e sl to r).L) : c ∈ s.L ∨ ∃ d ∈ s.L, d.env = e ∧ d.slot = sl ∧ mayGive d r ∧ c.env = to ∧ c.x = ⟨d.x.k, d.x.i, d.x.n, r⟩ ∧ c.of_ = d.no := by
  unfold giveS8 at h
  cases hl : look8 s.L e sl with
  | none => rw [hl] at h; exact .inl h
  | some d =>
    rw [hl] at h
    simp only at h
    split at h
    · rename_i hm
      obtain ⟨h1, h2, h3⟩ := look8_some hl
      rcases mem_put h with h | ⟨e1, e2, e3⟩
      · exact .inl h
      · exact .inr ⟨d, h1, h2, h3, hm.1, e1, e2, e3⟩
    · exact .inl h
theorem keep_give {s : S8} {e sl to r : Int} {g : CE} (h : g ∈ s.L) : g ∈ (giveS8 s e sl to r).L := by
  unfold giveS8
  split
  · exact h
  · split
    · exact keep_put h
    · exact h

end Go.Den
