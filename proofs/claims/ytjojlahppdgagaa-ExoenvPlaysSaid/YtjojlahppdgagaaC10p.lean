/-
  Layer 10: what the document says, as plain functions.
-/
import Derived.Test.YtjojlahppdgagaaSorted
namespace Go.Proofs
open Go.Den

/-- Who lives; the vector; the upcalls that wait. -/
structure S10 where
  L : List Int
  V : List Int
  U : List (Int × Int)

def in12 (n : Int) : Prop := 0 ≤ n ∧ n < 12
instance (n : Int) : Decidable (in12 n) := inferInstanceAs (Decidable (_ ∧ _))
def upV (U : List (Int × Int)) (e : Int) : Int × Bool := match (U.filter fun u => u.1 == e).getLast? with
  | some u => (u.2, true)
  | none => (0, false)
def upD (U : List (Int × Int)) (e : Int) : List (Int × Int) := U.filter fun u => !(u.1 == e)
def ridL (l : List Int) (e : Int) : List Int := l.filter fun x => !(x == e)

theorem upV_nil (e : Int) : upV [] e = (0, false) := rfl
theorem upV_snoc (U : List (Int × Int)) (u : Int × Int) (e : Int) : upV (U ++ [u]) e = if u.1 = e then (u.2, true) else upV U e := by
  unfold upV
  rw [List.filter_append]
  by_cases h : u.1 = e
  · rw [if_pos h]
    simp [h]
  · rw [if_neg h]
    simp [h]
theorem upV_out {U : List (Int × Int)} {e : Int} (h : ∀ u ∈ U, u.1 ≠ e) : upV U e = (0, false) := by
  unfold upV
  have : (U.filter fun u => u.1 == e) = [] := List.filter_eq_nil_iff.2 fun u hu => by simpa using h u hu
  rw [this]
  rfl
theorem upV_in {U : List (Int × Int)} {e : Int} {u : Int × Int} (hu : u ∈ U) (he : u.1 = e) : (upV U e).2 = true := by
  unfold upV
  have : u ∈ U.filter fun u => u.1 == e := List.mem_filter.2 ⟨hu, by simpa using he⟩
  cases h : (U.filter fun u => u.1 == e).getLast? with
  | none => rw [List.getLast?_eq_none_iff] at h; rw [h] at this; cases this
  | some v => rfl
theorem upV_iff (U : List (Int × Int)) (e : Int) : (upV U e).2 = true ↔ ∃ u ∈ U, u.1 = e := by
  constructor
  · intro h
    by_cases hx : ∃ u ∈ U, u.1 = e
    · exact hx
    · rw [upV_out fun u hu he => hx ⟨u, hu, he⟩] at h
      cases h
  · rintro ⟨u, hu, he⟩
    exact upV_in hu he
theorem upV_del (U : List (Int × Int)) (e j : Int) : upV (upD U e) j = if e = j then (0, false) else upV U j := by
  by_cases h : e = j
  · rw [if_pos h]
    refine upV_out fun u hu he => ?_
    have := (List.mem_filter.1 hu).2
    simp [he, h] at this
  · rw [if_neg h]
    unfold upV upD
    rw [List.filter_filter]
    have : (U.filter fun u => (u.1 == j && !(u.1 == e))) = U.filter fun u => u.1 == j := by
      apply List.filter_congr
      intro u _
      by_cases hu : u.1 = j
      · simp [hu, Ne.symm h]
      · simp [hu]
    rw [this]

def createE (s : S10) (e : Int) : Int := if ¬ in12 e then 101 else if e ∈ s.L then 105 else 0
def createS (s : S10) (e : Int) : S10 := if createE s e = 0 then ⟨putL s.L e, s.V, s.U⟩ else s
def killE (s : S10) (e : Int) : Int := if e ∈ s.L then 0 else 106
def killS (s : S10) (e : Int) : S10 := if e ∈ s.L then ⟨ridL s.L e, s.V.map fun x => if x = e then -1 else x, upD s.U e⟩ else s
def sliceE (s : S10) (n e : Int) : Int := if n < 0 ∨ (s.V.length : Int) ≤ n then 101 else if e ≠ -1 ∧ e ∉ s.L then 106 else 0
def sliceS (s : S10) (n e : Int) : S10 := if sliceE s n e = 0 then ⟨s.L, s.V.set n.toNat e, s.U⟩ else s
def pickV (s : S10) (n : Int) : Int := (s.V[(n.emod s.V.length).toNat]?).getD 0
def faultE (s : S10) (e : Int) : Int := if e ∉ s.L then 106 else if (upV s.U e).2 then 105 else 0
def faultS (s : S10) (e a : Int) : S10 := if faultE s e = 0 then ⟨s.L, s.V, s.U ++ [(e, a)]⟩ else s
def upcallS (s : S10) (e : Int) : S10 := ⟨s.L, s.V, upD s.U e⟩

/-- What holds of all that comes of these. -/
structure W10 (s : S10) : Prop where
  rise : Rising s.L
  in_ : ∀ x ∈ s.L, in12 x
  up : ∀ u ∈ s.U, u.1 ∈ s.L
  v : ∀ x ∈ s.V, x = -1 ∨ x ∈ s.L

theorem W10.new (n : Nat) : W10 ⟨[], List.replicate n (-1), []⟩ := ⟨by simp [Rising], by simp, by simp, fun x hx => .inl (List.eq_of_mem_replicate hx)⟩
theorem W10.create {s : S10} (h : W10 s) (e : Int) : W10 (createS s e) := by
  unfold createS
  split
  · rename_i h0
    have hin : in12 e := by
      unfold createE at h0
      split at h0
      · cases h0
      · rename_i hh; exact Decidable.not_not.1 hh
    refine ⟨h.rise.put e, fun x hx => ?_, fun u hu => mem_putL.2 (.inr (h.up u hu)), fun x hx => (h.v x hx).imp id fun h => mem_putL.2 (.inr h)⟩
    rcases mem_putL.1 hx with rfl | hx
    · exact hin
    · exact h.in_ x hx
  · exact h
theorem W10.kill {s : S10} (h : W10 s) (e : Int) : W10 (killS s e) := by
  unfold killS
  split
  · refine ⟨h.rise.filter _, fun x hx => h.in_ x (List.mem_filter.1 hx).1, fun u hu => ?_, fun x hx => ?_⟩
    · obtain ⟨h1, h2⟩ := List.mem_filter.1 hu
      exact List.mem_filter.2 ⟨h.up u h1, h2⟩
    · obtain ⟨y, hy, rfl⟩ := List.mem_map.1 hx
      split
      · exact .inl rfl
      · rename_i hne
        exact (h.v y hy).imp id fun h => List.mem_filter.2 ⟨h, by simpa using hne⟩
  · exact h
theorem W10.slice {s : S10} (h : W10 s) (n e : Int) : W10 (sliceS s n e) := by
  unfold sliceS
  split
  · rename_i h0
    refine ⟨h.rise, h.in_, h.up, fun x hx => ?_⟩
    rcases List.mem_or_eq_of_mem_set hx with hx | rfl
    · exact h.v x hx
    · unfold sliceE at h0
      split at h0
      · cases h0
      · split at h0
        · cases h0
        · rename_i hh
          by_cases he : x = -1
          · exact .inl he
          · exact .inr (Decidable.not_not.1 fun hx => hh ⟨he, hx⟩)
  · exact h
theorem W10.fault {s : S10} (h : W10 s) (e a : Int) : W10 (faultS s e a) := by
  unfold faultS
  split
  · rename_i h0
    refine ⟨h.rise, h.in_, fun u hu => ?_, h.v⟩
    rcases List.mem_append.1 hu with hu | hu
    · exact h.up u hu
    · simp only [List.mem_singleton] at hu
      subst hu
      unfold faultE at h0
      split at h0
      · cases h0
      · rename_i hh; exact Decidable.not_not.1 hh
  · exact h
theorem W10.upcall {s : S10} (h : W10 s) (e : Int) : W10 (upcallS s e) := ⟨h.rise, h.in_, fun u hu => h.up u (List.mem_filter.1 hu).1, h.v⟩

theorem killV_len (s : S10) (e : Int) : (killS s e).V.length = s.V.length := by unfold killS; split <;> simp
theorem sliceV_len (s : S10) (n e : Int) : (sliceS s n e).V.length = s.V.length := by unfold sliceS; split <;> simp
theorem createV (s : S10) (e : Int) : (createS s e).V = s.V := by unfold createS; split <;> rfl
theorem faultV (s : S10) (e a : Int) : (faultS s e a).V = s.V := by unfold faultS; split <;> rfl

theorem live_eq {s : S10} (h : W10 s) : (ups 12).filter (fun x => decide (x ∈ s.L)) = s.L := h.rise.is_filter fun x hx => h.in_ x hx

end Go.Proofs
