/-
  Layer 19: contracts of the program's pipes.
-/
import Derived.Test.YtjlgbofgmjplaaaC19a
set_option linter.unusedSimpArgs false
namespace Go.Proofs
open Go Go.Den

def ptrOf : Option Nat → Value
  | none => .pointer none
  | some r => .pointer (some ⟨r, 0, none⟩)

/-- The pipes at block 'p': of each place, nothing or the bytes of its ring. -/
def PipesP (w : World) (p : Nat) (l : List (Option (List UInt8))) (F : List Nat) : Prop :=
  ∃ (ps : List (Option Nat)) (T : TypeId), w.heap[p]? = some (.cells (ps.map ptrOf).toArray T (0, 0)) ∧ ps.length = 16 ∧ l.length = 16 ∧ (∀ (i r : Nat), ps[i]? = some (some r) → ∃ bs, l[i]? = some (some bs) ∧ RingP w r bs) ∧
    (∀ i : Nat, ps[i]? = some none → l[i]? = some none) ∧ (∀ (i j r : Nat), ps[i]? = some (some r) → ps[j]? = some (some r) → i = j) ∧ (∀ i : Nat, ps[i]? ≠ some (some p)) ∧ F = p :: ps.filterMap id

theorem mem_rings {ps : List (Option Nat)} {r : Nat} : r ∈ ps.filterMap id ↔ ∃ i : Nat, ps[i]? = some (some r) := by
  rw [List.mem_filterMap]
  constructor
  · rintro ⟨a, ha, rfl⟩
    exact List.getElem?_of_mem ha
  · rintro ⟨i, hi⟩
    exact ⟨some r, List.mem_of_getElem? hi, rfl⟩

theorem PipesP.keep {w w' : World} {p : Nat} {l : List (Option (List UInt8))} {F : List Nat} (h : PipesP w p l F) (hk : ∀ b ∈ F, w'.heap[b]? = w.heap[b]?) : PipesP w' p l F := by
  obtain ⟨ps, T, h1, h2, h3, h4, h5, h6, h7, rfl⟩ := h
  refine ⟨ps, T, (hk p (by simp)).trans h1, h2, h3, fun i r hi => ?_, h5, h6, h7, rfl⟩
  obtain ⟨bs, hb, hr⟩ := h4 i r hi
  exact ⟨bs, hb, hr.keep (hk r (by simp only [List.mem_cons]; exact .inr (mem_rings.2 ⟨i, hi⟩)))⟩
theorem PipesP.lt {w : World} {p : Nat} {l : List (Option (List UInt8))} {F : List Nat} (h : PipesP w p l F) : ∀ b ∈ F, b < w.heap.size := by
  obtain ⟨ps, T, h1, h2, h3, h4, h5, h6, h7, rfl⟩ := h
  intro b hb
  simp only [List.mem_cons] at hb
  rcases hb with rfl | hb
  · exact lt_of_get h1
  · obtain ⟨i, hi⟩ := mem_rings.1 hb
    obtain ⟨bs, _, hr⟩ := h4 i b hi
    exact hr.lt

theorem pipes_new (w : World) {K : Value → World → Prop} (h : ∀ (p : Nat) (F : List Nat) (w' : World), PipesP w' p (List.replicate 16 none) F → Mod [] w w' → (∀ b ∈ F, w.heap.size ≤ b) → K (.pointer (some ⟨p, 0, none⟩)) w') : CallsR Try.prog F_pipes_New #[] w K := by
  apply R_pipes_New_ok
  simp only [R_pipes_New, newK_eq]
  refine h _ [w.heap.size] _ ⟨List.replicate 16 none, 56, alloc_new _ _, by simp, by simp, fun i r hi => ?_, fun i hi => ?_, fun i j r hi => ?_, fun i hi => ?_, by simp⟩ ((Mod.refl _ _).alloc _) (by simp)
  · rw [List.getElem?_replicate] at hi; split at hi <;> cases hi
  · rw [List.getElem?_replicate] at hi ⊢; split at hi
    · rename_i h; rw [if_pos h]
    · cases hi
  · rw [List.getElem?_replicate] at hi; split at hi <;> cases hi
  · rw [List.getElem?_replicate] at hi; split at hi <;> cases hi

theorem pipes_at {w : World} {p : Nat} {l : List (Option (List UInt8))} {F : List Nat} (h : PipesP w p l F) (id : Int) {K : Value → World → Prop} (h0 : (id < 0 ∨ 16 ≤ id ∨ ∃ k : Nat, id = k ∧ l[k]? = some none) → K (.pointer none) w)
    (h1 : ∀ (k r : Nat) (bs : List UInt8), id = k → l[k]? = some (some bs) → RingP w r bs → r ∈ F → (∀ (w' : World) (bs' : List UInt8), RingP w' r bs' → Mod [r] w w' → PipesP w' p (l.set k (some bs')) F) → K (.pointer (some ⟨r, 0, none⟩)) w) :
    CallsR Try.prog F_pipes_Pipes_at #[.pointer (some ⟨p, 0, none⟩), .int .i64 id] w K := by
  apply R_pipes_Pipes_at_ok
  obtain ⟨ps, T, hp, hl, hll, hr, hn, hd, hpp, rfl⟩ := h
  simp only [R_pipes_Pipes_at, Option.isNone_some, spl_false, spl_decide, nilK_some, addr_add, cell_get hp]
  refine ⟨fun h => h0 (.inl h), fun hge => ⟨fun h => h0 (.inr (.inl h)), fun hlt => ⟨⟨by omega, by omega⟩, ?_⟩⟩⟩
  obtain ⟨k, rfl⟩ := nat_of (by omega : 0 ≤ id)
  have hk : k < ps.length := by omega
  have hget : ps[k]? = some ps[k] := List.getElem?_eq_getElem hk
  cases hc : ps[k] with
  | none =>
    rw [hc] at hget
    refine ⟨none, by simp [hget, ptrOf], h0 (.inr (.inr ⟨k, rfl, hn k hget⟩))⟩
  | some r =>
    rw [hc] at hget
    obtain ⟨bs, hb, hring⟩ := hr k r hget
    have hrp : r ≠ p := fun h => hpp k (h ▸ hget)
    have hkl : k < l.length := by omega
    refine ⟨some ⟨r, 0, none⟩, by simp [hget, ptrOf], h1 k r bs rfl hb hring (by simp only [List.mem_cons]; exact .inr (mem_rings.2 ⟨k, hget⟩)) fun w' bs' hr' hm => ⟨ps, T, ?_, hl, by simpa using hll, fun i q hi => ?_, fun i hi => ?_, hd, hpp, rfl⟩⟩
    · exact hm.get hp (by simpa using Ne.symm hrp)
    · rw [List.getElem?_set]
      by_cases hik : k = i
      · subst hik
        rw [if_pos rfl, if_pos hkl]
        obtain rfl : r = q := Option.some.inj (Option.some.inj (hget.symm.trans hi))
        exact ⟨bs', rfl, hr'⟩
      · rw [if_neg hik]
        obtain ⟨bq, hbq, hrq⟩ := hr i q hi
        exact ⟨bq, hbq, hrq.keep (hm.keep q hrq.lt (by simp; rintro rfl; exact hik (hd k i q hget hi)))⟩
    · rw [List.getElem?_set]
      by_cases hik : k = i
      · subst hik
        rw [hget] at hi
        cases hi
      · rw [if_neg hik]
        exact hn i hi

/-- How many bytes a pipe takes. -/
def putN (bs : List UInt8) (s : ByteArray) : Nat := min s.size (8 - bs.length)

theorem pipes_put {w : World} {p : Nat} {l : List (Option (List UInt8))} {F : List Nat} (h : PipesP w p l F) (id : Int) (s : ByteArray) {K : Value → World → Prop} (h0 : (id < 0 ∨ 16 ≤ id ∨ ∃ k : Nat, id = k ∧ l[k]? = some none) → K (.int .i64 0) w)
    (h1 : ∀ (k : Nat) (bs : List UInt8) (w' : World), id = k → l[k]? = some (some bs) → bs.length ≤ 8 → PipesP w' p (l.set k (some (bs ++ s.data.toList.take (putN bs s)))) F → Mod F w w' → K (.int .i64 (putN bs s : Int)) w') :
    CallsR Try.prog F_pipes_Pipes_Put #[.pointer (some ⟨p, 0, none⟩), .int .i64 id, .string s] w K := by
  apply R_pipes_Pipes_Put_ok
  refine pipes_at h id (fun hb => ⟨_, rfl, ?_⟩) (fun k r bs hk hb hring hrF hset => ⟨_, rfl, ?_⟩)
  · simp only [Option.isNone_none, Bool.not_true, spl_false]
    refine ⟨fun m n w' => n = 0 ∧ w' = w, ⟨0, rfl, rfl⟩, ?_⟩
    rintro m n - w' ⟨rfl, rfl⟩
    exact h0 hb
  · simp only [Option.isNone_some, Bool.not_false, spl_true, spl_decide]
    have hlen := hring.len
    have hsl : s.data.toList.length = s.size := by rw [Array.length_toList]; rfl
    refine ⟨fun m n w' => ∃ j : Nat, n = j ∧ j ≤ s.size ∧ j ≤ 8 - bs.length ∧ m = s.size - j ∧ RingP w' r (bs ++ s.data.toList.take j) ∧ Mod [r] w w', ⟨s.size, 0, rfl, by omega, by omega, by omega, by simpa using hring, Mod.refl _ _⟩, ?_⟩
    rintro m n - w2 ⟨j, rfl, hj, hj8, rfl, hr2, hm2⟩
    have done : j = putN bs s → K (.int .i64 (j : Int)) w2 := fun e => by
      rw [e] at hr2 ⊢
      exact h1 k bs w2 hk hb hlen (hset w2 _ hr2 hm2) (hm2.mono (by simp only [List.mem_singleton]; rintro b rfl; exact hrF))
    refine ⟨fun hlt => ?_, fun hge => done (by unfold putN; omega)⟩
    have hjs : j < s.size := by omega
    refine ⟨s[j], ⟨by omega, by simp [hjs]⟩, ?_⟩
    refine ring_put hr2 s[j] (fun hfull => ⟨_, rfl, ?_⟩) (fun hroom w3 hr3 hm3 => ⟨_, rfl, ?_⟩)
    · rw [spl_false]
      refine done ?_
      simp only [List.length_append, List.length_take, hsl] at hfull
      unfold putN
      omega
    · rw [spl_true]
      simp only [List.length_append, List.length_take, hsl] at hroom
      refine ⟨s.size - (j + 1), by omega, j + 1, by rw [w64 (by omega) (by omega)]; omega, by omega, by omega, rfl, ?_, hm2.trans' hm3⟩
      have e : s.data.toList.take (j + 1) = s.data.toList.take j ++ [s[j]] := by
        rw [List.take_succ_eq_append_getElem (by omega)]
        rfl
      rw [e, ← List.append_assoc]
      exact hr3

theorem pipes_len {w : World} {p : Nat} {l : List (Option (List UInt8))} {F : List Nat} (h : PipesP w p l F) (id : Int) {K : Value → World → Prop} (h0 : (id < 0 ∨ 16 ≤ id ∨ ∃ k : Nat, id = k ∧ l[k]? = some none) → K (.int .i64 0) w)
    (h1 : ∀ (k : Nat) (bs : List UInt8), id = k → l[k]? = some (some bs) → bs.length ≤ 8 → K (.int .i64 (bs.length : Int)) w) : CallsR Try.prog F_pipes_Pipes_Len #[.pointer (some ⟨p, 0, none⟩), .int .i64 id] w K := by
  apply R_pipes_Pipes_Len_ok
  refine pipes_at h id (fun hb => ⟨_, rfl, by simpa using h0 hb⟩) (fun k r bs hk hb hring hrF hset => ⟨_, rfl, ?_⟩)
  have hlen := hring.len
  obtain ⟨arr, T, f, hr, hsz, h8, h9, -⟩ := hring
  simp only [Option.isNone_some, spl_false, nilK_some, addr_add]
  exact ⟨_, by rw [cell_get hr]; exact h9, h1 k bs hk hb hlen⟩

end Go.Proofs
