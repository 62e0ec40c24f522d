/-
  Layer 19: the walk of 'PipesRoom'.
-/
import Derived.Test.YtjlgbofgmjplaaaC19f
set_option linter.unusedSimpArgs false
namespace Go.Proofs
open Go Go.Den

/-- The first 'k' places hold empty pipes, the others none. -/
def firstK (k : Nat) : List (Option (List UInt8)) := List.replicate k (some []) ++ List.replicate (16 - k) none
theorem firstK_get {k i : Nat} (hk : k ≤ 16) : (firstK k)[i]? = if i < k then some (some []) else if i < 16 then some none else none := by
  unfold firstK
  by_cases h : i < k
  · rw [List.getElem?_append_left (by simpa using h), List.getElem?_replicate, if_pos h, if_pos h]
  · rw [List.getElem?_append_right (by simpa using h), List.getElem?_replicate, if_neg h, List.length_replicate]
    by_cases h2 : i < 16
    · rw [if_pos (by omega), if_pos h2]
    · rw [if_neg (by omega), if_neg h2]
theorem firstK_set {k : Nat} (hk : k < 16) : (firstK k).set k (some []) = firstK (k + 1) := by
  apply List.ext_getElem?
  intro i
  rw [List.getElem?_set, firstK_get (by omega), firstK_get (by omega)]
  have hl : (firstK k).length = 16 := by simp [firstK]; omega
  by_cases h : k = i
  · subst h
    rw [if_pos rfl, if_pos (by omega), if_pos (by omega)]
  · rw [if_neg h]
    by_cases h2 : i < k
    · rw [if_pos h2, if_pos (by omega)]
    · rw [if_neg h2, if_neg (show ¬ i < k + 1 by omega)]

theorem room_run (w : World) (n : Int) (_ : (Lit.int .i64 n).wf = true) : CallsR Try.prog F_januslaw19_PipesRoom #[.int .i64 n] w fun r w' => r = .bool true ∧ Mod [] w w' := by
  apply R_januslaw19_PipesRoom_ok
  simp only [R_januslaw19_PipesRoom]
  obtain ⟨N, hN⟩ : ∃ N : Nat, (if (if (19 : Int) < n then (19 : Int) else n) > (0 : Int) then (if (19 : Int) < n then (19 : Int) else n) else (0 : Int)) = (N : Int) ∧ N ≤ 19 := by
    refine ⟨(if (if (19 : Int) < n then (19 : Int) else n) > (0 : Int) then (if (19 : Int) < n then (19 : Int) else n) else (0 : Int)).toNat, ?_, ?_⟩
    · split <;> split <;> omega
    · split <;> split <;> omega
  obtain ⟨hN, hN19⟩ := hN
  rw [hN]
  have fin : ∀ (w' : World), Mod [] w w' → CallsR Try.prog F_januslaw19_awake #[] w' fun v w'' => ∃ r : Bool, v = .bool r ∧ Value.bool r = .bool true ∧ Mod [] w w'' := fun w' h => awake_run _ fun w2 h2 => ⟨true, rfl, rfl, h.trans' h2⟩
  refine pipes_new w fun p F w1 hp1 hm1 hF => ⟨_, rfl, ?_⟩
  simp only [Option.isNone_some, spl_false, spl_decide, spl_bne]
  refine ⟨fun m i w' => ∃ (k : Nat) (F' : List Nat), i = k ∧ k ≤ N ∧ m = N - k ∧ PipesP w' p (firstK (min k 16)) F' ∧ Mod [] w w' ∧ (∀ b ∈ F', w.heap.size ≤ b), ⟨N, 0, F, rfl, by omega, rfl, hp1, hm1, hF⟩, ?_⟩
  rintro m i - w2 ⟨k, F2, rfl, hk, rfl, hp2, hm2, hF2⟩
  have kF : ∀ {u u' : World}, Mod [] w u → Mod F2 u u' → Mod [] w u' := fun h h' => h.trans h' fun b hb hlt => absurd (hF2 b hb) (by omega)
  refine ⟨fun hlt => ?_, fun hge => ⟨fun h2 => fin w2 hm2, fun h2 => ?_⟩⟩
  · refine ⟨fun w' => ∃ F', PipesP w' p (firstK (min (k + 1) 16)) F' ∧ Mod [] w w' ∧ (∀ b ∈ F', w.heap.size ≤ b), ?_, ?_⟩
    · rintro - w3 ⟨F3, hp3, hm3, hF3⟩
      exact ⟨N - (k + 1), by omega, k + 1, F3, by rw [w64 (by omega) (by omega)]; omega, by omega, rfl, hp3, hm3, hF3⟩
    · refine pipes_make hp2 (fun hfull => ⟨_, _, rfl, ?_⟩) (fun q w3 F3 hq hqn hbef hp3 hm3 ho3 => ⟨_, _, rfl, ?_⟩)
      · have hk16 : 16 ≤ k := by
          rcases Nat.lt_or_ge k 16 with h | h
          · exfalso
            apply hfull k h
            rw [firstK_get (by omega), if_neg (by omega), if_pos h]
          · exact h
        refine ⟨fun h => by omega, fun _ => ⟨fun _ => ⟨fun h => absurd rfl h, fun _ => ⟨F2, ?_, hm2, hF2⟩⟩, fun h => by omega⟩⟩
        rw [show min (k + 1) 16 = min k 16 by omega]
        exact hp2
      · have hk16 : k < 16 ∧ q = k := by
          rw [firstK_get (by omega)] at hqn
          have hq1 : ¬ q < min k 16 := fun h => by rw [if_pos h] at hqn; cases hqn
          rcases Nat.lt_or_ge k q with h | h
          · exact absurd (by rw [firstK_get (by omega), if_neg (by omega), if_pos (by omega)]) (hbef k h)
          · omega
        obtain ⟨hk16, rfl⟩ := hk16
        have e : min q 16 = q := by omega
        rw [e, firstK_set hk16] at hp3
        have hF3 : ∀ b ∈ F3, w.heap.size ≤ b := fun b hb => by
          rcases ho3 b hb with h | h
          · exact hF2 b h
          · have := hm2.size; omega
        have res : ∃ F', PipesP w3 p (firstK (min (q + 1) 16)) F' ∧ Mod [] w w3 ∧ (∀ b ∈ F', w.heap.size ≤ b) := ⟨F3, by rw [show min (q + 1) 16 = q + 1 by omega]; exact hp3, kF hm2 hm3, hF3⟩
        exact ⟨fun _ => ⟨fun h => absurd rfl h, fun _ => ⟨fun h => absurd rfl h, fun _ => ⟨fun h => by omega, fun _ => res⟩⟩⟩, fun h => by omega⟩
  · have hkN : k = N := by omega
    subst hkN
    have g1 : (firstK (min k 16))[1]? = some (some []) := by rw [firstK_get (by omega), if_pos (by omega)]
    have l16 : (firstK (min k 16)).length = 16 := by simp [firstK]; omega
    have no1 : ∀ {l : List (Option (List UInt8))} {bs : List UInt8}, l[1]? = some (some bs) → ((1 : Int) < 0 ∨ (16 : Int) ≤ 1 ∨ ∃ k : Nat, (1 : Int) = k ∧ l[k]? = some none) → False := fun hl h => by
      rcases h with h | h | ⟨k, hk, hk'⟩
      · omega
      · omega
      · obtain rfl : k = 1 := by omega
        rw [hl] at hk'
        cases hk'
    refine pipes_put hp2 1 _ (fun h => (no1 g1 h).elim) (fun k1 bs w3 hk1 hb _ hp3 hm3 => ⟨_, rfl, ?_⟩)
    obtain rfl : k1 = 1 := by omega
    have m3 := kF hm2 hm3
    have g1' : ∀ x : Option (List UInt8), ((firstK (min k 16)).set 1 x)[1]? = some x := fun x => by rw [List.getElem?_set, if_pos rfl, if_pos (by omega)]
    refine pipes_drop hp3 1 (fun h => (no1 (g1' _) h).elim) (fun k2 bs2 w4 F4 hk2 hb2 hp4 hF4 hm4 => ⟨_, rfl, ?_⟩)
    obtain rfl : k2 = 1 := by omega
    have m4 := kF m3 hm4
    rw [List.set_set] at hp4
    refine pipes_make hp4 (fun hfull => absurd (g1' _) (hfull 1 (by decide))) (fun q w5 F5 hq hqn hbef hp5 hm5 ho5 => ⟨_, _, rfl, ?_⟩)
    have hq1 : q = 1 := by
      rcases Nat.lt_trichotomy q 1 with h | h | h
      · obtain rfl : q = 0 := by omega
        rw [List.getElem?_set, if_neg (by decide), firstK_get (by omega), if_pos (by omega)] at hqn
        cases hqn
      · exact h
      · exact absurd (g1' _) (hbef 1 h)
    subst hq1
    have m5 : Mod [] w w5 := m4.trans hm5 fun b hb hlt => absurd (hF2 b (hF4 b hb)) (by omega)
    rw [List.set_set] at hp5
    refine spl_t rfl (spl_t rfl (pipes_len hp5 1 (fun h => (no1 (g1' _) h).elim) (fun k6 bs6 hk6 hb6 _ => ⟨_, rfl, ?_⟩)))
    obtain rfl : k6 = 1 := by omega
    rw [g1'] at hb6
    obtain rfl : [] = bs6 := by simpa using hb6
    exact spl_t rfl (fin w5 m5)

end Go.Proofs
