/-
  Layer 24: the round.
-/
import Derived.Test.YtciclhpbkbcdpaaC24e
set_option linter.unusedSimpArgs false
namespace Go.Proofs
open Go Go.Den

/-- Those that wait, in the round's order, from 'i' on. -/
def rot (N i : Nat) : List Int := (List.range N).map fun j => (((i + j) % N : Nat) : Int)
theorem rot_len (N i : Nat) : (rot N i).length = N := by simp [rot]
theorem rot_nn (N i : Nat) : ∀ x ∈ rot N i, 0 ≤ x := by
  intro x hx
  simp only [rot, List.mem_map] at hx
  obtain ⟨j, _, rfl⟩ := hx
  omega
theorem rot_succ (N i : Nat) (hN : 0 < N) : ∃ t, rot N i = ((i % N : Nat) : Int) :: t ∧ rot N (i + 1) = t ++ [((i % N : Nat) : Int)] ∧ t.length = N - 1 := by
  obtain ⟨M, rfl⟩ : ∃ M, N = M + 1 := ⟨N - 1, by omega⟩
  refine ⟨(List.range M).map fun j => (((i + (j + 1)) % (M + 1) : Nat) : Int), ?_, ?_, by simp⟩
  · simp [rot, List.range_succ_eq_map, Function.comp_def]
  · simp only [rot, List.range_succ, List.map_append, List.map_cons, List.map_nil]
    congr 1
    · apply List.map_congr_left
      intro j _
      rw [show i + 1 + j = i + (j + 1) by omega]
    · rw [show i + 1 + M = i + (M + 1) by omega, Nat.add_mod_right]
theorem rot_new {N i : Nat} (h1 : 1 ≤ N) (h8 : N ≤ 8) {t : List Int} (h : rot N i = ((i % N : Nat) : Int) :: t) : ((i % N : Nat) : Int) ∉ t := by
  intro hm
  obtain ⟨j, hj, hjt⟩ := List.getElem_of_mem hm
  have h2 : (rot N i)[j + 1]? = some ((i % N : Nat) : Int) := by rw [h]; simp [hj, hjt]
  have hl := rot_len N i
  rw [h] at hl
  simp only [List.length_cons] at hl
  have h3 : (rot N i)[j + 1]? = some (((i + (j + 1)) % N : Nat) : Int) := by
    simp [rot, show j + 1 < N by omega]
  rw [h3] at h2
  have h4 : (i + (j + 1)) % N = i % N := by have := Option.some.inj h2; omega
  obtain rfl | rfl | rfl | rfl | rfl | rfl | rfl | rfl : N = 1 ∨ N = 2 ∨ N = 3 ∨ N = 4 ∨ N = 5 ∨ N = 6 ∨ N = 7 ∨ N = 8 := by omega
  all_goals omega
theorem tmod_nat (i N : Nat) : (i : Int).tmod (N : Int) = ((i % N : Nat) : Int) := rfl

/-- Those that have asked, ahead of the round. -/
def iota (k : Nat) : List Int := (List.range k).map fun (j : Nat) => (j : Int)
theorem iota_succ (k : Nat) : iota (k + 1) = iota k ++ [(k : Int)] := by simp [iota, List.range_succ]
theorem iota_nn (k : Nat) : ∀ x ∈ iota k, 0 ≤ x := by
  intro x hx
  simp only [iota, List.mem_map] at hx
  obtain ⟨j, _, rfl⟩ := hx
  omega
theorem iota_new (k : Nat) : (k : Int) ∉ iota k := by
  intro hx
  simp only [iota, List.mem_map, List.mem_range] at hx
  obtain ⟨j, h, e⟩ := hx
  omega
theorem iota_rot (N : Nat) : iota N = rot N 0 := by
  apply List.ext_getElem
  · simp [iota, rot]
  · intro i h1 h2
    simp only [iota, List.length_map, List.length_range] at h1
    have := Nat.mod_eq_of_lt h1
    simp only [iota, rot, List.getElem_map, List.getElem_range, Nat.zero_add]
    omega

theorem round_run (w : World) (n : Int) (hn : (Lit.int .i64 n).wf = true) (r : Int) (hr : (Lit.int .i64 r).wf = true) : CallsR Try.prog F_januslaw24_LocksRound #[.int .i64 n, .int .i64 r] w fun v w' => v = .bool true ∧ Mod [] w w' := by
  apply R_januslaw24_LocksRound_ok
  simp only [R_januslaw24_LocksRound, newK_eq, spl_decide, spl_bne, spl_beq]
  obtain ⟨N, hN, hN1, hN8⟩ : ∃ N : Nat, (if (if 8 < n then 8 else n) > 1 then if 8 < n then 8 else n else 1) = (N : Int) ∧ 1 ≤ N ∧ N ≤ 8 :=
    ⟨(if (if 8 < n then 8 else n) > 1 then if 8 < n then 8 else n else 1).toNat, by split <;> split <;> omega, by split <;> split <;> omega, by split <;> split <;> omega⟩
  obtain ⟨R, hR, hR50⟩ : ∃ R : Nat, (if (if 50 < r then 50 else r) > 0 then if 50 < r then 50 else r else 0) = (R : Int) ∧ R ≤ 50 :=
    ⟨(if (if 50 < r then 50 else r) > 0 then if 50 < r then 50 else r else 0).toNat, by split <;> split <;> omega, by split <;> split <;> omega⟩
  rw [hN, hR]
  refine new_run w fun p F1 w1 h1 m1 b1 => ⟨_, rfl, ?_⟩
  simp only [Option.isNone_some, spl_false]
  have s1 : Sep w w1 [lk p (stL (iota 0)) F1] := (Sep.nil (Mod.refl [] w)).push (lk p (stL (iota 0)) F1) m1 h1 b1
  refine ⟨fun n i w' => ∃ (k : Nat) (F : List Nat), i = k ∧ k ≤ N ∧ n = N - k ∧ Sep w w' [lk p (stL (iota k)) F], ⟨N, 0, F1, rfl, by omega, rfl, s1⟩, ?_⟩
  clear s1 h1 m1 b1
  rintro n i - w2 ⟨k, F, rfl, hk, rfl, s2⟩
  refine ⟨fun hlt => ?_, fun hge => ?_⟩
  · have hl := stL_len (iota k)
    rw [show (iota k).length = k by simp [iota]] at hl
    refine ask_run (s2.nth 0 rfl : LkP w2 p (stL (iota k)) F) (by omega) k fun w3 F3 h3 m3 o3 => ⟨_, rfl, ?_⟩
    have s3 := s2.step 0 rfl (lk p _ F3) h3 m3 o3
    have hask := stL_ask (iota_nn k) (k : Int)
    have e1 : addL (iota k) k = iota (k + 1) := by
      unfold addL
      rw [if_neg fun h => h.elim (by omega) (iota_new k), iota_succ]
    rw [hask, e1] at s3
    have hgot : askB (stL (iota k)) k = (((k : Nat) : Int) == 0) := by
      unfold askB
      rw [hask, e1, decide_eq_true (by omega : (0 : Int) ≤ k), Bool.true_and]
      have : (stL (iota (k + 1))).1 = 0 := by simp [iota, List.range_succ_eq_map, stL]
      rw [this]
      exact BEq.comm
    rw [hgot]
    exact spl_f (by simp) ⟨N - (k + 1), by omega, k + 1, F3, by rw [w64 (by omega) (by omega)]; omega, by omega, rfl, s3⟩
  · have hkN : k = N := by omega
    subst hkN
    rw [iota_rot] at s2
    refine ⟨fun n i w' => ∃ (j : Nat) (F : List Nat), i = j ∧ j ≤ R ∧ n = R - j ∧ Sep w w' [lk p (stL (rot k j)) F], ⟨R, 0, F, rfl, by omega, rfl, s2⟩, ?_⟩
    clear s2
    rintro n i - w3 ⟨j, F, rfl, hj, rfl, s3⟩
    refine ⟨fun hlt => ⟨by omega, ?_⟩, fun hge => awake_run fun w' hm => ⟨_, rfl, rfl, s3.mod.trans' hm⟩⟩
    obtain ⟨t, ht1, ht2, ht3⟩ := rot_succ k j (by omega)
    have hnew := rot_new hN1 hN8 ht1
    have hnn := rot_nn k j
    rw [ht1] at s3 hnn
    simp only [tmod_nat]
    rw [w64 (by omega) (by omega), w64 (by omega) (by omega), show ((j : Int) + 1) = ((j + 1 : Nat) : Int) by omega, tmod_nat]
    have hl3 : LkP w3 p (stL (((j % k : Nat) : Int) :: t)) F := s3.nth 0 rfl
    have hsl := stL_len (((j % k : Nat) : Int) :: t)
    simp only [List.length_cons] at hsl
    refine holder_run hl3 ⟨_, rfl, fun h => absurd rfl h, fun _ => ?_⟩
    refine queue_run hl3 (by omega) fun A C w4 H _ _ m4 => ⟨_, _, _, rfl, fun h => absurd (by simp only [stL]; omega) h, fun _ => ?_⟩
    have s4 := s3.mod0 m4
    refine leave_run (s4.nth 0 rfl : LkP w4 p (stL (((j % k : Nat) : Int) :: t)) F) (by omega) _ fun w5 F5 h5 m5 o5 => ?_
    obtain ⟨e1, e2⟩ := stL_leave t (show (0 : Int) ≤ ((j % k : Nat) : Int) by omega)
    rw [e1] at h5
    rw [e2]
    have s5 := s4.step 0 rfl (lk p _ F5) h5 m5 o5
    refine ⟨_, _, rfl, fun w' => w' = w5, ?_, fun h => absurd rfl h, fun _ => ?_⟩
    · rintro - w' rfl
      have hnt : ∀ x ∈ t, 0 ≤ x := fun x hx => hnn x (by simp [hx])
      have hst := stL_len t
      refine ask_run (s5.nth 0 rfl : LkP w' p (stL t) F5) (by omega) _ fun w6 F6 h6 m6 o6 => ⟨_, rfl, ?_⟩
      have s6 := s5.step 0 rfl (lk p _ F6) h6 m6 o6
      have hask := stL_ask hnt ((j % k : Nat) : Int)
      have ea : addL t ((j % k : Nat) : Int) = rot k (j + 1) := by
        unfold addL
        rw [if_neg fun h => h.elim (by omega) hnew, ht2]
      rw [hask, ea] at s6
      have hgot : askB (stL t) ((j % k : Nat) : Int) = (((k : Nat) : Int) == 1) := by
        unfold askB
        rw [hask, ea, decide_eq_true (by omega : (0 : Int) ≤ ((j % k : Nat) : Int)), Bool.true_and, ht2]
        cases t with
        | nil =>
          have : k = 1 := by simp at ht3; omega
          subst this
          simp [stL]
        | cons y t =>
          simp only [List.length_cons] at ht3
          simp only [List.mem_cons, not_or] at hnew
          have h1 : ((y == ((j % k : Nat) : Int)) : Bool) = false := by simpa using fun h => hnew.1 h.symm
          have h2 : (((k : Nat) : Int) == 1) = false := by simp; omega
          rw [h2]
          exact h1
      rw [hgot]
      exact spl_f (by simp) ⟨R - (j + 1), by omega, j + 1, F6, by omega, by omega, rfl, s6⟩
    · have hnext : k ≠ 1 → (stL t).1 = (((j + 1) % k : Nat) : Int) := fun hk1 => by
        obtain ⟨t', ht1', -, -⟩ := rot_succ k (j + 1) (by omega)
        rw [ht2] at ht1'
        cases t with
        | nil => simp at ht3; omega
        | cons y t => simp at ht1'; simp [stL, ht1'.1]
      have hone : k = 1 → (stL t).1 = -1 := fun hk1 => by
        cases t with
        | nil => rfl
        | cons y t => simp at ht3; omega
      refine ⟨fun hgt => ⟨by omega, fun h => absurd (hnext (by omega)) h, fun _ => ⟨fun h => absurd h (by omega), fun _ => rfl⟩⟩, fun hle => ⟨fun h1 => ⟨fun h => absurd (hone (by omega)) h, fun _ => rfl⟩, fun h1 => rfl⟩⟩

end Go.Proofs
