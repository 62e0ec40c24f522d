/-
  Layer 8: capabilities that are none; no more than the slots.
-/
import Derived.Test.YtkcnchnlhdhcbaaC08a
set_option linter.unusedSimpArgs false
namespace Go.Proofs
open Go Go.Den

theorem nadd_run (e : Int) (x0 x1 x2 x3 : Int) {w : World} {K : Value → World → Prop} (hK : ∀ w', Mod [] w w' → K (.tuple #[.int .i64 0, .int .i64 101]) w') : CallsR Try.prog F_caps_Caps_Add #[.pointer none, .int .i64 e, .agg #[.int .i64 x0, .int .i64 x1, .int .i64 x2, .int .i64 x3]] w K := by
  apply R_caps_Caps_Add_ok
  simp only [R_caps_Caps_Add, Option.isNone_none, spl_true]
  exact (Sep.nil (Mod.refl [] w)).new fun b w1 s1 m1 hb => hK w1 m1
theorem ngive_run (e s t r : Int) {w : World} {K : Value → World → Prop} (hK : K (.tuple #[.int .i64 0, .int .i64 101]) w) : CallsR Try.prog F_caps_Caps_Give #[.pointer none, .int .i64 e, .int .i64 s, .int .i64 t, .int .i64 r] w K := by
  apply R_caps_Caps_Give_ok
  unfold R_caps_Caps_Give
  exact spl_t rfl hK
theorem ndrop_run (e s : Int) {w : World} {K : Value → World → Prop} (hK : K (.tuple #[.bool false, .int .i64 101]) w) : CallsR Try.prog F_caps_Caps_Drop #[.pointer none, .int .i64 e, .int .i64 s] w K := by
  apply R_caps_Caps_Drop_ok
  unfold R_caps_Caps_Drop
  exact spl_t rfl hK
theorem nrevoke_run (e s : Int) {w : World} {K : Value → World → Prop} (hK : K (.tuple #[.int .i64 0, .int .i64 101]) w) : CallsR Try.prog F_caps_Caps_Revoke #[.pointer none, .int .i64 e, .int .i64 s] w K := by
  apply R_caps_Caps_Revoke_ok
  unfold R_caps_Caps_Revoke
  exact spl_t rfl hK
theorem nget_run (e s : Int) {w : World} {K : Value → World → Prop} (hK : ∀ w', Mod [] w w' → K (.tuple #[.agg #[.int .i64 0, .int .i64 0, .int .i64 0, .int .i64 0], .bool false]) w') : CallsR Try.prog F_caps_Caps_Get #[.pointer none, .int .i64 e, .int .i64 s] w K := by
  apply R_caps_Caps_Get_ok
  simp only [R_caps_Caps_Get]
  refine (Sep.nil (Mod.refl [] w)).new fun b w1 s1 m1 hb => ?_
  apply R_caps_Caps_at_ok
  simp only [R_caps_Caps_at]
  refine spl_t rfl ⟨_, rfl, spl_t rfl ?_⟩
  exact s1.st0 0 rfl rfl fun w2 s2 m2 => ⟨_, _, _, _, ⟨s2.cell 0 rfl rfl, s2.cell 0 rfl rfl, s2.cell 0 rfl rfl, s2.cell 0 rfl rfl⟩, hK w2 s2.mod⟩
theorem ngone_run (e : Int) {w : World} {K : Value → World → Prop} (hK : K (.tuple #[]) w) : CallsR Try.prog F_caps_Caps_Gone #[.pointer none, .int .i64 e] w K := by
  apply R_caps_Caps_Gone_ok
  simp only [R_caps_Caps_Gone, spl_decide]
  refine ⟨fun n t w' => ∃ j : Nat, t = (j + 1 : Nat) ∧ j ≤ 64 ∧ n = 64 - j ∧ w' = w, ⟨64, 0, rfl, by omega, rfl, rfl⟩, ?_⟩
  rintro n t - w1 ⟨j, rfl, hj, rfl, rfl⟩
  refine ⟨fun hlt => ndrop_run e _ ⟨_, _, rfl, 64 - (j + 1), by omega, j + 1, by rw [w64 (by omega) (by omega)]; omega, by omega, rfl, rfl⟩, fun _ => hK⟩
theorem nhas_run (e k i r : Int) {w : World} {K : Value → World → Prop} (hK : ∀ w', Mod [] w w' → K (.bool false) w') : CallsR Try.prog F_caps_Caps_Has #[.pointer none, .int .i64 e, .int .i64 k, .int .i64 i, .int .i64 r] w K := by
  apply R_caps_Caps_Has_ok
  simp only [R_caps_Caps_Has, Option.isNone_none, spl_true]
  exact (Sep.nil (Mod.refl [] w)).new fun b1 w1 s1 m1 hb1 => s1.new fun b2 w2 s2 m2 hb2 => s2.new fun b3 w3 s3 m3 hb3 => hK w3 s3.mod
theorem nholders_run (k i : Int) {w : World} {K : Value → World → Prop} (hK : ∀ w', Mod [] w w' → K (.slice none 0 0) w') : CallsR Try.prog F_caps_Caps_Holders #[.pointer none, .int .i64 k, .int .i64 i] w K := by
  apply R_caps_Caps_Holders_ok
  simp only [R_caps_Caps_Holders, spl_decide]
  refine ⟨fun n a l c t w' => ∃ j : Nat, t = j ∧ j ≤ 12 ∧ n = 12 - j ∧ a = none ∧ l = 0 ∧ c = 0 ∧ Mod [] w w', ⟨12, 0, rfl, by omega, rfl, rfl, rfl, rfl, Mod.refl _ _⟩, ?_⟩
  rintro n a l c t - w1 ⟨j, rfl, hj, rfl, rfl, rfl, rfl, hm⟩
  refine ⟨fun hlt => ⟨fun a l c w' => a = none ∧ l = 0 ∧ c = 0 ∧ Mod [] w w', ?_, nhas_run _ _ _ _ fun w2 m2 => ⟨_, rfl, spl_f rfl ⟨rfl, rfl, rfl, hm.trans' m2⟩⟩⟩, fun _ => hK w1 hm⟩
  rintro a l c - w2 ⟨rfl, rfl, rfl, hm2⟩
  exact ⟨12 - (j + 1), by omega, j + 1, by rw [w64 (by omega) (by omega)]; omega, by omega, rfl, rfl, rfl, rfl, hm2⟩

theorem none_run (w : World) (d0 d1 d2 d3 d4 d5 d6 d7 d8 : Int) (f0 : (Lit.int .i64 d0).wf = true) (f1 : (Lit.int .i64 d1).wf = true) (f2 : (Lit.int .i64 d2).wf = true) (f3 : (Lit.int .i64 d3).wf = true) (f4 : (Lit.int .i64 d4).wf = true) (f5 : (Lit.int .i64 d5).wf = true) (f6 : (Lit.int .i64 d6).wf = true) (f7 : (Lit.int .i64 d7).wf = true) (f8 : (Lit.int .i64 d8).wf = true) :
    CallsR Try.prog F_januslaw08_CapsNone #[.agg #[.int .i64 d0, .int .i64 d1, .int .i64 d2, .int .i64 d3, .int .i64 d4, .int .i64 d5, .int .i64 d6, .int .i64 d7, .int .i64 d8]] w fun v w' => v = .bool true ∧ Mod [] w w' := by
  apply R_januslaw08_CapsNone_ok
  simp only [R_januslaw08_CapsNone, spl_beq]
  refine (Sep.nil (Mod.refl [] w)).new fun b w1 s1 m1 hb => ?_
  refine ⟨_, s1.cell 0 rfl rfl, _, _, _, _, ⟨s1.cell 0 rfl rfl, s1.cell 0 rfl rfl, s1.cell 0 rfl rfl, s1.cell 0 rfl rfl⟩, ?_⟩
  refine nadd_run _ _ _ _ _ fun w2 m2 => ⟨_, _, rfl, ?_⟩
  have s2 := s1.mod0 m2
  refine ⟨_, s2.cell 0 rfl rfl, _, s2.cell 0 rfl rfl, _, s2.cell 0 rfl rfl, _, s2.cell 0 rfl rfl, ?_⟩
  refine ngive_run _ _ _ _ ⟨_, _, rfl, _, s2.cell 0 rfl rfl, _, s2.cell 0 rfl rfl, ?_⟩
  refine ndrop_run _ _ ⟨_, _, rfl, _, s2.cell 0 rfl rfl, _, s2.cell 0 rfl rfl, ?_⟩
  refine nrevoke_run _ _ ⟨_, _, rfl, _, s2.cell 0 rfl rfl, _, s2.cell 0 rfl rfl, ?_⟩
  refine nget_run _ _ fun w3 m3 => ⟨_, _, _, _, _, rfl, ?_⟩
  have s3 := s2.mod0 m3
  refine s3.new fun b4 w4 s4 m4 hb4 => s4.st0 0 rfl rfl fun w5 s5 m5 => ⟨_, s5.cell 1 rfl rfl, ?_⟩
  refine ngone_run _ ⟨rfl, fun _ => ⟨fun _ => ⟨fun _ => ⟨fun _ => spl_f rfl ?_, fun h => absurd rfl h⟩, fun h => absurd rfl h⟩, fun h => absurd rfl h⟩, fun h => absurd rfl h⟩
  refine ⟨_, s5.cell 1 rfl rfl, _, s5.cell 1 rfl rfl, _, s5.cell 1 rfl rfl, ?_⟩
  refine nhas_run _ _ _ _ fun w6 m6 => ⟨_, rfl, spl_f rfl ?_⟩
  have s6 := s5.mod0 m6
  refine ⟨_, s6.cell 1 rfl rfl, _, s6.cell 1 rfl rfl, ?_⟩
  refine nholders_run _ _ fun w7 m7 => ⟨_, _, _, rfl, fun _ => fin_run (s6.mod0 m7).mod, fun h => absurd rfl h⟩

def roomL (k : Nat) : List CE := (List.range k).map fun j => ⟨(j + 1 : Nat), 0, 3, (j + 1 : Nat), ⟨1, (j + 1 : Nat), 1, 7⟩⟩
theorem room_look (k : Nat) (j : Nat) (hj : 1 ≤ j) : (look8 (roomL k) 3 j = none ↔ k < j) := by
  constructor
  · intro h
    have := look8_none h ⟨(j - 1 + 1 : Nat), 0, 3, (j - 1 + 1 : Nat), ⟨1, (j - 1 + 1 : Nat), 1, 7⟩⟩
    rcases Nat.lt_or_ge k j with z | z
    · exact z
    · exact absurd ⟨rfl, by simp only; omega⟩ (this (List.mem_map.2 ⟨j - 1, List.mem_range.2 (by omega), rfl⟩))
  · intro h
    cases hl : look8 (roomL k) 3 j with
    | none => rfl
    | some c =>
      obtain ⟨h1, h2, h3⟩ := look8_some hl
      obtain ⟨i, hi, rfl⟩ := List.mem_map.1 h1
      rw [List.mem_range] at hi
      simp only at h3
      omega
theorem room_free (k : Nat) : (k < 64 → free8 (roomL k) 3 = (k + 1 : Nat)) ∧ (64 ≤ k → free8 (roomL k) 3 = 0) := by
  rcases free8_spec (roomL k) 3 with ⟨h1, h2⟩ | ⟨j, h1, h2, h3, h4, h5⟩
  · refine ⟨fun h => absurd ((room_look k (k + 1) (by omega)).2 (by omega)) (h2 (k + 1) (by omega) (by omega)), fun _ => h1⟩
  · have h6 := (room_look k j h1).1 h4
    refine ⟨fun h => ?_, fun h => by omega⟩
    rw [h3]
    rcases Nat.lt_or_ge (k + 1) j with z | z
    · exact absurd ((room_look k (k + 1) (by omega)).2 (by omega)) (h5 (k + 1) (by omega) z)
    · have : j = k + 1 := by omega
      rw [this]
def roomS (k : Nat) : S8 := ⟨roomL (min k 64), (min k 64 : Nat)⟩
theorem room_add (k : Nat) (hk : k ≤ 66) : addS8 (roomS k) 3 ⟨1, (k + 1 : Nat), 1, 7⟩ = roomS (k + 1) ∧ (k < 64 → addV8 (roomS k) 3 ⟨1, (k + 1 : Nat), 1, 7⟩ = (((k + 1 : Nat) : Int), 0)) ∧ (64 ≤ k → addV8 (roomS k) 3 ⟨1, (k + 1 : Nat), 1, 7⟩ = (0, 105)) := by
  have hc : env12 3 ∧ May8 ⟨1, (k + 1 : Nat), 1, 7⟩ := ⟨by decide, .inr ⟨rfl, rfl⟩, by simp only; omega, by simp only; omega, by simp only; omega, by simp only; omega, by simp only; omega, by simp only; omega⟩
  obtain ⟨h1, h2⟩ := room_free (min k 64)
  have hf : free8 (roomS k).L 3 = free8 (roomL (min k 64)) 3 := rfl
  unfold addS8 addV8
  rw [if_pos hc, if_pos hc]
  unfold putS8 putV8
  rw [hf]
  by_cases hk : k < 64
  · have e : min k 64 = k := by omega
    have e1 : min (k + 1) 64 = k + 1 := by omega
    rw [e] at h1
    rw [e, h1 hk, if_neg (by omega), if_neg (by omega)]
    refine ⟨?_, fun _ => rfl, fun h => by omega⟩
    unfold roomS
    rw [e, e1]
    simp only [roomL, List.range_succ, List.map_append, List.map_cons, List.map_nil]
    rfl
  · have e : min k 64 = 64 := by omega
    have e1 : min (k + 1) 64 = 64 := by omega
    rw [e] at h2
    rw [e, h2 (by omega), if_pos rfl, if_pos rfl]
    refine ⟨?_, fun h => absurd h hk, fun _ => rfl⟩
    unfold roomS
    rw [e, e1]
theorem room_end (k : Nat) (hk : 2 ≤ k) : addV8 (dropS8 (roomS k) 3 2) 3 ⟨1, 99, 1, 1⟩ = (2, 0) := by
  have hc : env12 3 ∧ May8 ⟨1, 99, 1, 1⟩ := ⟨by decide, by decide⟩
  unfold addV8
  rw [if_pos hc]
  have hlk : look8 (roomS k).L 3 2 ≠ none := fun h => by
    have := (room_look (min k 64) 2 (by omega)).1 h
    omega
  cases hl : look8 (roomS k).L 3 2 with
  | none => exact absurd hl hlk
  | some g =>
    have hS : dropS8 (roomS k) 3 2 = ⟨(without (roomS k).L 3 2).map (reparent g), (roomS k).last⟩ := by unfold dropS8; rw [hl]
    rw [hS]
    have look : ∀ j : Nat, 1 ≤ j → (look8 ((without (roomS k).L 3 2).map (reparent g)) 3 j = none ↔ j = 2 ∨ look8 (roomS k).L 3 j = none) := fun j hj => by
      constructor
      · intro h
        by_cases h2 : j = 2
        · exact .inl h2
        · right
          cases hh : look8 (roomS k).L 3 j with
          | none => rfl
          | some c =>
            obtain ⟨z1, z2, z3⟩ := look8_some hh
            refine absurd ?_ (look8_none h (reparent g c) (List.mem_map.2 ⟨c, mem_without.2 ⟨z1, fun z => ?_⟩, rfl⟩))
            · rw [(reparent_same g c).2.1, (reparent_same g c).2.2.1]; exact ⟨z2, z3⟩
            · have := z.2; omega
      · intro h
        cases hh : look8 ((without (roomS k).L 3 2).map (reparent g)) 3 j with
        | none => rfl
        | some c =>
          obtain ⟨z1, z2, z3⟩ := look8_some hh
          obtain ⟨d, hd, rfl⟩ := List.mem_map.1 z1
          rw [(reparent_same g d).2.1] at z2
          rw [(reparent_same g d).2.2.1] at z3
          obtain ⟨y1, y2⟩ := mem_without.1 hd
          rcases h with rfl | h
          · exact absurd ⟨z2, z3⟩ y2
          · exact absurd ⟨z2, z3⟩ (look8_none h d y1)
    unfold putV8
    rcases free8_spec ((without (roomS k).L 3 2).map (reparent g)) 3 with ⟨h1, h2⟩ | ⟨j, h1, h2, h3, h4, h5⟩
    · exact absurd ((look 2 (by omega)).2 (.inl rfl)) (h2 2 (by omega) (by omega))
    · have hj2 : j = 2 := by
        rcases (look j h1).1 h4 with z | z
        · exact z
        · have z := (room_look (min k 64) j h1).1 z
          exact absurd ((look 2 (by omega)).2 (.inl rfl)) (h5 2 (by omega) (by omega))
      subst hj2
      simp only
      rw [h3, if_neg (by omega)]
      rfl

theorem room_run (w : World) (n : Int) (_hn : (Lit.int .i64 n).wf = true) : CallsR Try.prog F_januslaw08_CapsRoom #[.int .i64 n] w fun v w' => v = .bool true ∧ Mod [] w w' := by
  apply R_januslaw08_CapsRoom_ok
  simp only [R_januslaw08_CapsRoom, spl_decide, spl_bne, spl_beq]
  obtain ⟨N, hN, hN1⟩ : ∃ N : Nat, (if (if 66 < n then 66 else n) > 0 then if 66 < n then 66 else n else 0) = (N : Int) ∧ N ≤ 66 :=
    ⟨(if (if 66 < n then 66 else n) > 0 then if 66 < n then 66 else n else 0).toNat, by split <;> split <;> omega, by split <;> split <;> omega⟩
  rw [hN]
  refine pnew_run fun p F1 w1 h1 m1 b1 => ⟨_, rfl, spl_f rfl ?_⟩
  have s1 := (Sep.nil (Mod.refl [] w)).push (cpPart p _ F1) m1 h1 b1
  refine ⟨fun n i w' => ∃ (k : Nat) (F : List Nat), i = (k + 1 : Nat) ∧ k ≤ N ∧ n = N - k ∧ Sep w w' [cpPart p (roomS k) F], ⟨N, 0, F1, rfl, by omega, rfl, s1⟩, ?_⟩
  clear s1 h1 m1 b1
  rintro n i - w2 ⟨k, F, rfl, hk, rfl, s2⟩
  refine ⟨fun hle => ?_, fun hgt => ?_⟩
  · refine ⟨fun w' => ∃ F', Sep w w' [cpPart p (roomS (k + 1)) F'], ?_, ?_⟩
    · rintro - w' ⟨F', s'⟩
      exact ⟨N - (k + 1), by omega, k + 1, F', by rw [w64 (by omega) (by omega)]; omega, by omega, rfl, s'⟩
    refine frame_run _ 7 fun w3 m3 => ⟨_, _, _, _, rfl, ?_⟩
    have s3 := s2.mod0 m3
    obtain ⟨e1, e2, e3⟩ := room_add k (by omega)
    refine padd_run (s3.nth 0 rfl : CP w3 p _ F) 3 ⟨1, (k + 1 : Nat), 1, 7⟩ fun w4 F4 h4 m4 o4 => ⟨_, _, rfl, ?_⟩
    rw [e1] at h4
    have s4 := s3.step 0 rfl (cpPart p _ F4) h4 m4 o4
    refine ⟨fun h64 => ?_, fun h64 => ?_⟩
    · rw [e2 (by omega)]
      exact ⟨fun h => absurd rfl h, fun _ => ⟨fun h => absurd rfl h, fun _ => ⟨fun h => by omega, fun _ => ⟨F4, s4⟩⟩⟩⟩
    · rw [e3 (by omega)]
      exact ⟨fun _ => ⟨fun h => absurd rfl h, fun _ => ⟨F4, s4⟩⟩, fun h => by omega⟩
  · obtain rfl : k = N := by omega
    refine ⟨fun _ => fin_run s2.mod, fun h2 => ?_⟩
    refine pdrop_run (s2.nth 0 rfl : CP w2 p _ F) 3 2 fun w3 F3 h3 m3 o3 => ⟨_, _, rfl, ?_⟩
    have s3 := s2.step 0 rfl (cpPart p _ F3) h3 m3 o3
    refine frame_run 99 1 fun w4 m4 => ⟨_, _, _, _, rfl, ?_⟩
    have s4 := s3.mod0 m4
    refine padd_run (s4.nth 0 rfl : CP w4 p _ F3) 3 ⟨1, 99, 1, 1⟩ fun w5 F5 h5 m5 o5 => ⟨_, _, rfl, ?_⟩
    have s5 := s4.step 0 rfl (cpPart p _ F5) h5 m5 o5
    rw [room_end k (by omega)]
    exact ⟨fun _ => ⟨fun _ => fin_run s5.mod, fun h => absurd rfl h⟩, fun h => absurd rfl h⟩

end Go.Proofs
