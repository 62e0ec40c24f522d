/-
  Layer 24: the order of those that ask; the round.
-/
import Derived.Test.YtciclhpbkbcdpaaC24d
set_option linter.unusedSimpArgs false
namespace Go.Proofs
open Go Go.Den

/-- The lock that those of 'xs' have asked for, in that order. -/
def stL : List Int → LS
  | [] => (-1, [])
  | x :: xs => (x, xs)
def addL (xs : List Int) (e : Int) : List Int := if e < 0 ∨ e ∈ xs then xs else xs ++ [e]
theorem stL_ask {xs : List Int} (hx : ∀ x ∈ xs, 0 ≤ x) (e : Int) : askS (stL xs) e = stL (addL xs e) := by
  unfold askS addL
  by_cases he : e < 0
  · rw [if_pos he, if_pos (.inl he)]
  rw [if_neg he]
  cases xs with
  | nil => simp [stL, he]
  | cons x xs =>
    have := hx x (by simp)
    rw [if_neg (by simp only [stL]; omega)]
    by_cases hin : e ∈ x :: xs
    · have e1 : (if e < 0 ∨ e ∈ x :: xs then x :: xs else x :: xs ++ [e]) = x :: xs := if_pos (.inr hin)
      rw [e1]
      refine if_neg ?_
      rintro ⟨h1, h2⟩
      rcases List.mem_cons.1 hin with h | h
      · exact h1 h.symm
      · exact h2 h
    · have e1 : (if e < 0 ∨ e ∈ x :: xs then x :: xs else x :: xs ++ [e]) = x :: xs ++ [e] := if_neg fun h => h.elim he hin
      rw [e1]
      simp only [List.mem_cons, not_or] at hin
      exact if_pos ⟨fun h => hin.1 h.symm, hin.2⟩
theorem stL_leave {x : Int} (xs : List Int) (hx : 0 ≤ x) : leaveS (stL (x :: xs)) x = stL xs ∧ leaveV (stL (x :: xs)) x = ((stL xs).1, 0) := by
  have h : ¬ (x < 0 ∨ (stL (x :: xs)).1 ≠ x) := by
    rintro (h | h)
    · omega
    · exact h rfl
  have e : leaveS (stL (x :: xs)) x = stL xs := by
    unfold leaveS
    rw [if_neg h]
    cases xs <;> rfl
  exact ⟨e, by unfold leaveV; rw [if_neg h, e]⟩
theorem stL_len (xs : List Int) : (stL xs).2.length ≤ xs.length := by cases xs <;> simp [stL]
theorem addL_nn {xs : List Int} (hx : ∀ x ∈ xs, 0 ≤ x) (e : Int) : ∀ x ∈ addL xs e, 0 ≤ x := by
  intro x h
  unfold addL at h
  split at h
  · exact hx x h
  · rename_i hn
    rcases List.mem_append.1 h with h | h
    · exact hx x h
    · simp at h; omega

theorem order_run (w : World) (a : Option Addr) (l c : Nat) (hin : SlIn w 1 Q_int a l c) : CallsR Try.prog F_januslaw24_LocksOrder #[.slice a l c] w fun v w' => v = .bool true ∧ Mod [] w w' := by
  apply R_januslaw24_LocksOrder_ok
  simp only [R_januslaw24_LocksOrder, newK_eq, drK_eq]
  refine new_run w fun p F1 w1 h1 m1 b1 => ⟨_, rfl, ?_⟩
  simp only [Option.isNone_some, spl_false, spl_decide, spl_bne, spl_beq]
  have s1 : Sep w w1 [sl none 0 0 1 (i64s []) [], lk p (stL []) F1] := ((Sep.nil (Mod.refl [] w)).push (lk p (stL []) F1) m1 h1 b1).push (sl none 0 0 1 [] []) (Mod.refl _ _) (SlB.nil w1 1) (by simp [Beyond, sl])
  have hlle := hin.le
  refine ⟨fun A L C w' => ∃ (xs : List Int) (F G : List Nat), L ≤ 100 ∧ (∀ x ∈ xs, 0 ≤ x) ∧ Sep w w' [sl A L C 1 (i64s xs) G, lk p (stL xs) F], ?_, ?_⟩
  · rintro A L C - w2 ⟨xs, F, G, hL, hnn, s2⟩
    have hs2 : SlB w2 A L C 1 (i64s xs) G := s2.nth 0 rfl
    have hlen := hs2.i64
    refine ⟨fun n i w' => ∃ (k : Nat) (F : List Nat), i = k ∧ k ≤ L ∧ n = L - k ∧ Sep w w' [sl A L C 1 (i64s xs) G, lk p (stL (xs.drop k)) F], ⟨L, 0, F, rfl, by omega, rfl, s2⟩, ?_⟩
    clear s2 hs2
    rintro n i - w3 ⟨k, F, rfl, hk, rfl, s3⟩
    refine ⟨fun hlt => ?_, fun hge => ?_⟩
    · refine ⟨fun w' => ∃ F, Sep w w' [sl A L C 1 (i64s xs) G, lk p (stL (xs.drop (k + 1))) F], ?_, ?_⟩
      · rintro - w4 ⟨F, s4⟩
        exact ⟨L - (k + 1), by omega, k + 1, F, by rw [w64 (by omega) (by omega)]; omega, by omega, rfl, s4⟩
      have s4 := s3.mod0 ((Mod.refl [] w3).drew)
      generalize w3.drew = w4 at s4 ⊢
      have hs4 : SlB w4 A L C 1 (i64s xs) G := s4.nth 0 rfl
      obtain ⟨ad, x, rfl, hx, hc, rfl, -⟩ := hs4.rd.i64at (k := k) (by omega)
      have hdr : xs.drop k = x :: xs.drop (k + 1) := by
        obtain ⟨h1, h2⟩ := List.getElem?_eq_some_iff.1 hx
        rw [List.drop_eq_getElem_cons h1, h2]
      have hx0 : 0 ≤ x := hnn x (List.mem_of_getElem? hx)
      simp only [nilK_some, Int.toNat_natCast]
      refine ⟨[ad.block], ⟨by omega, by omega⟩, by simp [add_block], x, hc, ?_⟩
      have hl4 : LkP w4 p (stL (x :: xs.drop (k + 1))) F := by rw [← hdr]; exact s4.nth 1 rfl
      refine holder_run hl4 ⟨_, rfl, fun _ _ => rfl, fun h => absurd rfl h, fun _ => ⟨⟨by omega, by omega⟩, x, hc, ?_⟩⟩
      have hsl := stL_len (x :: xs.drop (k + 1))
      rw [← hdr, List.length_drop] at hsl
      refine leave_run hl4 (by rw [← hdr]; omega) x fun w5 F5 h5 m5 o5 => ?_
      obtain ⟨e1, e2⟩ := stL_leave (xs.drop (k + 1)) hx0
      rw [e1] at h5
      rw [e2]
      have s5 := s4.step 1 rfl (lk p _ F5) h5 m5 o5
      have hs5 : SlB w5 (some ad) L C 1 (i64s xs) [ad.block] := s5.nth 0 rfl
      refine ⟨_, _, rfl, fun h => absurd rfl h, fun _ => ?_⟩
      rw [w64 (by omega) (by omega)]
      refine ⟨fun hlt1 => ?_, fun hge1 => ?_⟩
      · obtain ⟨ad', y, hy0, hy, hcy, -⟩ := hs5.rd.i64at (k := k + 1) (by omega)
        cases hy0
        have hdr1 : xs.drop (k + 1) = y :: xs.drop (k + 2) := by
          obtain ⟨h1, h2⟩ := List.getElem?_eq_some_iff.1 hy
          rw [List.drop_eq_getElem_cons h1, h2]
        refine ⟨⟨by omega, by omega⟩, y, by rw [show ((k : Int) + 1).toNat = k + 1 by omega]; exact hcy, ?_⟩
        have e3 : (stL (xs.drop (k + 1))).1 = y := by rw [hdr1]; rfl
        exact ⟨fun h => absurd e3 h, fun _ => ⟨fun h => absurd h (by omega), fun _ => ⟨F5, s5⟩⟩⟩
      · have e3 : xs.drop (k + 1) = [] := List.drop_eq_nil_of_le (by omega)
        refine ⟨fun _ => ⟨fun h => absurd (by rw [e3]; rfl) h, fun _ => ⟨F5, s5⟩⟩, fun _ => ⟨F5, s5⟩⟩
    · have e3 : xs.drop k = [] := List.drop_eq_nil_of_le (by omega)
      refine holder_run (s3.nth 1 rfl : LkP w3 p (stL (xs.drop k)) F) ⟨_, rfl, fun _ => ?_, fun h => absurd (by rw [e3]; rfl) h⟩
      exact awake_run fun w' hm => ⟨_, rfl, rfl, s3.mod.trans' hm⟩
  · refine ⟨fun n A L C i w' => ∃ (k : Nat) (xs : List Int) (F G : List Nat), i = k ∧ k ≤ l ∧ k ≤ 100 ∧ n = l - k ∧ L ≤ k ∧ (∀ x ∈ xs, 0 ≤ x) ∧ Sep w w' [sl A L C 1 (i64s xs) G, lk p (stL xs) F], ⟨l, 0, [], F1, [], rfl, by omega, by omega, rfl, by omega, by simp, s1⟩, ?_⟩
    clear s1 h1 m1 b1
    rintro n A L C i - w3 ⟨k, xs, F, G, rfl, hk, h100, rfl, hL, hnn, s3⟩
    refine ⟨fun hlt => ⟨fun h3 => ?_, fun _ => ⟨xs, F, G, by omega, hnn, s3⟩⟩, fun _ => ⟨xs, F, G, by omega, hnn, s3⟩⟩
    have hkl : k < l := by omega
    obtain ⟨ad, cs, rfl, hadlt, ⟨e, rfl, wfe⟩, -, hcell⟩ := hin.at hkl
    have cell : ∀ {u : World}, Mod [] w u → u.cell? (Addr.add ad k) = some (.int .i64 e) := fun hm => by
      rw [hm.cell (by rw [add_block]; exact hadlt)]
      have := hcell 0 (by decide); rw [add_zero, Nat.mul_one] at this; exact this
    simp only [nilK_some, Int.toNat_natCast]
    refine ⟨fun A L C w' => ∃ (xs : List Int) (F G : List Nat), L ≤ k + 1 ∧ (∀ x ∈ xs, 0 ≤ x) ∧ Sep w w' [sl A L C 1 (i64s xs) G, lk p (stL xs) F], ?_, ⟨by omega, by omega⟩, e, cell s3.mod, ?_⟩
    · rintro A L C - w4 ⟨xs, F, G, h1, h2, h3⟩
      exact ⟨l - (k + 1), by omega, k + 1, xs, F, G, by rw [w64 (by omega) (by omega)]; omega, by omega, by omega, rfl, h1, h2, h3⟩
    have hs3 : SlB w3 A L C 1 (i64s xs) G := s3.nth 0 rfl
    have hlen := hs3.i64
    have hsl := stL_len xs
    refine ask_run (s3.nth 1 rfl : LkP w3 p (stL xs) F) (by omega) e fun w4 F4 h4 m4 o4 => ⟨_, rfl, ?_⟩
    have s4 := s3.step 1 rfl (lk p _ F4) h4 m4 o4
    have hask := stL_ask hnn e
    have hgot : askB (stL xs) e = (decide (0 ≤ e) && ((stL (addL xs e)).1 == e)) := by unfold askB; rw [hask]
    rw [hask] at s4
    rw [hgot]
    have hnn' := addL_nn hnn e
    refine ⟨fun A L C w' => ∃ (F G : List Nat), L ≤ k + 1 ∧ Sep w w' [sl A L C 1 (i64s (addL xs e)) G, lk p (stL (addL xs e)) F], ?_, ?_⟩
    · rintro A L C - w5 ⟨F5, G5, hL5, s5⟩
      have s5 := s5.mod0 ((Mod.refl [] w5).drew)
      generalize w5.drew = w5 at s5 ⊢
      have done : ∃ (xs : List Int) (F G : List Nat), L ≤ k + 1 ∧ (∀ x ∈ xs, 0 ≤ x) ∧ Sep w w5 [sl A L C 1 (i64s xs) G, lk p (stL xs) F] := ⟨_, F5, G5, hL5, hnn', s5⟩
      refine ⟨⟨by omega, by omega⟩, e, cell s5.mod, fun hge => ⟨⟨by omega, by omega⟩, e, cell s5.mod, ?_⟩, fun hlt => spl_f ?_ done⟩
      · have hs5 : SlB w5 A L C 1 (i64s (addL xs e)) G5 := s5.nth 0 rfl
        have hl5 := hs5.i64
        obtain ⟨y, ys, hy⟩ : ∃ y ys, addL xs e = y :: ys := by
          unfold addL
          split
          · rename_i h
            rcases h with h | h
            · omega
            · cases xs with
              | nil => cases h
              | cons y ys => exact ⟨y, ys, rfl⟩
          · cases xs with
            | nil => exact ⟨e, [], rfl⟩
            | cons y ys => exact ⟨y, _, rfl⟩
        rw [hy] at hl5
        simp only [List.length_cons] at hl5
        obtain ⟨ad5, y', rfl, hy', hc, -⟩ := hs5.rd.i64at (k := 0) (by omega)
        rw [hy] at hy'
        obtain rfl : y = y' := by simpa using hy'
        rw [add_zero] at hc
        rw [nilK_some]
        refine ⟨⟨by omega, by omega⟩, y, hc, spl_f ?_ done⟩
        rw [hy, decide_eq_true (by omega : 0 ≤ e), Bool.true_and]
        show (!((y == e) == (e == y))) = false
        rw [show (y == e) = (e == y) from BEq.comm]
        simp
      · rw [decide_eq_false (by omega)]
        rfl
    · have hs4 : SlB w4 A L C 1 (i64s xs) G := s4.nth 0 rfl
      refine ⟨⟨by omega, by omega⟩, e, cell s4.mod, fun hge => ⟨⟨by omega, by omega⟩, e, cell s4.mod, ?_⟩, fun hlt => ?_⟩
      · refine has_rd hs4.rd (by omega) e ⟨_, rfl, ?_⟩
        rw [spl_decide]
        refine ⟨fun hin => ⟨F4, G, by omega, ?_⟩, fun hnin => ⟨⟨by omega, by omega⟩, e, cell s4.mod, ?_⟩⟩
        · have : addL xs e = xs := by unfold addL; rw [if_pos (.inr hin)]
          rw [this] at s4 ⊢
          exact s4
        · refine grow_K slT_int (by decide) hs4 (us := [.int .i64 e]) rfl (by simp [isCell]) (by omega) (by omega) fun A' C' w6 G' hs6 m6 o6 => ⟨_, _, _, rfl, F4, G', by omega, ?_⟩
          have : addL xs e = xs ++ [e] := by unfold addL; rw [if_neg fun h => h.elim (by omega) hnin]
          have s6 := s4.step 0 rfl (sl A' (L + 1) C' 1 (i64s (addL xs e)) G') (by rw [this, i64s_append]; exact hs6) m6 o6
          exact s6
      · have : addL xs e = xs := by unfold addL; rw [if_pos (.inl (by omega))]
        rw [this] at s4 ⊢
        exact ⟨F4, G, by omega, s4⟩

end Go.Proofs
