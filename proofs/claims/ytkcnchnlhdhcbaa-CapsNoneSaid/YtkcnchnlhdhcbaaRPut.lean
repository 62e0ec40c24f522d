/-
  janusref01.Put: a number where it belongs.
-/
import Derived.Test.YtkcnchnlhdhcbaaU64
import Derived.Test.YtkcnchnlhdhcbaaDen14
import Derived.Test.YtkcnchnlhdhcbaaSorted
import Derived.Test.YtkcnchnlhdhcbaaRes
set_option linter.unusedSimpArgs false
namespace Go.Proofs
open Go Go.Den

theorem putL_split : ∀ (l : List Int) (n : Int) (k : Nat), (∀ x ∈ l.take k, x < n) → (∀ x, l[k]? = some x → ¬ x < n) → k ≤ l.length → putL l n = l.take k ++ [n] ++ l.drop (if l[k]? = some n then k + 1 else k)
  | [], n, k, _, _, hk => by
    have : k = 0 := by simpa using hk
    subst this
    simp [putL]
  | x :: l, n, 0, _, h, _ => by
    have := h x rfl
    unfold putL
    rw [if_neg this]
    by_cases hx : x = n
    · subst hx; simp
    · simp [hx]
  | x :: l, n, k + 1, h1, h2, hk => by
    have hx : x < n := h1 x (by simp)
    unfold putL
    rw [if_pos hx, putL_split l n k (fun y hy => h1 y (by simp [hy])) (fun y hy => h2 y (by simpa using hy)) (by simpa using hk)]
    have e : ((x :: l)[k + 1]? = some n) = (l[k]? = some n) := by simp
    simp only [e, List.take_succ_cons, List.cons_append]
    congr 1
    split <;> simp

theorem put_rd {w0 : World} {a : Option Addr} {l c : Nat} {xs : List Int} {F : List Nat} (hx : Rd w0 a l 1 (i64s xs) F) (hlc : l ≤ c) (hl : l ≤ 1000000) (n : Int) {K : Value → World → Prop}
    (hK : ∀ A L C w' G, SlB w' A L C 1 (i64s (putL xs n)) G → Beyond w0.heap.size G → Mod [] w0 w' → K (.slice A L C) w') : CallsR Try.prog F_janusref01_Put #[.slice a l c, .int .i64 n] w0 K := by
  apply R_janusref01_Put_ok
  simp only [R_janusref01_Put, newK_eq, spl_decide, spl_beq]
  have hlen := hx.i64
  refine ⟨fun A L C i w => ∃ (k : Nat) (G : List Nat), i = k ∧ k ≤ l ∧ L ≤ k ∧ (∀ x ∈ xs.take k, x < n) ∧ (∀ x, xs[k]? = some x → ¬ x < n) ∧ SlB w A L C 1 (i64s (xs.take k)) G ∧ Beyond w0.heap.size G ∧ Mod [] w0 w, ?_, ?_⟩
  · rintro A L C i - w1 ⟨k, G, rfl, hk, hL, hb, hn, hs1, hG1, hm1⟩
    refine push_K slT_int (by decide) hs1 hG1 hm1 (us := [.int .i64 n]) rfl (by simp [isCell]) (by omega) (by omega) fun A2 C2 w2 G2 hs2 hG2 hm2 _ _ => ⟨_, _, _, rfl, ?_⟩
    refine ⟨fun i w' => w' = w2 ∧ i = ((if xs[k]? = some n then k + 1 else k : Nat) : Int), ?_, ?_⟩
    · rintro i - w' ⟨rfl, rfl⟩
      obtain ⟨j, hj, hjl⟩ : ∃ j, j = (if xs[k]? = some n then k + 1 else k) ∧ j ≤ l := ⟨_, rfl, by
        split
        · rename_i h; have := (List.getElem?_eq_some_iff.1 h).1; omega
        · exact hk⟩
      rw [← hj]
      refine slK_rd (hx.mod0 hm2) hlc (L := j) (H := l) (.inl rfl) (.inr ⟨rfl, rfl⟩) hjl (Nat.le_refl _) fun a3 G3 hs3 hG3 => ?_
      have e3 : ((i64s xs).drop (j * 1)).take ((l - j) * 1) = i64s (xs.drop j) := by
        rw [i64s_drop, i64s_take, Nat.mul_one, Nat.mul_one]
        have : (xs.drop j).take (l - j) = xs.drop j := List.take_of_length_le (by simp; omega)
        rw [this]
      rw [e3] at hs3
      refine push_rd_K slT_int (by decide) hs2 hG2 hm2 hs3 (i64s_cell _) (by omega) (by omega) fun A4 C4 w4 G4 hs4 hG4 hm4 _ _ => ⟨_, _, _, rfl, hK A4 _ C4 w4 G4 ?_ hG4 hm4⟩
      rw [putL_split xs n k hb hn (by omega), ← hj, i64s_append, i64s_append]
      exact hs4
    · refine ⟨fun hlt => ?_, fun hge => ⟨rfl, ?_⟩⟩
      · obtain ⟨ad, x, rfl, hxk, hc, -, -⟩ := (hx.mod0 hm2).i64at (k := k) (by omega)
        rw [nilK_some, Int.toNat_natCast]
        refine ⟨⟨by omega, by omega⟩, x, hc, fun heq => ⟨rfl, ?_⟩, fun hne => ⟨rfl, ?_⟩⟩
        · subst heq
          rw [if_pos hxk, w64 (by omega) (by omega)]
          omega
        · rw [hxk, if_neg (by simpa using hne)]
      · rw [if_neg]
        rw [List.getElem?_eq_none (by omega)]
        simp
  · refine ⟨fun m A L C i w => ∃ (k : Nat) (G : List Nat), i = k ∧ k ≤ l ∧ m = l - k ∧ L ≤ k ∧ (∀ x ∈ xs.take k, x < n) ∧ SlB w A L C 1 (i64s (xs.take k)) G ∧ Beyond w0.heap.size G ∧ Mod [] w0 w, ⟨l, 0, [], rfl, by omega, rfl, by omega, by simp, SlB.nil _ 1, by simp [Beyond], Mod.refl _ _⟩, ?_⟩
    rintro m A L C i - w1 ⟨k, G, rfl, hk, rfl, hL, hb, hs1, hG1, hm1⟩
    refine ⟨fun hlt => ?_, fun hge => ⟨k, G, rfl, hk, hL, hb, fun x hx => (by rw [List.getElem?_eq_none (by omega)] at hx; cases hx), hs1, hG1, hm1⟩⟩
    obtain ⟨ad, x, rfl, hxk, hc, -, -⟩ := (hx.mod0 hm1).i64at (k := k) (by omega)
    simp only [nilK_some, Int.toNat_natCast]
    refine ⟨⟨by omega, by omega⟩, x, hc, fun hlt2 => ⟨⟨by omega, by omega⟩, x, hc, ?_⟩, fun hge => ⟨k, G, rfl, hk, hL, hb, fun y hy => (by rw [hxk] at hy; cases hy; exact hge), hs1, hG1, hm1⟩⟩
    refine push_K slT_int (by decide) hs1 hG1 hm1 (us := [.int .i64 x]) rfl (by simp [isCell]) (by omega) (by omega) fun A2 C2 w2 G2 hs2 hG2 hm2 _ _ => ⟨_, _, _, rfl, l - (k + 1), by omega, k + 1, G2, by rw [w64 (by omega) (by omega)]; omega, by omega, rfl, by omega, fun y hy => ?_, ?_, hG2, hm2⟩
    · rw [List.take_add_one, hxk] at hy
      rcases List.mem_append.1 hy with h | h
      · exact hb y h
      · simp at h; omega
    · rw [List.take_add_one, hxk, i64s_append]
      exact hs2

end Go.Proofs
