/-
  '==' of arrays: of numbers; of pointers, with one that is all nil.
  'Ints' of the reference compares two rows.
  janusref01.Put: a number where it belongs.
  'Words' of the reference compares two rows.
-/
import Derived.Test.YtmpaiobapmpngaaDenC
import Derived.Test.YtmpaiobapmpngaaRes
set_option linter.unusedVariables false
set_option linter.unusedSimpArgs false
namespace Go.Den
open Go

/-- An array type of elements of one cell each. -/
def ArT (P : Program) (t : TypeId) (n : Nat) (e : TypeId) : Prop := P.underlying t = some (.array n e) ∧ P.cellsOf e = 1 ∧ ∃ i, P.info? e = some i

theorem part_cell1 {P : Program} {e : TypeId} {xs : Array Value} {off : Nat} {v : Value} {d : TypeDesc} (hu : P.underlying e = some d) (hd : (∃ k, d = .int k) ∨ ∃ k, d = .pointer k) (hx : xs[off]? = some v) (w : World) : (part e xs off).run P w = .ok v w := by
  rcases hd with ⟨k, rfl⟩ | ⟨k, rfl⟩ <;> simp [part, Go.isAgg, run_underlying hu, hx]

theorem eqItems_run {P : Program} {e : TypeId} {d : TypeDesc} (hu : P.underlying e = some d) (hd : (∃ k, d = .int k) ∨ ∃ k, d = .pointer k) {dd : Nat} {X Y : Array Value} (f : Nat → Bool) (w : World) : ∀ (is : List Nat),
    (∀ i ∈ is, ∃ x y, X[i * 1]? = some x ∧ Y[i * 1]? = some y ∧ (Op.equalIn dd e x y).run P w = .ok (f i) w) → (Op.eqItems dd e 1 X Y is).run P w = .ok (is.all f) w
  | [], _ => by simp [Op.eqItems]
  | i :: is, h => by
    obtain ⟨x, y, h1, h2, h3⟩ := h i (by simp)
    have ih := eqItems_run hu hd f w is fun j hj => h j (by simp [hj])
    simp only [Op.eqItems, Sem.run_bind, part_cell1 hu hd h1, part_cell1 hu hd h2, Result.andThen_ok, h3, List.all_cons]
    cases f i
    · simp
    · simpa using ih

theorem eqArr_K {P : Program} {t e : TypeId} {n : Nat} (h : ArT P t n e) {d : TypeDesc} (hu : P.underlying e = some d) (hd : (∃ k, d = .int k) ∨ ∃ k, d = .pointer k) {X Y : Array Value} (f : Nat → Bool)
    (hx : ∀ i, i < n → ∃ x y, X[i]? = some x ∧ Y[i]? = some y ∧ ∀ (dd : Nat) (w : World), (Op.equalIn (dd + 1) e x y).run P w = .ok (f i) w) {K : Bool → Prop} (hK : K ((List.range n).all f)) : eqAgg P t X Y K := by
  obtain ⟨ht, hc, i, hi⟩ := h
  refine ⟨_, fun w => ?_, hK⟩
  have : Op.equal t (.agg X) (.agg Y) = Op.equalIn (9998 + 1 + 1) t (.agg X) (.agg Y) := rfl
  rw [this, run_equalIn_array w _ X Y ht hi, hc]
  exact eqItems_run hu hd f w _ fun j hj => by
    obtain ⟨x, y, h1, h2, h3⟩ := hx j (by simpa using hj)
    exact ⟨x, y, by rw [Nat.mul_one]; exact h1, by rw [Nat.mul_one]; exact h2, h3 _ w⟩

/-- Pointers, and as many that are nil. -/
theorem eqNil_K {P : Program} {t e el : TypeId} {n : Nat} (h : ArT P t n e) (hu : P.underlying e = some (.pointer el)) {ps : List (Option Addr)} (hl : ps.length = n) {K : Bool → Prop} (hK : K (ps.all Option.isNone)) :
    eqAgg P t (ps.map Value.pointer).toArray (List.replicate n (Value.pointer none)).toArray K := by
  refine eqArr_K h hu (.inr ⟨_, rfl⟩) (fun i => (ps[i]?.getD none).isNone) (fun i hi => ?_) ?_
  · refine ⟨.pointer (ps[i]?.getD none), .pointer none, by simp [List.getElem?_eq_getElem (show i < ps.length by omega)], by simp [hi], fun dd w => ?_⟩
    cases (ps[i]?.getD none) <;> simp [Op.equalIn, run_underlying hu]
  · have e : (List.range n).all (fun i => (ps[i]?.getD none).isNone) = ps.all Option.isNone := by
      rw [Bool.eq_iff_iff, List.all_eq_true, List.all_eq_true]
      constructor
      · intro h p hp
        obtain ⟨i, hi⟩ := List.getElem?_of_mem hp
        have := h i (by have := (List.getElem?_eq_some_iff.1 hi).1; simp; omega)
        simpa [hi] using this
      · intro h i hi
        have hi' : i < ps.length := by simp at hi; omega
        have := h _ (List.getElem_mem hi')
        simpa [List.getElem?_eq_getElem hi'] using this
    rw [e]
    exact hK

/-- Two numbers each. -/
theorem eqTwo_K {P : Program} {t e : TypeId} {k : IntKind} (h : ArT P t 2 e) (hu : P.underlying e = some (.int k)) {a b c d : Int} {K : Bool → Prop} (hK : K (decide (a = c ∧ b = d))) : eqAgg P t #[.int k a, .int k b] #[.int k c, .int k d] K := by
  refine eqArr_K h hu (.inl ⟨_, rfl⟩) (fun i => if i = 0 then a == c else b == d) (fun i hi => ?_) ?_
  · rcases (show i = 0 ∨ i = 1 by omega) with rfl | rfl
    · exact ⟨_, _, rfl, rfl, fun dd w => by simp [Op.equalIn, run_underlying hu]⟩
    · exact ⟨_, _, rfl, rfl, fun dd w => by simp [Op.equalIn, run_underlying hu]⟩
  · have e : (List.range 2).all (fun i => if i = 0 then a == c else b == d) = decide (a = c ∧ b = d) := by
      rw [show List.range 2 = [0, 1] from rfl]
      simp [Bool.decide_and]
      by_cases h1 : a = c <;> by_cases h2 : b = d <;> simp [h1, h2]
    rw [e]
    exact hK

end Go.Den

set_option linter.unusedSimpArgs false
namespace Go.Proofs
open Go Go.Den

theorem ints_rd {w : World} {a a2 : Option Addr} {l l2 c c2 : Nat} {xs ys : List Int} {F G : List Nat} (hx : Rd w a l 1 (i64s xs) F) (hy : Rd w a2 l2 1 (i64s ys) G) (hl : l ≤ 9223372036854775807) {K : Value → World → Prop}
    (h : ∀ w', Mod [] w w' → K (.bool (decide (xs = ys))) w') : CallsR Try.prog F_janusref01_Ints #[.slice a l c, .slice a2 l2 c2] w K := by
  apply R_janusref01_Ints_ok
  have e1 := hx.i64
  have e2 := hy.i64
  simp only [R_janusref01_Ints, spl_bne, spl_decide, drK_eq]
  refine ⟨fun hne => ?_, fun heq => ?_⟩
  · have : decide (xs = ys) = false := by
      simp only [decide_eq_false_iff_not]
      rintro rfl
      omega
    rw [← this]
    exact h w (Mod.refl _ _)
  · have hll : l = l2 := by omega
    subst hll
    refine ⟨fun m i w1 => ∃ k : Nat, i = k ∧ k ≤ l ∧ m = l - k ∧ xs.take k = ys.take k ∧ Mod [] w w1, ⟨l, 0, by simp, by simp, by simp, by simp, Mod.refl _ _⟩, ?_⟩
    rintro m i - w1 ⟨k, rfl, hk, rfl, ht, hm⟩
    refine ⟨fun hlt => ?_, fun hge => ?_⟩
    · have hkl : k < l := by omega
      obtain ⟨ad, x, rfl, hx1, c1, -, -⟩ := (hx.mod0 hm.drew).i64at hkl
      obtain ⟨ad2, y, rfl, hy1, c2, -, -⟩ := (hy.mod0 hm.drew).i64at hkl
      simp only [nilK_some, Int.toNat_natCast]
      refine ⟨⟨by omega, by omega⟩, _, c1, ⟨by omega, by omega⟩, _, c2, fun hne => ?_, fun heq => ?_⟩
      · have : decide (xs = ys) = false := by
          simp only [decide_eq_false_iff_not]
          rintro rfl
          rw [hx1] at hy1
          exact hne (Option.some.inj hy1)
        rw [← this]
        exact h _ hm.drew
      · refine ⟨l - (k + 1), by omega, k + 1, by rw [w64 (by omega) (by omega)]; omega, by omega, rfl, ?_, hm.drew⟩
        have p1 := (List.getElem?_eq_some_iff.1 hx1).2
        have p2 := (List.getElem?_eq_some_iff.1 hy1).2
        rw [List.take_succ_eq_append_getElem (by omega), List.take_succ_eq_append_getElem (by omega), ht, p1, p2, heq]
    · have hkl : k = l := by omega
      subst hkl
      have : decide (xs = ys) = true := by
        simp only [decide_eq_true_eq]
        rw [List.take_of_length_le (by omega), List.take_of_length_le (by omega)] at ht
        exact ht
      rw [← this]
      exact h _ hm

end Go.Proofs

set_option linter.unusedSimpArgs false
namespace Go.Proofs
open Go Go.Den

theorem putL_split : ∀ (l : List Int) (n : Int) (k : Nat), (∀ x ∈ l.take k, x < n) → (∀ x, l[k]? = some x → ¬ x < n) → k ≤ l.length → putL l n = l.take k ++ [n] ++ l.drop (if l[k]? = some n then k + 1 else k)
  | [], n, k, _, _, hk => by
    have : k = 0 := by simpa using hk
    subst this
    simp [putL]
  | x :: l, n, 0, _, h, _ => by
    have := h x rfl
    unfold putL
    rw [if_neg this]
    by_cases hx : x = n
    · subst hx; simp
    · simp [hx]
  | x :: l, n, k + 1, h1, h2, hk => by
    have hx : x < n := h1 x (by simp)
    unfold putL
    rw [if_pos hx, putL_split l n k (fun y hy => h1 y (by simp [hy])) (fun y hy => h2 y (by simpa using hy)) (by simpa using hk)]
    have e : ((x :: l)[k + 1]? = some n) = (l[k]? = some n) := by simp
    simp only [e, List.take_succ_cons, List.cons_append]
    congr 1
    split <;> simp

theorem put_rd {w0 : World} {a : Option Addr} {l c : Nat} {xs : List Int} {F : List Nat} (hx : Rd w0 a l 1 (i64s xs) F) (hlc : l ≤ c) (hl : l ≤ 1000000) (n : Int) {K : Value → World → Prop}
    (hK : ∀ A L C w' G, SlB w' A L C 1 (i64s (putL xs n)) G → Beyond w0.heap.size G → Mod [] w0 w' → K (.slice A L C) w') : CallsR Try.prog F_janusref01_Put #[.slice a l c, .int .i64 n] w0 K := by
  apply R_janusref01_Put_ok
  simp only [R_janusref01_Put, newK_eq, spl_decide, spl_beq]
  have hlen := hx.i64
  refine ⟨fun A L C i w => ∃ (k : Nat) (G : List Nat), i = k ∧ k ≤ l ∧ L ≤ k ∧ (∀ x ∈ xs.take k, x < n) ∧ (∀ x, xs[k]? = some x → ¬ x < n) ∧ SlB w A L C 1 (i64s (xs.take k)) G ∧ Beyond w0.heap.size G ∧ Mod [] w0 w, ?_, ?_⟩
  · rintro A L C i - w1 ⟨k, G, rfl, hk, hL, hb, hn, hs1, hG1, hm1⟩
    refine push_K slT_int (by decide) hs1 hG1 hm1 (us := [.int .i64 n]) rfl (by simp [isCell]) (by omega) (by omega) fun A2 C2 w2 G2 hs2 hG2 hm2 _ _ => ⟨_, _, _, rfl, ?_⟩
    refine ⟨fun i w' => w' = w2 ∧ i = ((if xs[k]? = some n then k + 1 else k : Nat) : Int), ?_, ?_⟩
    · rintro i - w' ⟨rfl, rfl⟩
      obtain ⟨j, hj, hjl⟩ : ∃ j, j = (if xs[k]? = some n then k + 1 else k) ∧ j ≤ l := ⟨_, rfl, by
        split
        · rename_i h; have := (List.getElem?_eq_some_iff.1 h).1; omega
        · exact hk⟩
      rw [← hj]
      refine slK_rd (hx.mod0 hm2) hlc (L := j) (H := l) (.inl rfl) (.inr ⟨rfl, rfl⟩) hjl (Nat.le_refl _) fun a3 G3 hs3 hG3 => ?_
      have e3 : ((i64s xs).drop (j * 1)).take ((l - j) * 1) = i64s (xs.drop j) := by
        rw [i64s_drop, i64s_take, Nat.mul_one, Nat.mul_one]
        have : (xs.drop j).take (l - j) = xs.drop j := List.take_of_length_le (by simp; omega)
        rw [this]
      rw [e3] at hs3
      refine push_rd_K slT_int (by decide) hs2 hG2 hm2 hs3 (i64s_cell _) (by omega) (by omega) fun A4 C4 w4 G4 hs4 hG4 hm4 _ _ => ⟨_, _, _, rfl, hK A4 _ C4 w4 G4 ?_ hG4 hm4⟩
      rw [putL_split xs n k hb hn (by omega), ← hj, i64s_append, i64s_append]
      exact hs4
    · refine ⟨fun hlt => ?_, fun hge => ⟨rfl, ?_⟩⟩
      · obtain ⟨ad, x, rfl, hxk, hc, -, -⟩ := (hx.mod0 hm2).i64at (k := k) (by omega)
        rw [nilK_some, Int.toNat_natCast]
        refine ⟨⟨by omega, by omega⟩, x, hc, fun heq => ⟨rfl, ?_⟩, fun hne => ⟨rfl, ?_⟩⟩
        · subst heq
          rw [if_pos hxk, w64 (by omega) (by omega)]
          omega
        · rw [hxk, if_neg (by simpa using hne)]
      · rw [if_neg]
        rw [List.getElem?_eq_none (by omega)]
        simp
  · refine ⟨fun m A L C i w => ∃ (k : Nat) (G : List Nat), i = k ∧ k ≤ l ∧ m = l - k ∧ L ≤ k ∧ (∀ x ∈ xs.take k, x < n) ∧ SlB w A L C 1 (i64s (xs.take k)) G ∧ Beyond w0.heap.size G ∧ Mod [] w0 w, ⟨l, 0, [], rfl, by omega, rfl, by omega, by simp, SlB.nil _ 1, by simp [Beyond], Mod.refl _ _⟩, ?_⟩
    rintro m A L C i - w1 ⟨k, G, rfl, hk, rfl, hL, hb, hs1, hG1, hm1⟩
    refine ⟨fun hlt => ?_, fun hge => ⟨k, G, rfl, hk, hL, hb, fun x hx => (by rw [List.getElem?_eq_none (by omega)] at hx; cases hx), hs1, hG1, hm1⟩⟩
    obtain ⟨ad, x, rfl, hxk, hc, -, -⟩ := (hx.mod0 hm1).i64at (k := k) (by omega)
    simp only [nilK_some, Int.toNat_natCast]
    refine ⟨⟨by omega, by omega⟩, x, hc, fun hlt2 => ⟨⟨by omega, by omega⟩, x, hc, ?_⟩, fun hge => ⟨k, G, rfl, hk, hL, hb, fun y hy => (by rw [hxk] at hy; cases hy; exact hge), hs1, hG1, hm1⟩⟩
    refine push_K slT_int (by decide) hs1 hG1 hm1 (us := [.int .i64 x]) rfl (by simp [isCell]) (by omega) (by omega) fun A2 C2 w2 G2 hs2 hG2 hm2 _ _ => ⟨_, _, _, rfl, l - (k + 1), by omega, k + 1, G2, by rw [w64 (by omega) (by omega)]; omega, by omega, rfl, by omega, fun y hy => ?_, ?_, hG2, hm2⟩
    · rw [List.take_add_one, hxk] at hy
      rcases List.mem_append.1 hy with h | h
      · exact hb y h
      · simp at h; omega
    · rw [List.take_add_one, hxk, i64s_append]
      exact hs2

end Go.Proofs

set_option linter.unusedSimpArgs false
namespace Go.Proofs
open Go Go.Den

theorem words_rd {w : World} {a a2 : Option Addr} {l l2 c c2 : Nat} {xs ys : List Int} {F G : List Nat} (hx : Rd w a l 1 (u64s xs) F) (hy : Rd w a2 l2 1 (u64s ys) G) (hl : l ≤ 9223372036854775807) {K : Value → World → Prop}
    (h : ∀ w', Mod [] w w' → K (.bool (decide (xs = ys))) w') : CallsR Try.prog F_janusref01_Words #[.slice a l c, .slice a2 l2 c2] w K := by
  apply R_janusref01_Words_ok
  have e1 := hx.u64
  have e2 := hy.u64
  simp only [R_janusref01_Words, spl_bne, spl_decide, drK_eq]
  refine ⟨fun hne => ?_, fun heq => ?_⟩
  · have : decide (xs = ys) = false := by
      simp only [decide_eq_false_iff_not]
      rintro rfl
      omega
    rw [← this]
    exact h w (Mod.refl _ _)
  · have hll : l = l2 := by omega
    subst hll
    refine ⟨fun m i w1 => ∃ k : Nat, i = k ∧ k ≤ l ∧ m = l - k ∧ xs.take k = ys.take k ∧ Mod [] w w1, ⟨l, 0, by simp, by simp, by simp, by simp, Mod.refl _ _⟩, ?_⟩
    rintro m i - w1 ⟨k, rfl, hk, rfl, ht, hm⟩
    refine ⟨fun hlt => ?_, fun hge => ?_⟩
    · have hkl : k < l := by omega
      obtain ⟨ad, x, rfl, hx1, c1, -, -⟩ := (hx.mod0 hm.drew).u64at hkl
      obtain ⟨ad2, y, rfl, hy1, c2, -, -⟩ := (hy.mod0 hm.drew).u64at hkl
      simp only [nilK_some, Int.toNat_natCast]
      refine ⟨⟨by omega, by omega⟩, _, c1, ⟨by omega, by omega⟩, _, c2, fun hne => ?_, fun heq => ?_⟩
      · have : decide (xs = ys) = false := by
          simp only [decide_eq_false_iff_not]
          rintro rfl
          rw [hx1] at hy1
          exact hne (Option.some.inj hy1)
        rw [← this]
        exact h _ hm.drew
      · refine ⟨l - (k + 1), by omega, k + 1, by rw [w64 (by omega) (by omega)]; omega, by omega, rfl, ?_, hm.drew⟩
        have p1 := (List.getElem?_eq_some_iff.1 hx1).2
        have p2 := (List.getElem?_eq_some_iff.1 hy1).2
        rw [List.take_succ_eq_append_getElem (by omega), List.take_succ_eq_append_getElem (by omega), ht, p1, p2, heq]
    · have hkl : k = l := by omega
      subst hkl
      have : decide (xs = ys) = true := by
        simp only [decide_eq_true_eq]
        rw [List.take_of_length_le (by omega), List.take_of_length_le (by omega)] at ht
        exact ht
      rw [← this]
      exact h _ hm

end Go.Proofs
