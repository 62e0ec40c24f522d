/-
  Rows of words: lists that are cut into parts of 32, and their cells; 'Words' compares.
-/
import Derived.Test.YtgepekoanaammaaRes
set_option linter.unusedSimpArgs false
namespace Go.Proofs
open Go Go.Den

def u64s (l : List Int) : List Value := l.map (.int .u64)
theorem u64s_length (l : List Int) : (u64s l).length = l.length := by simp [u64s]
theorem u64s_get (l : List Int) (i : Nat) : (u64s l)[i]? = (l[i]?).map (.int .u64) := by simp [u64s]
theorem u64s_cell (l : List Int) : ∀ u ∈ u64s l, isCell u = true := by
  intro u hu
  simp only [u64s, List.mem_map] at hu
  obtain ⟨n, _, rfl⟩ := hu
  rfl
theorem u64s_rep (n : Nat) : u64s (List.replicate n 0) = List.replicate n (.int .u64 0) := by simp [u64s]
theorem u64s_set (l : List Int) (i : Nat) (v : Int) : (u64s l).set i (.int .u64 v) = u64s (l.set i v) := by simp [u64s, List.map_set]

def All32 (bs : List (List Int)) : Prop := ∀ b ∈ bs, b.length = 32
theorem All32.set {bs : List (List Int)} (h : All32 bs) (k : Nat) {ws : List Int} (hw : ws.length = 32) : All32 (bs.set k ws) := by
  intro b hb
  rcases List.mem_or_eq_of_mem_set hb with hb | rfl
  · exact h b hb
  · exact hw
theorem All32.get {bs : List (List Int)} (h : All32 bs) {k : Nat} {b : List Int} (hk : bs[k]? = some b) : b.length = 32 := h b (List.mem_of_getElem? hk)
theorem All32.rep (n : Nat) : All32 (List.replicate n (List.replicate 32 0)) := by
  intro b hb
  rw [List.eq_of_mem_replicate hb]; simp

theorem flatten_length {bs : List (List Int)} (h : All32 bs) : bs.flatten.length = bs.length * 32 := by
  induction bs with
  | nil => rfl
  | cons x bs ih =>
    have := ih (fun b hb => h b (by simp [hb]))
    have hx := h x (by simp)
    rw [List.flatten_cons, List.length_append, List.length_cons, this, hx]; omega
theorem flatten_take {bs : List (List Int)} (h : All32 bs) : ∀ (k : Nat) (b : List Int), bs[k]? = some b → (bs.flatten.drop (k * 32)).take 32 = b := by
  induction bs with
  | nil => intro k b hk; simp at hk
  | cons x bs ih =>
    intro k b hk
    have hx : x.length = 32 := h x (by simp)
    cases k with
    | zero => simp at hk; subst hk; simp [hx]
    | succ k =>
      have := ih (fun b hb => h b (by simp [hb])) k b (by simpa using hk)
      rw [List.flatten_cons, show (k + 1) * 32 = x.length + k * 32 by omega, List.drop_append, List.drop_eq_nil_of_le (by omega), List.nil_append, show x.length + k * 32 - x.length = k * 32 by omega]
      exact this
theorem flatten_get {bs : List (List Int)} (h : All32 bs) {k : Nat} {b : List Int} (hk : bs[k]? = some b) {j : Nat} (hj : j < 32) : bs.flatten[k * 32 + j]? = b[j]? := by
  have := flatten_take h k b hk
  rw [← this, List.getElem?_take, if_pos hj, List.getElem?_drop]
theorem flatten_set {bs : List (List Int)} (h : All32 bs) {ws : List Int} (hw : ws.length = 32) : ∀ (k : Nat), k < bs.length → (bs.set k ws).flatten = bs.flatten.take (k * 32) ++ ws ++ bs.flatten.drop (k * 32 + 32) := by
  induction bs with
  | nil => intro k hk; simp at hk
  | cons x bs ih =>
    intro k hk
    have hx : x.length = 32 := h x (by simp)
    cases k with
    | zero => simp [List.drop_append, hx, List.drop_eq_nil_of_le]
    | succ k =>
      have := ih (fun b hb => h b (by simp [hb])) k (by simpa using hk)
      have e1 : (x ++ bs.flatten).take ((k + 1) * 32) = x ++ bs.flatten.take (k * 32) := by
        rw [List.take_append, List.take_of_length_le (by omega), hx, show (k + 1) * 32 - 32 = k * 32 by omega]
      have e2 : (x ++ bs.flatten).drop ((k + 1) * 32 + 32) = bs.flatten.drop (k * 32 + 32) := by
        rw [List.drop_append, List.drop_eq_nil_of_le (by omega), hx, show (k + 1) * 32 + 32 - 32 = k * 32 + 32 by omega, List.nil_append]
      rw [List.set_cons_succ, List.flatten_cons, this, List.flatten_cons, e1, e2]
      simp
theorem flatten_set1 {bs : List (List Int)} (h : All32 bs) (v : Int) : ∀ (k : Nat) (b : List Int) (j : Nat), bs[k]? = some b → j < 32 → bs.flatten.set (k * 32 + j) v = (bs.set k (b.set j v)).flatten := by
  induction bs with
  | nil => intro k b j hk; simp at hk
  | cons x bs ih =>
    intro k b j hk hj
    have hx : x.length = 32 := h x (by simp)
    cases k with
    | zero =>
      simp only [List.getElem?_cons_zero, Option.some.injEq] at hk
      subst hk
      rw [List.flatten_cons, List.set_append_left _ _ (by omega)]
      simp
    | succ k =>
      have := ih (fun b hb => h b (by simp [hb])) k b j (by simpa using hk) hj
      rw [List.flatten_cons, List.set_append_right _ _ (by omega), hx, show (k + 1) * 32 + j - 32 = k * 32 + j by omega, this, List.set_cons_succ, List.flatten_cons]

theorem zrow_const {z : Value} {x : Value} {m : Nat} (h : z.cells.toList = List.replicate m x) (hm : 0 < m) (n : Nat) : zrow z n = List.replicate n x := by
  unfold zrow
  apply List.ext_getElem?
  intro i
  rw [h, List.getElem?_map, List.getElem?_replicate]
  by_cases hi : i < n
  · rw [if_pos hi, List.getElem?_range hi, Option.map_some, List.length_replicate]
    have : i % m < m := Nat.mod_lt _ hm
    simp [this]
  · rw [if_neg hi, List.getElem?_eq_none (by simpa using hi)]
    rfl

/-- A part of a row is a row. -/
theorem SlB.sub {w : World} {q o l c sz : Nat} {vs : List Value} {F : List Nat} (h : SlB w (some ⟨q, o, none⟩) l c sz vs F) {j m : Nat} (hj : j + m ≤ vs.length) : SlB w (some ⟨q, o + j, none⟩) m m 1 ((vs.drop j).take m) [q] := by
  rcases h with ⟨h, _⟩ | ⟨b, o', arr, T, ha, rfl, hb, hlc, hcap, hlen, hget⟩
  · cases h
  · cases ha
    have : l * sz ≤ c * sz := Nat.mul_le_mul_right _ hlc
    refine .inr ⟨q, o + j, arr, T, rfl, rfl, hb, Nat.le_refl _, by omega, by simp; omega, ?_⟩
    intro i hi
    simp at hi
    rw [List.getElem?_take, if_pos (by omega), List.getElem?_drop, Nat.add_assoc]
    exact hget (j + i) (by omega)

theorem words_eq {w : World} {a a2 : Option Addr} {l l2 c c2 : Nat} {xs ys : List Int} {F G : List Nat} (hx : SlB w a l c 1 (u64s xs) F) (hy : SlB w a2 l2 c2 1 (u64s ys) G) (hl : l ≤ 4611686018427387904) {K : Value → World → Prop}
    (h : ∀ w', Mod [] w w' → K (.bool (decide (xs = ys))) w') : CallsR Try.prog F_janusref01_Words #[.slice a l c, .slice a2 l2 c2] w K := by
  apply R_janusref01_Words_ok
  have e1 : xs.length = l := by have := hx.length; simpa [u64s] using this
  have e2 : ys.length = l2 := by have := hy.length; simpa [u64s] using this
  simp only [R_janusref01_Words, spl_bne, spl_decide, drK_eq]
  refine ⟨fun hne => ?_, fun heq => ?_⟩
  · have : decide (xs = ys) = false := by
      simp only [decide_eq_false_iff_not]
      rintro rfl
      omega
    rw [← this]
    exact h w (Mod.refl _ _)
  · have hll : l = l2 := by omega
    subst hll
    refine ⟨fun m i w1 => ∃ k : Nat, i = k ∧ k ≤ l ∧ m = l - k ∧ xs.take k = ys.take k ∧ Mod [] w w1, ⟨l, 0, by simp, by simp, by simp, by simp, Mod.refl _ _⟩, ?_⟩
    rintro m i - w1 ⟨k, rfl, hk, rfl, ht, hm⟩
    refine ⟨fun hlt => ?_, fun hge => ?_⟩
    · have hkl : k < l := by omega
      obtain ⟨b, o, rfl, rfl⟩ := hx.isNone (by omega)
      obtain ⟨b2, o2, rfl, rfl⟩ := hy.isNone (by omega)
      have hx1 := hx.mod hm.drew (by simp)
      have hy1 := hy.mod hm.drew (by simp)
      have c1 := hx1.cell (i := k) (by simp [u64s]; omega)
      have c2 := hy1.cell (i := k) (by simp [u64s]; omega)
      simp only [u64s, List.getElem?_map, List.getElem?_eq_getElem (show k < xs.length by omega), Option.map_some] at c1
      simp only [u64s, List.getElem?_map, List.getElem?_eq_getElem (show k < ys.length by omega), Option.map_some] at c2
      simp only [nilK_some, Int.toNat_natCast]
      refine ⟨⟨by omega, by omega⟩, _, c1, ⟨by omega, by omega⟩, _, c2, fun hne => ?_, fun heq => ?_⟩
      · have : decide (xs = ys) = false := by
          simp only [decide_eq_false_iff_not]
          rintro rfl
          exact hne rfl
        rw [← this]
        exact h _ hm.drew
      · refine ⟨l - (k + 1), by omega, k + 1, by rw [w64 (by omega) (by omega)]; omega, by omega, rfl, ?_, hm.drew⟩
        rw [List.take_succ_eq_append_getElem (by omega), List.take_succ_eq_append_getElem (by omega), ht, heq]
    · have hkl : k = l := by omega
      subst hkl
      have : decide (xs = ys) = true := by
        simp only [decide_eq_true_eq]
        rw [List.take_of_length_le (by omega), List.take_of_length_le (by omega)] at ht
        exact ht
      rw [← this]
      exact h _ hm

end Go.Proofs
