/-
  Layer 19: 'Make'; pipes that are none.
-/
import Derived.Test.YtjlgbofgmjplaaaC19d
set_option linter.unusedSimpArgs false
namespace Go.Proofs
open Go Go.Den

theorem pipes_make {w : World} {p : Nat} {l : List (Option (List UInt8))} {F : List Nat} (h : PipesP w p l F) {K : Value → World → Prop} (h0 : (∀ i < 16, l[i]? ≠ some none) → K (.tuple #[.int .i64 0, .int .i64 11]) w)
    (h1 : ∀ (k : Nat) (w' : World) (F' : List Nat), k < 16 → l[k]? = some none → (∀ i < k, l[i]? ≠ some none) → PipesP w' p (l.set k (some [])) F' → Mod F w w' → Own w F F' → K (.tuple #[.int .i64 (k : Int), .int .i64 0]) w') :
    CallsR Try.prog F_pipes_Pipes_Make #[.pointer (some ⟨p, 0, none⟩)] w K := by
  apply R_pipes_Pipes_Make_ok
  have hlt := h.lt
  obtain ⟨ps, T, hp, hl, hll, hr, hn, hd, hpp, rfl⟩ := h
  simp only [R_pipes_Pipes_Make, Option.isNone_some, spl_false, nilK_some, slK, slA, sOK, sM]
  refine ⟨trivial, fun _ => rfl, trivial, trivial, ?_⟩
  simp only [show ¬ ((16 : Nat) = 0) by decide, if_false, Option.map_some, addr_add, Nat.zero_mul, Nat.add_zero, Nat.sub_zero]
  apply R_slices_Index_pipes_ring_pipes_ring_ok
  simp only [R_slices_Index_pipes_ring_pipes_ring, spl_decide, nilK_some, addr_add, Nat.zero_add, cell_get hp]
  have full : ∀ i, i < 16 → ps[i]? ≠ some none → l[i]? ≠ some none := fun i hi hne hln => by
    have hg : ps[i]? = some ps[i] := List.getElem?_eq_getElem (by omega)
    cases hc : ps[i] with
    | none => rw [hc] at hg; exact hne hg
    | some r =>
      rw [hc] at hg
      obtain ⟨bs, hb, _⟩ := hr i r hg
      rw [hln] at hb
      cases hb
  refine ⟨fun m i w' => ∃ j : Nat, i = j ∧ j ≤ 16 ∧ m = 16 - j ∧ w' = w ∧ ∀ i < j, l[i]? ≠ some none, ⟨16, 0, rfl, by omega, rfl, rfl, by simp⟩, ?_⟩
  rintro m i - w2 ⟨j, rfl, hj, rfl, rfl, hbef⟩
  refine ⟨fun hlt2 => ?_, fun hge => ⟨_, rfl, fun _ => h0 fun i hi => hbef i (by omega), fun h => absurd (by decide) h⟩⟩
  have hj16 : j < 16 := by omega
  have hg : ps[j]? = some ps[j] := List.getElem?_eq_getElem (by omega)
  cases hc : ps[j] with
  | some r =>
    rw [hc] at hg
    refine ⟨⟨by omega, by omega⟩, some ⟨r, 0, none⟩, by rw [cell_get hp]; simp [hg, ptrOf], cells61, trivial, spl_f rfl ⟨16 - (j + 1), by omega, j + 1, by rw [w64 (by omega) (by omega)]; omega, by omega, rfl, rfl, fun i hi => ?_⟩⟩
    rcases Nat.lt_or_ge i j with h | h
    · exact hbef i h
    · obtain rfl : i = j := by omega
      exact full i hj16 (by rw [hg]; simp)
  | none =>
    rw [hc] at hg
    refine ⟨⟨by omega, by omega⟩, none, by rw [cell_get hp]; simp [hg, ptrOf], cells61, trivial, spl_t rfl ⟨_, rfl, fun h => by omega, fun _ => ?_⟩⟩
    rw [newK_eq]
    refine ⟨⟨by omega, by omega⟩, ?_⟩
    have hp1 := alloc_get (.cells #[.int .u8 0, .int .u8 0, .int .u8 0, .int .u8 0, .int .u8 0, .int .u8 0, .int .u8 0, .int .u8 0, .int .i64 0, .int .i64 0] 61) hp
    have hnew := alloc_new w2 (.cells #[.int .u8 0, .int .u8 0, .int .u8 0, .int .u8 0, .int .u8 0, .int .u8 0, .int .u8 0, .int .u8 0, .int .i64 0, .int .i64 0] 61)
    have hplt := lt_of_get hp
    rw [Int.toNat_natCast]
    refine stK_of hp1 (by simp; omega) ?_
    simp only [splice_cons, splice_nil]
    refine h1 j _ (p :: (ps.set j (some w2.heap.size)).filterMap _root_.id) hj16 (hn j hg) hbef ⟨ps.set j (some w2.heap.size), T, ?_, by simpa using hl, by simpa using hll, fun i q hi => ?_, fun i hi => ?_, fun i i' q hi hi' => ?_, fun i hi => ?_, rfl⟩ (((Mod.refl _ w2).alloc _).upd (.inl (by simp)) _) ?_
    · rw [upd_same hp1, List.map_set]
      simp [ptrOf]
    · rw [List.getElem?_set] at hi ⊢
      by_cases hik : j = i
      · rw [if_pos hik, if_pos (by omega)] at hi
        rw [if_pos hik, if_pos (by omega)]
        obtain rfl : w2.heap.size = q := Option.some.inj (Option.some.inj hi)
        refine ⟨[], rfl, _, 61, 0, (upd_ne _ (by omega)).trans hnew, rfl, rfl, rfl, by omega, by simp, fun i hi => ⟨0, ?_⟩, fun i hi => by simp at hi⟩
        match i, hi with
        | 0, _ | 1, _ | 2, _ | 3, _ | 4, _ | 5, _ | 6, _ | 7, _ => rfl
      · rw [if_neg hik] at hi ⊢
        obtain ⟨bq, hbq, hrq⟩ := hr i q hi
        have hql := hrq.lt
        exact ⟨bq, hbq, hrq.keep ((upd_ne _ (by rintro rfl; exact hpp i hi)).trans (alloc_old _ hql))⟩
    · rw [List.getElem?_set] at hi ⊢
      by_cases hik : j = i
      · rw [if_pos hik] at hi; split at hi <;> cases hi
      · rw [if_neg hik] at hi ⊢
        exact hn i hi
    · rw [List.getElem?_set] at hi hi'
      have hlq : ∀ i q, ps[i]? = some (some q) → q < w2.heap.size := fun i q h => by
        obtain ⟨_, _, hrq⟩ := hr i q h
        exact hrq.lt
      by_cases hik : j = i <;> by_cases hik' : j = i'
      · omega
      · rw [if_pos hik, if_pos (by omega)] at hi
        rw [if_neg hik'] at hi'
        have := hlq i' q hi'
        have := Option.some.inj (Option.some.inj hi)
        omega
      · rw [if_pos hik', if_pos (by omega)] at hi'
        rw [if_neg hik] at hi
        have := hlq i q hi
        have := Option.some.inj (Option.some.inj hi')
        omega
      · rw [if_neg hik] at hi
        rw [if_neg hik'] at hi'
        exact hd i i' q hi hi'
    · rw [List.getElem?_set] at hi
      by_cases hik : j = i
      · rw [if_pos hik, if_pos (by omega)] at hi
        have := Option.some.inj (Option.some.inj hi)
        omega
      · rw [if_neg hik] at hi
        exact hpp i hi
    · intro b hb
      simp only [List.mem_cons] at hb ⊢
      rcases hb with rfl | hb
      · exact .inl (.inl rfl)
      · obtain ⟨i, hi⟩ := mem_rings.1 hb
        rw [List.getElem?_set] at hi
        by_cases hik : j = i
        · rw [if_pos hik, if_pos (by omega)] at hi
          have := Option.some.inj (Option.some.inj hi)
          exact .inr (by omega)
        · rw [if_neg hik] at hi
          exact .inl (.inr (mem_rings.2 ⟨i, hi⟩))

/-! ### Pipes that are none -/
theorem nat_ (id : Int) {w : World} {K : Value → World → Prop} (h : K (.pointer none) w) : CallsR Try.prog F_pipes_Pipes_at #[.pointer none, .int .i64 id] w K := by
  apply R_pipes_Pipes_at_ok
  simpa [R_pipes_Pipes_at] using h
theorem nmake {w : World} {K : Value → World → Prop} (h : K (.tuple #[.int .i64 0, .int .i64 11]) w) : CallsR Try.prog F_pipes_Pipes_Make #[.pointer none] w K := by
  apply R_pipes_Pipes_Make_ok
  simpa [R_pipes_Pipes_Make] using h
theorem nput (id : Int) (s : ByteArray) {w : World} {K : Value → World → Prop} (h : K (.int .i64 0) w) : CallsR Try.prog F_pipes_Pipes_Put #[.pointer none, .int .i64 id, .string s] w K := by
  apply R_pipes_Pipes_Put_ok
  refine nat_ id ⟨_, rfl, fun m n w' => n = 0 ∧ w' = w, ⟨0, rfl, rfl⟩, ?_⟩
  rintro m n - w' ⟨rfl, rfl⟩
  simpa using h
theorem ntake (id n : Int) {w : World} {K : Value → World → Prop} (h : K (.string (bytesOf [])) w) : CallsR Try.prog F_pipes_Pipes_Take #[.pointer none, .int .i64 id, .int .i64 n] w K := by
  apply R_pipes_Pipes_Take_ok
  have conv : (convert 64 9 (.slice none 0 0)).run Try.prog w = .ok (.string (bytesOf [])) w := convert_str (F := []) (by kernel_rfl) (show Try.prog.underlying 5 = some (.int .u8) by kernel_rfl) (by kernel_rfl) (by rw [bys8_bytesOf]; exact SlB.nil w 1)
  refine nat_ id ⟨_, rfl, fun A L C w' => A = none ∧ L = 0 ∧ C = 0 ∧ w' = w, ?_, fun m A L C w' => A = none ∧ L = 0 ∧ C = 0 ∧ w' = w, ⟨0, rfl, rfl, rfl, rfl⟩, ?_⟩
  · rintro A L C - w' ⟨rfl, rfl, rfl, rfl⟩
    exact ⟨_, _, conv, _, rfl, h⟩
  · rintro m A L C - w' ⟨rfl, rfl, rfl, rfl⟩
    simp
theorem nlen (id : Int) {w : World} {K : Value → World → Prop} (h : K (.int .i64 0) w) : CallsR Try.prog F_pipes_Pipes_Len #[.pointer none, .int .i64 id] w K := by
  apply R_pipes_Pipes_Len_ok
  exact nat_ id ⟨_, rfl, by simpa using h⟩
theorem ndrop (id : Int) {w : World} {K : Value → World → Prop} (h : K (.int .i64 106) w) : CallsR Try.prog F_pipes_Pipes_Drop #[.pointer none, .int .i64 id] w K := by
  apply R_pipes_Pipes_Drop_ok
  exact nat_ id ⟨_, rfl, by simpa using h⟩
theorem nenc {w : World} {K : Value → World → Prop} (h : K (.slice none 0 0) w) : CallsR Try.prog F_pipes_Pipes_Encode #[.pointer none] w K := by
  apply R_pipes_Pipes_Encode_ok
  simpa [R_pipes_Pipes_Encode] using h

end Go.Proofs
