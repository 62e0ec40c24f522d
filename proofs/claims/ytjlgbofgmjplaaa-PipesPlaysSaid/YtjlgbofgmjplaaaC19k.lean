/-
  Layer 19: the reference's pipes.
-/
import Derived.Test.YtjlgbofgmjplaaaC19j
set_option linter.unusedSimpArgs false
namespace Go.Proofs
open Go Go.Den

def sval (e : Option (List UInt8)) : ByteArray := bytesOf (e.getD [])
theorem bytesOf_size (bs : List UInt8) : (bytesOf bs).size = bs.length := by rw [← size_tl]; rfl
theorem bytesOf_tl (bs : List UInt8) : (bytesOf bs).data.toList = bs := rfl

/-- The reference's pipes at block 'b'. -/
def PipesR (w : World) (b : Nat) (l : PS) : Prop :=
  ∃ (arr : Array Value) (T : TypeId), w.heap[b]? = some (.cells arr T (0, 0)) ∧ arr.size = 32 ∧ l.length = 16 ∧ Short l ∧ ∀ (i : Nat) (e : Option (List UInt8)), l[i]? = some e → arr[i]? = some (.bool e.isSome) ∧ arr[16 + i]? = some (.string (sval e))

theorem PipesR.keep {w w' : World} {b : Nat} {l : PS} (h : PipesR w b l) (hk : w'.heap[b]? = w.heap[b]?) : PipesR w' b l := by
  obtain ⟨arr, T, h1, h2⟩ := h
  exact ⟨arr, T, hk.trans h1, h2⟩
theorem PipesR.lt {w : World} {b : Nat} {l : PS} (h : PipesR w b l) : b < w.heap.size := by
  obtain ⟨arr, T, h1, h2⟩ := h
  exact lt_of_get h1

theorem Short.set {l : PS} (h : Short l) (k : Nat) {e : Option (List UInt8)} (he : Sh1 e) : Short (l.set k e) := fun i bs hi => by
  rw [List.getElem?_set] at hi
  split at hi
  · split at hi
    · exact he bs (Option.some.inj hi)
    · cases hi
  · exact h i bs hi

theorem PipesR.at {w : World} {b : Nat} {l : PS} (h : PipesR w b l) {k : Nat} (hk : k < 16) : ∃ e, l[k]? = some e ∧ Sh1 e ∧ w.cell? ⟨b, k, none⟩ = some (.bool e.isSome) ∧ w.cell? ⟨b, 16 + k, none⟩ = some (.string (sval e)) := by
  obtain ⟨arr, T, h1, h2, h3, h4, h5⟩ := h
  have hg : l[k]? = some (l[k]'(by omega)) := List.getElem?_eq_getElem _
  refine ⟨_, hg, fun bs hb => h4 k bs (by rw [hg, hb]), ?_, ?_⟩
  · rw [cell_get h1]; exact (h5 k _ hg).1
  · rw [cell_get h1]; exact (h5 k _ hg).2

/-- Both of a place's cells are written. -/
theorem PipesR.put2 {w : World} {b : Nat} {l : PS} (h : PipesR w b l) {k : Nat} (hk : k < 16) {e : Option (List UInt8)} (he : Sh1 e) {K : World → Prop} (hK : ∀ w', PipesR w' b (l.set k e) → Mod [b] w w' → K w') :
    stK ⟨b, k, none⟩ [.bool e.isSome] w fun w1 => stK ⟨b, 16 + k, none⟩ [.string (sval e)] w1 K := by
  obtain ⟨arr, T, h1, h2, h3, h4, h5⟩ := h
  refine stK_of h1 (by simp; omega) ?_
  refine stK_of (upd_same h1) (by simp; omega) ?_
  simp only [splice_cons, splice_nil]
  refine hK _ ⟨_, T, upd_same (upd_same h1), by simpa using h2, by simpa using h3, h4.set k he, fun i x hx => ?_⟩ (((Mod.refl _ w).upd (.inl (by simp)) _).upd (.inl (by simp)) _)
  rw [List.getElem?_set] at hx
  by_cases hik : k = i
  · subst hik
    rw [if_pos rfl, if_pos (by omega)] at hx
    obtain rfl := Option.some.inj hx
    exact ⟨by rw [Array.getElem?_setIfInBounds_ne (by omega), Array.getElem?_setIfInBounds_self_of_lt (by omega)], by rw [Array.getElem?_setIfInBounds_self_of_lt (by simp; omega)]⟩
  · rw [if_neg hik] at hx
    have hi : i < 16 := by have := (List.getElem?_eq_some_iff.1 hx).1; omega
    obtain ⟨c1, c2⟩ := h5 i x hx
    exact ⟨by rw [Array.getElem?_setIfInBounds_ne (by omega), Array.getElem?_setIfInBounds_ne (by omega)]; exact c1, by rw [Array.getElem?_setIfInBounds_ne (by omega), Array.getElem?_setIfInBounds_ne (by omega)]; exact c2⟩

/-- The text of a pipe that is there is written. -/
theorem PipesR.putS {w : World} {b : Nat} {l : PS} (h : PipesR w b l) {k : Nat} {bs bs' : List UInt8} (hb : l[k]? = some (some bs)) (hl : bs'.length ≤ 8) {s : ByteArray} (hs : s = bytesOf bs') {K : World → Prop} (hK : ∀ w', PipesR w' b (l.set k (some bs')) → Mod [b] w w' → K w') :
    stK ⟨b, 16 + k, none⟩ [.string s] w K := by
  subst hs
  obtain ⟨arr, T, h1, h2, h3, h4, h5⟩ := h
  have hk : k < 16 := by have := (List.getElem?_eq_some_iff.1 hb).1; omega
  refine stK_of h1 (by simp; omega) ?_
  simp only [splice_cons, splice_nil]
  refine hK _ ⟨_, T, upd_same h1, by simpa using h2, by simpa using h3, h4.set k (fun x hx => by cases hx; exact hl), fun i x hx => ?_⟩ ((Mod.refl _ w).upd (.inl (by simp)) _)
  rw [List.getElem?_set] at hx
  by_cases hik : k = i
  · subst hik
    rw [if_pos rfl, if_pos (by omega)] at hx
    obtain rfl := Option.some.inj hx
    refine ⟨by rw [Array.getElem?_setIfInBounds_ne (by omega)]; exact (h5 k _ hb).1, by rw [Array.getElem?_setIfInBounds_self_of_lt (by omega)]; rfl⟩
  · rw [if_neg hik] at hx
    have hi : i < 16 := by have := (List.getElem?_eq_some_iff.1 hx).1; omega
    obtain ⟨c1, c2⟩ := h5 i x hx
    exact ⟨by rw [Array.getElem?_setIfInBounds_ne (by omega)]; exact c1, by rw [Array.getElem?_setIfInBounds_ne (by omega)]; exact c2⟩

theorem pipesr_new (w : World) {T : TypeId} : PipesR (w.alloc (.cells #[.bool false, .bool false, .bool false, .bool false, .bool false, .bool false, .bool false, .bool false, .bool false, .bool false, .bool false, .bool false, .bool false, .bool false, .bool false, .bool false, .string ByteArray.empty, .string ByteArray.empty, .string ByteArray.empty, .string ByteArray.empty, .string ByteArray.empty, .string ByteArray.empty, .string ByteArray.empty, .string ByteArray.empty, .string ByteArray.empty, .string ByteArray.empty, .string ByteArray.empty, .string ByteArray.empty, .string ByteArray.empty, .string ByteArray.empty, .string ByteArray.empty, .string ByteArray.empty] T)) w.heap.size (List.replicate 16 none) := by
  refine ⟨_, T, alloc_new w _, rfl, by simp, fun i bs hi => ?_, fun i e hi => ?_⟩
  · rw [List.getElem?_replicate] at hi; split at hi <;> cases hi
  · rw [List.getElem?_replicate] at hi
    split at hi
    · rename_i h
      obtain rfl := Option.some.inj hi
      have hc : i = 0 ∨ i = 1 ∨ i = 2 ∨ i = 3 ∨ i = 4 ∨ i = 5 ∨ i = 6 ∨ i = 7 ∨ i = 8 ∨ i = 9 ∨ i = 10 ∨ i = 11 ∨ i = 12 ∨ i = 13 ∨ i = 14 ∨ i = 15 := by omega
      rcases hc with rfl | rfl | rfl | rfl | rfl | rfl | rfl | rfl | rfl | rfl | rfl | rfl | rfl | rfl | rfl | rfl <;> exact ⟨rfl, rfl⟩
    · cases hi

/-- No such pipe. -/
def NoP (l : PS) (id : Int) : Prop := id < 0 ∨ 16 ≤ id ∨ ∃ k : Nat, id = k ∧ l[k]? = some none

theorem pipesr_has {w : World} {b : Nat} {l : PS} (h : PipesR w b l) (id : Int) {K : Value → World → Prop} (h0 : NoP l id → K (.bool false) w) (h1 : ∀ (k : Nat) (bs : List UInt8), id = k → k < 16 → l[k]? = some (some bs) → bs.length ≤ 8 → K (.bool true) w) :
    CallsR Try.prog F_janusref19_Pipes_has #[.pointer (some ⟨b, 0, none⟩), .int .i64 id] w K := by
  apply R_janusref19_Pipes_has_ok
  simp only [R_janusref19_Pipes_has, spl_decide, nilK_some, addr_add, Nat.zero_add]
  refine ⟨fun hge => ⟨fun hlt => ⟨⟨by omega, by omega⟩, ?_⟩, fun hn => h0 (.inr (.inl (by omega)))⟩, fun hn => h0 (.inl (by omega))⟩
  obtain ⟨k, rfl⟩ := nat_of (by omega : 0 ≤ id)
  obtain ⟨e, he, hs, c1, -⟩ := h.at (k := k) (by omega)
  refine ⟨_, c1, ?_⟩
  cases e with
  | none => exact h0 (.inr (.inr ⟨k, rfl, he⟩))
  | some bs => exact h1 k bs rfl (by omega) he (hs bs rfl)

theorem pipesr_make {w : World} {b : Nat} {l : PS} (h : PipesR w b l) {K : Value → World → Prop} (h0 : (∀ i < 16, l[i]? ≠ some none) → K (.tuple #[.int .i64 0, .int .i64 11]) w)
    (h1 : ∀ (k : Nat) (w' : World), k < 16 → l[k]? = some none → (∀ i < k, l[i]? ≠ some none) → PipesR w' b (l.set k (some [])) → Mod [b] w w' → K (.tuple #[.int .i64 (k : Int), .int .i64 0]) w') :
    CallsR Try.prog F_janusref19_Pipes_Make #[.pointer (some ⟨b, 0, none⟩)] w K := by
  apply R_janusref19_Pipes_Make_ok
  simp only [R_janusref19_Pipes_Make, spl_decide, nilK_some, addr_add, Nat.zero_add, drK_eq]
  refine ⟨fun n i w' => ∃ k : Nat, i = k ∧ k ≤ 16 ∧ n = 16 - k ∧ w' = w ∧ ∀ i < k, l[i]? ≠ some none, ⟨16, 0, rfl, by omega, rfl, rfl, by simp⟩, ?_⟩
  rintro n i - w2 ⟨k, rfl, hk, rfl, rfl, hbef⟩
  refine ⟨fun hlt => ⟨⟨by omega, by omega⟩, ?_⟩, fun hge => h0 fun i hi => hbef i (by omega)⟩
  obtain ⟨e, he, hs, c1, -⟩ := h.at (k := k) (by omega)
  refine ⟨_, c1, ?_⟩
  cases e with
  | some bs =>
    refine spl_t rfl ⟨16 - (k + 1), by omega, k + 1, by rw [w64 (by omega) (by omega)]; omega, by omega, rfl, rfl, fun i hi => ?_⟩
    rcases Nat.lt_or_ge i k with h | h
    · exact hbef i h
    · obtain rfl : i = k := by omega
      rw [he]; simp
  | none =>
    refine spl_f rfl ⟨[], ⟨by omega, by omega⟩, ?_⟩
    have hd : PipesR w2.drew b l := h.keep rfl
    have key := hd.put2 (k := k) (by omega) (e := some []) (fun bs hb => by cases hb; simp) (K := K (.tuple #[.int .i64 (k : Int), .int .i64 0])) fun w' hw' hm => h1 k w' (by omega) he hbef hw' ((Mod.refl _ _).drew.trans' hm)
    obtain ⟨cs, T, fr, e1, e2, e3, e4, e5⟩ := key
    exact ⟨cs, T, fr, e1, e2, e3, e4, ⟨by omega, by omega⟩, e5⟩

theorem pipesr_put {w : World} {b : Nat} {l : PS} (h : PipesR w b l) (id : Int) (s : ByteArray) (hsz : s.size ≤ maxLen) {K : Value → World → Prop} (h0 : NoP l id → K (.int .i64 0) w)
    (h1 : ∀ (k : Nat) (bs : List UInt8) (w' : World), id = k → l[k]? = some (some bs) → PipesR w' b (l.set k (some (bs ++ s.data.toList.take (putN bs s)))) → Mod [b] w w' → K (.int .i64 (putN bs s : Int)) w') :
    CallsR Try.prog F_janusref19_Pipes_Put #[.pointer (some ⟨b, 0, none⟩), .int .i64 id, .string s] w K := by
  apply R_janusref19_Pipes_Put_ok
  refine pipesr_has h id (fun hb => ⟨_, rfl, by simpa using h0 hb⟩) (fun k bs hk hk16 hb hl => ⟨_, rfl, ?_⟩)
  subst hk
  obtain ⟨e, he, -, -, c2⟩ := h.at hk16
  rw [hb] at he
  obtain rfl := Option.some.inj he
  have hs1 : (sval (some bs)).size = bs.length := bytesOf_size bs
  have hsz' : s.size ≤ 9223372036854775807 := hsz
  simp only [spl_true, nilK_some, addr_add, Nat.zero_add, Int.toNat_natCast, drK_eq]
  have e1 : IntKind.i64.wrap ((8 : Int) - ((sval (some bs)).size : Int)) = 8 - (bs.length : Int) := by rw [hs1, w64 (by omega) (by omega)]
  have e2 : (if 8 - (bs.length : Int) < (s.size : Int) then 8 - (bs.length : Int) else (s.size : Int)) = ((putN bs s : Nat) : Int) := by unfold putN; split <;> omega
  refine ⟨⟨by omega, by omega⟩, _, c2, ⟨by omega, by omega⟩, _, by rw [World.cell?_drew]; exact c2, ?_⟩
  rw [e1, e2]
  have hpn : putN bs s ≤ s.size ∧ bs.length + putN bs s ≤ 8 := by unfold putN; omega
  have e3 : (s.extract 0 (putN bs s)).data.toList = s.data.toList.take (putN bs s) := by rw [ext_tl, List.drop_zero]
  have e4 : (s.extract 0 (putN bs s)).size = putN bs s := by rw [← size_tl, e3, List.length_take, size_tl]; omega
  refine ⟨by simp only [sOK]; omega, trivial, ?_⟩
  simp only [sM, Int.toNat_natCast]
  refine ⟨by rw [hs1, e4]; simp [IntKind.max, IntKind.bits, IntKind.signed]; omega, ⟨by omega, by omega⟩, ?_⟩
  refine PipesR.putS (bs' := bs ++ s.data.toList.take (putN bs s)) (h.keep (w' := w.drew) rfl) hb ?_ ?_ fun w' hw' hm => h1 k bs w' rfl hb hw' ((Mod.refl _ _).drew.trans' hm)
  · rw [List.length_append, List.length_take, size_tl]; omega
  · apply tl_of
    rw [bytesOf_tl]
    simp [sval, bytesOf, e3]

theorem pipesr_take {w : World} {b : Nat} {l : PS} (h : PipesR w b l) (id n : Int) {K : Value → World → Prop} (h0 : NoP l id → K (.string (bytesOf [])) w)
    (h1 : ∀ (k : Nat) (bs : List UInt8) (w' : World), id = k → l[k]? = some (some bs) → PipesR w' b (l.set k (some (bs.drop (takeN bs n)))) → Mod [b] w w' → K (.string (bytesOf (bs.take (takeN bs n)))) w') :
    CallsR Try.prog F_janusref19_Pipes_Take #[.pointer (some ⟨b, 0, none⟩), .int .i64 id, .int .i64 n] w K := by
  apply R_janusref19_Pipes_Take_ok
  refine pipesr_has h id (fun hb => ⟨_, rfl, by rw [spl_false]; exact h0 hb⟩) (fun k bs hk hk16 hb hl => ⟨_, rfl, ?_⟩)
  subst hk
  obtain ⟨e, he, -, -, c2⟩ := h.at hk16
  rw [hb] at he
  obtain rfl := Option.some.inj he
  have hs1 : (sval (some bs)).size = bs.length := bytesOf_size bs
  simp only [spl_true, nilK_some, addr_add, Nat.zero_add, Int.toNat_natCast, drK_eq]
  have e2 : (if (if ((sval (some bs)).size : Int) < n then ((sval (some bs)).size : Int) else n) > (0 : Int) then (if ((sval (some bs)).size : Int) < n then ((sval (some bs)).size : Int) else n) else (0 : Int)) = ((takeN bs n : Nat) : Int) := by
    rw [hs1]; unfold takeN; split <;> split <;> omega
  have htn : takeN bs n ≤ bs.length := by unfold takeN; omega
  refine ⟨⟨by omega, by omega⟩, _, c2, ⟨by omega, by omega⟩, _, c2, ?_⟩
  rw [e2]
  refine ⟨by simp only [sOK]; omega, trivial, ?_⟩
  simp only [sM, Int.toNat_natCast]
  have e5 : (sval (some bs)).extract 0 (takeN bs n) = bytesOf (bs.take (takeN bs n)) := tl_of (by rw [ext_tl, List.drop_zero]; rfl)
  rw [e5]
  refine ⟨⟨by omega, by omega⟩, _, by rw [World.cell?_drew]; exact c2, trivial, ?_, ?_⟩
  · simp only [sOK, sM]; omega
  · simp only [sM, Int.toNat_natCast]
    refine ⟨⟨by omega, by omega⟩, ?_⟩
    refine PipesR.putS (bs' := bs.drop (takeN bs n)) (h.keep (w' := w.drew) rfl) hb (by rw [List.length_drop]; omega) ?_ fun w' hw' hm => h1 k bs w' rfl hb hw' ((Mod.refl _ _).drew.trans' hm)
    apply tl_of
    rw [bytesOf_tl, ext_tl, hs1]
    show (bs.take bs.length).drop _ = _
    rw [List.take_length]

theorem pipesr_len {w : World} {b : Nat} {l : PS} (h : PipesR w b l) (id : Int) {K : Value → World → Prop} (h0 : NoP l id → K (.int .i64 0) w)
    (h1 : ∀ (k : Nat) (bs : List UInt8), id = k → l[k]? = some (some bs) → K (.int .i64 (bs.length : Int)) w) :
    CallsR Try.prog F_janusref19_Pipes_Len #[.pointer (some ⟨b, 0, none⟩), .int .i64 id] w K := by
  apply R_janusref19_Pipes_Len_ok
  refine pipesr_has h id (fun hb => ⟨_, rfl, by rw [spl_false]; exact h0 hb⟩) (fun k bs hk hk16 hb hl => ⟨_, rfl, ?_⟩)
  subst hk
  obtain ⟨e, he, -, -, c2⟩ := h.at hk16
  rw [hb] at he
  obtain rfl := Option.some.inj he
  have hs1 : (sval (some bs)).size = bs.length := bytesOf_size bs
  simp only [spl_true, nilK_some, addr_add, Nat.zero_add, Int.toNat_natCast]
  refine ⟨⟨by omega, by omega⟩, _, c2, ?_⟩
  rw [hs1]
  exact h1 k bs rfl hb

theorem pipesr_drop {w : World} {b : Nat} {l : PS} (h : PipesR w b l) (id : Int) {K : Value → World → Prop} (h0 : NoP l id → K (.int .i64 106) w)
    (h1 : ∀ (k : Nat) (bs : List UInt8) (w' : World), id = k → l[k]? = some (some bs) → PipesR w' b (l.set k none) → Mod [b] w w' → K (.int .i64 0) w') :
    CallsR Try.prog F_janusref19_Pipes_Drop #[.pointer (some ⟨b, 0, none⟩), .int .i64 id] w K := by
  apply R_janusref19_Pipes_Drop_ok
  refine pipesr_has h id (fun hb => ⟨_, rfl, by rw [spl_false]; exact h0 hb⟩) (fun k bs hk hk16 hb hl => ⟨_, rfl, ?_⟩)
  subst hk
  simp only [spl_true, nilK_some, addr_add, Nat.zero_add, Int.toNat_natCast, drK_eq]
  refine ⟨[], ⟨by omega, by omega⟩, ?_⟩
  have key := (h.keep (w' := w.drew) rfl).put2 (k := k) hk16 (e := none) (fun bs hb => by cases hb) (K := K (.int .i64 0)) fun w' hw' hm => h1 k bs w' rfl hb hw' ((Mod.refl _ _).drew.trans' hm)
  obtain ⟨cs, T, fr, e1, e2, e3, e4, e5⟩ := key
  exact ⟨cs, T, fr, e1, e2, e3, e4, ⟨by omega, by omega⟩, e5⟩

theorem pipesr_encode {w : World} {b : Nat} {l : PS} (h : PipesR w b l) {K : Value → World → Prop}
    (h1 : ∀ (A : Option Addr) (L C : Nat) (G : List Nat) (w' : World), SlB w' A L C 1 (u64s (encL l)) G → Beyond w.heap.size G → Mod [] w w' → K (.slice A L C) w') :
    CallsR Try.prog F_janusref19_Pipes_Encode #[.pointer (some ⟨b, 0, none⟩)] w K := by
  apply R_janusref19_Pipes_Encode_ok
  have hblt := h.lt
  have hsh : Short l := by obtain ⟨arr, T, h1, h2, h3, h4, h5⟩ := h; exact h4
  have hll : l.length = 16 := by obtain ⟨arr, T, h1, h2, h3, h4, h5⟩ := h; exact h3
  have hk : ∀ {u : World}, Mod [] w u → PipesR u b l := fun hm => h.keep (hm.keep b hblt (by simp))
  simp only [R_janusref19_Pipes_Encode, spl_decide, nilK_some, addr_add, Nat.zero_add]
  refine ⟨fun n A L C t w' => ∃ (k : Nat) (G : List Nat), t = k ∧ k ≤ 16 ∧ n = 16 - k ∧ SlB w' A L C 1 (u64s (encL (l.take k))) G ∧ Beyond w.heap.size G ∧ Mod [] w w', ⟨16, 0, [], rfl, by omega, rfl, by simpa [encL] using SlB.nil w 1, by simp [Beyond], Mod.refl _ _⟩, ?_⟩
  rintro n A L C t - w2 ⟨k, G, rfl, hk16, rfl, hs, hG, hm⟩
  refine ⟨fun hlt16 => ?_, fun hge => ?_⟩
  · have hk16 : k < 16 := by omega
    have hlen := hs.u64
    have hen := encL_length _ (hsh.take k)
    rw [List.length_take] at hen
    obtain ⟨e, he, hse, -, -⟩ := h.at hk16
    have look : ∀ {u : World}, Mod [] w u → u.cell? ⟨b, k, none⟩ = some (.bool e.isSome) ∧ u.cell? ⟨b, 16 + k, none⟩ = some (.string (sval e)) := fun hm => by
      obtain ⟨e', he', -, c1, c2⟩ := (hk hm).at hk16
      rw [he] at he'
      obtain rfl := Option.some.inj he'
      exact ⟨c1, c2⟩
    have htk : l.take (k + 1) = l.take k ++ [e] := by
      rw [List.take_add_one, he]; rfl
    have hek : encL (l.take (k + 1)) = encL (l.take k) ++ encP e := by rw [htk, encL_append]; simp [encL]
    refine ⟨fun A' L' C' w' => ∃ G' : List Nat, SlB w' A' L' C' 1 (u64s (encL (l.take (k + 1)))) G' ∧ Beyond w.heap.size G' ∧ Mod [] w w', ?_, ⟨by omega, by omega⟩, ?_⟩
    · rintro A' L' C' - w3 ⟨G', hs', hG', hm'⟩
      exact ⟨16 - (k + 1), by omega, k + 1, G', by rw [w64 (by omega) (by omega)]; omega, by omega, rfl, hs', hG', hm'⟩
    simp only [Int.toNat_natCast]
    refine ⟨_, (look hm).1, ?_⟩
    cases e with
    | none =>
      simp only [Option.isSome_none, spl_false, newK_eq]
      obtain ⟨A', C', w', G', hrun, hs', hG', hm', -, -⟩ := push_run slT_u64 (by decide) hs hG hm (us := [.int .u64 0]) (n := 1) rfl (by simp [isCell]) (by omega) (by omega) 67 37
      exact ⟨_, _, hrun, _, _, _, rfl, G', by rw [hek, u64s_append]; exact hs', hG', hm'⟩
    | some bs =>
      have hbl := hse bs rfl
      have hss : (sval (some bs)).size = bs.length := bytesOf_size bs
      simp only [Option.isSome_some, spl_true, newK_eq]
      refine ⟨⟨by omega, by omega⟩, _, (look hm).2, ?_⟩
      have e1 : IntKind.u64.wrap ((sval (some bs)).size : Int) = (bs.length : Int) := by rw [hss]; exact wu64 (by omega) (by omega)
      rw [e1]
      obtain ⟨A', C', w', G', hrun, hs', hG', hm', -, -⟩ := push_run slT_u64 (by decide) hs hG hm (us := [.int .u64 1, .int .u64 (bs.length : Int)]) (n := 2) rfl (by simp [isCell]) (by omega) (by omega) 67 37
      refine ⟨_, _, hrun, _, _, _, rfl, ?_⟩
      refine ⟨fun n A L C t w' => ∃ (j : Nat) (G : List Nat), t = j ∧ j ≤ bs.length ∧ n = bs.length - j ∧ SlB w' A L C 1 (u64s (encL (l.take k) ++ 1 :: (bs.length : Int) :: b2i (bs.take j))) G ∧ Beyond w.heap.size G ∧ Mod [] w w', ⟨bs.length, 0, G', rfl, by omega, rfl, by rw [u64s_append]; exact hs', hG', hm'⟩, ?_⟩
      rintro n A3 L3 C3 t - w3 ⟨j, G3, rfl, hj, rfl, hs3, hG3, hm3⟩
      refine ⟨⟨by omega, by omega⟩, _, (look hm3).2, ?_⟩
      rw [hss]
      refine ⟨fun hjlt => ?_, fun hjge => ?_⟩
      · have hjl : j < bs.length := by omega
        have hlen3 := hs3.u64
        simp [b2i_length] at hlen3
        refine ⟨⟨by omega, by omega⟩, _, (look hm3).2, bs[j], ⟨by omega, ?_⟩, ?_⟩
        · have hsb : (sval (some bs))[j]? = some bs[j] := by
            rw [getElem?_pos (sval (some bs)) j (by rw [hss]; exact hjl)]
            rfl
          exact hsb
        have e2 : IntKind.u64.wrap ((bs[j]).toNat : Int) = ((bs[j]).toNat : Int) := wu64 (by omega) (by have := (bs[j]).toNat_lt; omega)
        rw [e2]
        obtain ⟨A', C', w', G', hrun, hs', hG', hm', hm'', -⟩ := push_run slT_u64 (by decide) hs3 hG3 hm3 (us := [.int .u64 ((bs[j]).toNat : Int)]) (n := 1) rfl (by simp [isCell]) (by omega) (by omega) 67 37
        refine ⟨_, _, hrun, _, _, _, rfl, bs.length - (j + 1), by omega, j + 1, G', by rw [w64 (by omega) (by omega)]; omega, by omega, rfl, ?_, hG', hm'⟩
        have e3 : b2i (bs.take (j + 1)) = b2i (bs.take j) ++ [((bs[j]).toNat : Int)] := by
          rw [List.take_succ_eq_append_getElem hjl, b2i, List.map_append]; rfl
        rw [e3]
        have e4 : encL (l.take k) ++ 1 :: (bs.length : Int) :: (b2i (bs.take j) ++ [((bs[j]).toNat : Int)]) = (encL (l.take k) ++ 1 :: (bs.length : Int) :: b2i (bs.take j)) ++ [((bs[j]).toNat : Int)] := by simp
        rw [e4, u64s_append]
        exact hs'
      · have hjb : j = bs.length := by omega
        subst hjb
        rw [List.take_length] at hs3
        exact ⟨G3, by rw [hek]; exact hs3, hG3, hm3⟩
  · have hk16 : k = 16 := by omega
    subst hk16
    rw [List.take_of_length_le (by omega)] at hs
    exact h1 A L C G w2 hs hG hm

end Go.Proofs
