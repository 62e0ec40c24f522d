/-
  Layer 24: 'Gone' of the program's lock.
-/
import Derived.Test.YtciclhpbkbcdpaaC24a
set_option linter.unusedSimpArgs false
namespace Go.Proofs
open Go Go.Den

theorem gone1_run {w : World} {ae : Addr} {env : Int} (he : w.cell? ae = some (.int .i64 env)) (x : Int) {K : Value → World → Prop} (hK : K (.bool (x == env)) w) :
    CallsR Try.prog F_locks_Lock_Gone_1 #[.int .i64 x, .pointer (some ae)] w K := by
  apply R_locks_Lock_Gone_1_ok
  simp only [R_locks_Lock_Gone_1]
  exact ⟨env, he, hK⟩

theorem index_run {w : World} {a : Option Addr} {l c : Nat} {xs : List Int} {G : List Nat} (hs : Rd w a l 1 (i64s xs) G) (hl4 : l ≤ 1000) {ae : Addr} {env : Int} (he : w.cell? ae = some (.int .i64 env)) {K : Value → World → Prop}
    (h0 : (∀ x ∈ xs, (x == env) = false) → K (.int .i64 (-1)) w)
    (h1 : ∀ (i : Nat) x, xs[i]? = some x → (x == env) = true → (∀ x ∈ xs.take i, (x == env) = false) → K (.int .i64 (i : Int)) w) :
    CallsR Try.prog F_slices_IndexFunc_int_int #[.slice a l c, .func (.func 25) #[] #[.pointer (some ae)]] w K := by
  apply R_slices_IndexFunc_int_int_ok
  simp only [R_slices_IndexFunc_int_int, spl_decide]
  have hlen := hs.i64
  refine ⟨fun n t w' => ∃ k : Nat, t = k ∧ k ≤ l ∧ n = l - k ∧ (∀ x ∈ xs.take k, (x == env) = false) ∧ w' = w, ⟨l, 0, rfl, by omega, rfl, by simp, rfl⟩, ?_⟩
  rintro n t - w1 ⟨k, rfl, hk, rfl, hbef, rfl⟩
  refine ⟨fun hlt => ?_, fun hge => ?_⟩
  · obtain ⟨ad, x, rfl, hx, hc, hF⟩ := hs.i64at (k := k) (by omega)
    rw [nilK_some, Int.toNat_natCast]
    refine ⟨⟨by omega, by omega⟩, x, hc, ?_⟩
    refine gone1_run he x ⟨_, rfl, ?_⟩
    cases hg : x == env with
    | true => exact spl_t rfl (h1 k x hx hg hbef)
    | false =>
      refine spl_f rfl ⟨l - (k + 1), by omega, k + 1, by rw [w64 (by omega) (by omega)]; omega, by omega, rfl, fun m' hm' => ?_, rfl⟩
      rw [List.take_add_one, hx] at hm'
      rcases List.mem_append.1 hm' with h | h
      · exact hbef m' h
      · simp at h; subst h; exact hg
  · exact h0 (fun m hm' => hbef m (by rw [List.take_of_length_le (by omega)]; exact hm'))

theorem delete_row {w : World} {a : Option Addr} {l c : Nat} {xs : List Int} {G : List Nat} (hs : SlB w a l c 1 (i64s xs) G) (hl4 : l ≤ 1000) {ae : Addr} {env : Int} (hte : ∀ w', Mod G w w' → w'.cell? ae = some (.int .i64 env)) {K : Value → World → Prop}
    (hK : ∀ w' a' l' c', SlB w' a' l' c' 1 (i64s (rid xs env)) G → Mod G w w' → K (.slice a' l' c') w') :
    CallsR Try.prog F_slices_DeleteFunc_int_int #[.slice a l c, .func (.func 25) #[] #[.pointer (some ae)]] w K := by
  apply R_slices_DeleteFunc_int_int_ok
  simp only [R_slices_DeleteFunc_int_int]
  have hlen := hs.i64
  have hGlt := hs.lt
  refine index_run hs.rd hl4 (hte w (Mod.refl _ _)) (fun hno => ⟨_, rfl, ?_⟩) (fun r x0 hr hg0 hbef => ⟨_, rfl, ?_⟩)
  · refine spl_t rfl ?_
    have e : rid xs env = xs := List.filter_eq_self.2 fun m hm => by rw [hno m hm]; rfl
    exact hK w a l c (by rw [e]; exact hs) (Mod.refl _ _)
  · have hrl : r < l := by have := (List.getElem?_eq_some_iff.1 hr).1; omega
    refine spl_f (by simp) ?_
    simp only [spl_decide]
    have et : rid (xs.take r) env = xs.take r := List.filter_eq_self.2 fun m hm => by rw [hbef m hm]; rfl
    refine ⟨fun n i j w' => ∃ (I J : Nat) (R : List Int), i = I ∧ j = J ∧ I < J ∧ J ≤ l ∧ n = l - J ∧ SlB w' a l c 1 (i64s R) G ∧ R.length = l ∧ R.take I = rid (xs.take J) env ∧ R.drop J = xs.drop J ∧ Mod G w w',
      ⟨l - (r + 1), r, r + 1, xs, rfl, by rw [w64 (by omega) (by omega)]; omega, by omega, by omega, rfl, hs, by omega, ?_, rfl, Mod.refl _ _⟩, ?_⟩
    · rw [List.take_add_one, hr, rid, List.filter_append, ← rid, et]
      simp [hg0]
    · rintro n i j - w2 ⟨I, J, R, rfl, rfl, hIJ, hJ, rfl, hs2, hRl, ht, hd, hm2⟩
      refine ⟨fun hlt => ?_, fun hge => ?_⟩
      · have hJl : J < l := by omega
        refine ⟨fun i w' => ∃ (I : Nat) (R : List Int), i = I ∧ I < J + 1 ∧ SlB w' a l c 1 (i64s R) G ∧ R.length = l ∧ R.take I = rid (xs.take (J + 1)) env ∧ R.drop (J + 1) = xs.drop (J + 1) ∧ Mod G w w', ?_, ?_⟩
        · rintro i - w3 ⟨I3, R3, rfl, h1, h2, h3, h4, h5, h6⟩
          exact ⟨l - (J + 1), by omega, I3, J + 1, R3, rfl, by rw [w64 (by omega) (by omega)]; omega, h1, by omega, rfl, h2, h3, h4, h5, h6⟩
        obtain ⟨ad, x, rfl, hx, hc, hF⟩ := hs2.rd.i64at (k := J) hJl
        have hpx : xs[J]? = some x := by
          have := congrArg (·[0]?) hd
          simp only [List.getElem?_drop, Nat.add_zero] at this
          rw [← this, hx]
        have hd1 : R.drop (J + 1) = xs.drop (J + 1) := by
          have := congrArg List.tail hd
          simpa using this
        have etk : rid (xs.take (J + 1)) env = rid (xs.take J) env ++ rid [x] env := by
          rw [List.take_add_one, hpx, rid, List.filter_append]; rfl
        rw [nilK_some, Int.toNat_natCast]
        refine ⟨⟨by omega, by omega⟩, x, hc, ?_⟩
        refine gone1_run (hte w2 hm2) x ⟨_, rfl, ?_⟩
        cases hg : x == env with
        | true =>
          refine spl_t rfl ⟨I, R, rfl, by omega, hs2, hRl, ?_, hd1, hm2⟩
          rw [etk, ht]
          simp [rid, hg]
        | false =>
          refine spl_f rfl ?_
          rw [nilK_some]
          refine ⟨⟨by omega, by omega⟩, ?_⟩
          obtain ⟨b, o, hbo, hGb⟩ := hs2.isNone (by omega)
          cases hbo
          subst hGb
          obtain ⟨arr, T, hbk, hcap, -⟩ := hs2.block
          have hle := hs2.le
          rw [Int.toNat_natCast, addr_add]
          refine stK_of hbk (by simp; omega) ?_
          have hsp := hs2.set hbk (j := I) (by rw [i64s_length]; omega) (.int .i64 x)
          rw [i64s_set] at hsp
          simp only [splice_cons, splice_nil]
          refine ⟨I + 1, R.set I x, by rw [w64 (by omega) (by omega)]; omega, by omega, hsp, by simpa using hRl, ?_, ?_, hm2.upd (.inl (by simp)) _⟩
          · rw [etk, ← ht, List.take_add_one, List.getElem?_set_self (by omega), List.take_set_of_le (Nat.le_refl _)]
            simp [rid, hg]
          · rw [List.drop_set_of_lt (by omega)]; exact hd1
      · have hJl : J = l := by omega
        subst hJl
        have e0 : xs.take J = xs := List.take_of_length_le (by omega)
        rw [e0] at ht
        refine clear_tail slT_int (by simp [Value.cells, isCell]) (by decide) hs2 (i := I) (by omega) fun w3 us hs3 hm3 => ⟨rfl, ?_⟩
        have hlc3 := hs3.le
        refine slK_of hs3 (L := 0) (H := I) (M := c) (.inr ⟨rfl, rfl⟩) (.inl rfl) (.inr ⟨rfl, rfl⟩) (by omega) (by omega) (by omega) (Nat.le_refl _) fun a' _ hs4 => ?_
        have e : ((((i64s R).take (I * 1) ++ us).drop (0 * 1)).take ((I - 0) * 1)) = i64s (rid xs env) := by
          have hl : ((i64s R).take (I * 1)).length = I * 1 := by rw [List.length_take, i64s_length]; omega
          rw [Nat.zero_mul, List.drop_zero, Nat.sub_zero, List.take_append_of_le_length (by omega), List.take_of_length_le (by omega), i64s_take, Nat.mul_one, ht]
        rw [e] at hs4
        exact hK w3 a' (I - 0) (c - 0) hs4 (hm2.trans' hm3)

theorem rid_len (xs : List Int) (e : Int) : (rid xs e).length ≤ xs.length := List.length_filter_le _ _

theorem gone_run {w : World} {p : Nat} {s : LS} {F : List Nat} (h : LkP w p s F) (hl : s.2.length ≤ 1000) (e : Int) {K : Value → World → Prop} (hK : ∀ w' F', LkP w' p (goneS s e) F' → Mod F w w' → Den.Own w F F' → K (.tuple #[]) w') :
    CallsR Try.prog F_locks_Lock_Gone #[.pointer (some ⟨p, 0, none⟩), .int .i64 e] w K := by
  apply R_locks_Lock_Gone_ok
  simp only [R_locks_Lock_Gone, Option.isNone_some, spl_false, nilK_some, addr_add, Nat.zero_add, newK_eq]
  obtain ⟨a, l, c, G, T, h1, h2, h3, rfl⟩ := h
  have hli := h2.i64
  have hplt := lt_of_get h1
  have hGlt := h2.lt
  have s1 := (Sep.nil (Mod.refl [] w)).alloc (.cells #[.int .i64 e] 3)
  generalize w.alloc (.cells #[.int .i64 e] 3) = w1 at s1 ⊢
  generalize w.heap.size = b3 at s1 ⊢
  have hb3w := s1.bey 0 rfl b3 (by simp [blk])
  have hp1 := s1.mod.get h1 (by simp)
  refine ⟨a, l, c, by rw [cell_get hp1]; rfl, ?_⟩
  refine clone_i64 (h2.keep (s1.mod.at0 hGlt)).rd (by omega) fun A C w2 G2 hs2 hG2 m2 => ⟨_, _, _, rfl, ?_⟩
  have s2 := s1.push (sl A l C 1 (i64s s.2) G2) m2 hs2 hG2
  have hb2 : w2.heap[b3]? = some _ := s2.nth 1 rfl
  have hp2 := s2.mod.get h1 (by simp)
  have hd := s2.dj 0 1 (by decide) rfl rfl
  refine delete_row hs2 (by omega) (ae := ⟨b3, 0, none⟩) (env := e) (fun w' hm => by rw [cell_get (hm.get hb2 fun h => hd b3 h (by simp [blk]))]; rfl) fun w3 a' l' c' hs3 m3 => ⟨_, _, _, rfl, ?_⟩
  have s3 := s2.turn 0 rfl (sl a' l' c' 1 (i64s (rid s.2 e)) G2) hs3 m3
  have hb3 : w3.heap[b3]? = some _ := s3.nth 1 rfl
  have hp3 := s3.mod.get h1 (by simp)
  have hG2b : Beyond w.heap.size G2 := s3.bey 0 rfl
  have hpG2 : p ∉ G2 := fun h => by have := hG2b p h; omega
  refine stK_of hp3 (by simp) ?_
  have k1 : (w3.upd p (.cells (splice #[.int .i64 s.1, .slice a l c] 1 [.slice a' l' c']) T (0, 0))).heap[p]? = some (.cells #[.int .i64 s.1, .slice a' l' c'] T (0, 0)) := by rw [upd_same hp3]; rfl
  have k2 : SlB (w3.upd p (.cells (splice #[.int .i64 s.1, .slice a l c] 1 [.slice a' l' c']) T (0, 0))) a' l' c' 1 (i64s (rid s.2 e)) G2 := hs3.keep fun b hb => upd_ne _ (by rintro rfl; exact hpG2 hb)
  have k3 : (w3.upd p (.cells (splice #[.int .i64 s.1, .slice a l c] 1 [.slice a' l' c']) T (0, 0))).heap[b3]? = some _ := (upd_ne _ (by rintro rfl; omega)).trans hb3
  have m4 : Mod (p :: G) w (w3.upd p (.cells (splice #[.int .i64 s.1, .slice a l c] 1 [.slice a' l' c']) T (0, 0))) := s3.mod.of0.upd (.inl (by simp)) _
  generalize w3.upd p _ = w4 at k1 k2 k3 m4 ⊢
  refine ⟨e, by rw [cell_get k3]; rfl, ?_⟩
  have hr := rid_len s.2 e
  refine leave_run (s := (s.1, rid s.2 e)) (F := p :: G2) ⟨a', l', c', G2, T, k1, k2, hpG2, rfl⟩ (by simp only; omega) e fun w5 F5 h5 m5 o5 => ⟨_, _, rfl, ?_⟩
  refine hK w5 F5 h5 (m4.trans m5 fun b hb hlt => ?_) fun b hb => ?_
  · rcases List.mem_cons.1 hb with rfl | hb
    · simp
    · have := hG2b b hb; omega
  · rcases o5 b hb with h | h
    · rcases List.mem_cons.1 h with rfl | h
      · exact .inl (by simp)
      · exact .inr (hG2b b h)
    · have := m4.size; exact .inr (by omega)

end Go.Proofs
