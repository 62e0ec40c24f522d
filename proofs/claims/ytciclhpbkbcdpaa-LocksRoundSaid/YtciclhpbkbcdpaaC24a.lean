/-
  Layer 24: contracts of the program's lock.
-/
import Derived.Test.YtciclhpbkbcdpaaU64
import Derived.Test.YtciclhpbkbcdpaaDen14
import Derived.Test.YtciclhpbkbcdpaaRes
import Derived.Test.YtciclhpbkbcdpaaC24r
set_option linter.unusedSimpArgs false
namespace Go.Proofs
open Go Go.Den

/-- Who holds it (below 0: nobody); who waits. -/
abbrev LS := Int × List Int
def askS (s : LS) (e : Int) : LS := if e < 0 then s else if s.1 < 0 then (e, s.2) else if s.1 ≠ e ∧ e ∉ s.2 then (s.1, s.2 ++ [e]) else s
def askB (s : LS) (e : Int) : Bool := decide (0 ≤ e) && ((askS s e).1 == e)
def leaveS (s : LS) (e : Int) : LS := if e < 0 ∨ s.1 ≠ e then s else (match s.2 with
  | [] => (-1, [])
  | x :: xs => (x, xs))
def leaveV (s : LS) (e : Int) : Int × Int := if e < 0 ∨ s.1 ≠ e then (0, 106) else ((leaveS s e).1, 0)
def rid (l : List Int) (e : Int) : List Int := l.filter fun x => !(x == e)
def goneS (s : LS) (e : Int) : LS := leaveS (s.1, rid s.2 e) e

/-- The program's lock at block 'p'. -/
def LkP (w : World) (p : Nat) (s : LS) (F : List Nat) : Prop :=
  ∃ a l c G T, w.heap[p]? = some (.cells #[.int .i64 s.1, .slice a l c] T (0, 0)) ∧ SlB w a l c 1 (i64s s.2) G ∧ p ∉ G ∧ F = p :: G
theorem LkP.lt {w : World} {p : Nat} {s : LS} {F : List Nat} (h : LkP w p s F) : ∀ b ∈ F, b < w.heap.size := by
  obtain ⟨a, l, c, G, T, h1, h2, h3, rfl⟩ := h
  intro b hb
  rcases List.mem_cons.1 hb with rfl | hb
  · exact lt_of_get h1
  · exact h2.lt b hb
theorem LkP.keep {w w' : World} {p : Nat} {s : LS} {F : List Nat} (h : LkP w p s F) (hk : ∀ b ∈ F, w'.heap[b]? = w.heap[b]?) : LkP w' p s F := by
  obtain ⟨a, l, c, G, T, h1, h2, h3, rfl⟩ := h
  exact ⟨a, l, c, G, T, (hk p (by simp)).trans h1, h2.keep fun b hb => hk b (by simp [hb]), h3, rfl⟩
def lk (p : Nat) (s : LS) (F : List Nat) : Part := ⟨F, fun w => LkP w p s F, fun h k => h.keep k, fun h => h.lt⟩

theorem mod_of_below {w w' : World} (h : RowKit.Below w.heap.size w w') : Mod [] w w' := ⟨h.os, h.tape, h.output, h.size, fun b hb _ => h.block b hb⟩

theorem new_run (w : World) {K : Value → World → Prop} (h : ∀ (p : Nat) (F : List Nat) (w' : World), LkP w' p (-1, []) F → Mod [] w w' → Beyond w.heap.size F → K (.pointer (some ⟨p, 0, none⟩)) w') : CallsR Try.prog F_locks_New #[] w K := by
  apply R_locks_New_ok
  simp only [R_locks_New, newK_eq]
  exact h _ [w.heap.size] _ ⟨none, 0, 0, [], _, alloc_new w _, SlB.nil _ _, by simp, rfl⟩ ((Mod.refl _ _).alloc _) (by simp [Beyond])

theorem clone_i64 {w : World} {a : Option Addr} {l c : Nat} {xs : List Int} {F : List Nat} (hs : Rd w a l 1 (i64s xs) F) (hb : l ≤ 1000000) {K : Value → World → Prop}
    (h : ∀ A C w' H, SlB w' A l C 1 (i64s xs) H → Beyond w.heap.size H → Mod [] w w' → K (.slice A l C) w') : CallsR Try.prog F_slices_Clone_int_int #[.slice a l c] w K := by
  apply R_slices_Clone_int_int_ok
  refine clone_body slT_int (by decide) hs (i64s_cell _) (by omega) (by omega) h (fun ha hl => ?_)
  subst hl
  have := h none 0 w [] (by have := hs.i64; rw [List.eq_nil_of_length_eq_zero this]; exact SlB.nil w 1) (by simp [Beyond]) (Mod.refl _ _)
  exact this

section
variable {w : World} {p : Nat} {s : LS} {F : List Nat}

/-- What the walks of the iterator ask of a row. -/
theorem row_of {a : Option Addr} {l c : Nat} {xs : List Int} {G : List Nat} (hs : SlB w a l c 1 (i64s xs) G) (hl : l ≤ 1000) :
    xs.length = l ∧ xs.length * 8 ≤ 140737488351232 ∧ (xs = [] ∨ ∃ b off, a = some ⟨b, off, none⟩ ∧ b < w.heap.size ∧ ∀ j, j < xs.length → w.cell? ⟨b, off + j, none⟩ = some (.int .i64 (xs[j]?.getD 0))) := by
  have h1 := hs.i64
  refine ⟨h1, by omega, ?_⟩
  rcases hs with ⟨rfl, rfl, rfl, h, rfl⟩ | ⟨b, o, arr, T, rfl, rfl, hb, hlc, hcap, hlen, hc⟩
  · left
    exact List.eq_nil_of_length_eq_zero (by omega)
  · right
    refine ⟨b, o, rfl, lt_of_get hb, fun j hj => ?_⟩
    rw [cell_get hb, hc j (by rw [i64s_length]; exact hj), i64s_get, List.getElem?_eq_getElem hj]
    rfl

theorem waits_run (h : LkP w p s F) (hl : s.2.length ≤ 1000) (e : Int) {K : Value → World → Prop} (hK : ∀ w', Mod [] w w' → K (.bool (decide (e ∈ s.2))) w') :
    CallsR Try.prog F_locks_Lock_waits #[.pointer (some ⟨p, 0, none⟩), .int .i64 e] w K := by
  obtain ⟨a, l, c, G, T, h1, h2, h3, rfl⟩ := h
  have hli := h2.i64
  obtain ⟨r1, r2, r3⟩ := row_of h2 (by omega)
  have := waits_in Fence.wide 3 trivial trivial trivial rfl (by omega) p e s.2 w (lt_of_get h1) ⟨a, c, by rw [cell_get h1, r1]; rfl, r2, r3⟩
  exact Calls.mono (callsIn_wide.1 this) fun e' w' ⟨h1, h2⟩ => ⟨_, h1, hK w' (mod_of_below h2)⟩

theorem queue_run (h : LkP w p s F) (hl : s.2.length ≤ 1000) {K : Value → World → Prop} (hK : ∀ A C w' H, SlB w' A s.2.length C 1 (i64s s.2) H → Beyond w.heap.size H → Mod [] w w' → K (.slice A s.2.length C) w') :
    CallsR Try.prog F_locks_Lock_Queue #[.pointer (some ⟨p, 0, none⟩)] w K := by
  apply R_locks_Lock_Queue_ok
  simp only [R_locks_Lock_Queue, Option.isNone_some, spl_false]
  apply R_locks_Lock_waiting_ok
  simp only [R_locks_Lock_waiting, newK_eq]
  refine ⟨_, rfl, ?_⟩
  apply R_slices_Collect_int_ok
  simp only [R_slices_Collect_int]
  have hm : Mod [] w (w.alloc (.cells #[.pointer (some ⟨p, 0, none⟩)] 23)) := (Mod.refl _ _).alloc _
  have hb : (w.alloc (.cells #[.pointer (some ⟨p, 0, none⟩)] 23)).heap[w.heap.size]? = some _ := alloc_new w _
  have h' := h.keep (hm.at0 h.lt)
  generalize hbn : w.heap.size = bn at hb ⊢
  generalize w.alloc (.cells #[.pointer (some ⟨p, 0, none⟩)] 23) = w1 at hm hb h' ⊢
  obtain ⟨a, l, c, G, T, h1, h2, h3, rfl⟩ := h'
  have hli := h2.i64
  obtain ⟨r1, r2, r3⟩ := row_of h2 (by omega)
  have := appendSeq_in Fence.wide 3 trivial trivial rfl (by omega) bn p s.2 (by unfold maxLen; omega) (by omega) w1 ⟨by rw [cell_get hb]; rfl, lt_of_get hb, lt_of_get h1, a, c, by rw [cell_get h1, r1]; rfl, r2, r3⟩
  refine Calls.mono (callsIn_wide.1 this) ?_
  rintro e w' ⟨v, rfl, ho, -, hB⟩
  have hm' := hm.trans' (mod_of_below hB)
  have hs1 := hm.size
  rcases ho.2 with ⟨rfl, hn⟩ | ⟨g, cap, cur, rfl, hg, hgb, hle, hmx, hcs, htk⟩
  · refine ⟨_, rfl, none, 0, 0, rfl, _, _, _, rfl, ?_⟩
    have := hK none 0 w' [] (by rw [List.eq_nil_of_length_eq_zero hn]; exact SlB.nil _ _) (by simp [Beyond]) hm'
    rwa [hn] at this
  · refine ⟨_, rfl, _, _, _, rfl, _, _, _, rfl, hK _ _ w' [g] (.inr ⟨g, 0, cur, 3, rfl, rfl, hgb, hle, by omega, by simp [i64s], fun i hi => ?_⟩) (by intro x hx; simp only [List.mem_singleton] at hx; omega) hm'⟩
    have e : i64s s.2 = cur.toList.take (s.2.length * 1) := htk.symm
    rw [e] at hi ⊢
    rw [List.getElem?_take, if_pos (by rw [List.length_take] at hi; omega), Nat.zero_add]
    simp

theorem holder_run (h : LkP w p s F) {K : Value → World → Prop} (hK : K (.int .i64 s.1) w) : CallsR Try.prog F_locks_Lock_Holder #[.pointer (some ⟨p, 0, none⟩)] w K := by
  apply R_locks_Lock_Holder_ok
  obtain ⟨a, l, c, G, T, h1, h2, h3, rfl⟩ := h
  simp only [R_locks_Lock_Holder, Option.isNone_some, spl_false, nilK_some, cell_get h1]
  exact ⟨s.1, rfl, hK⟩

theorem ask_run (h : LkP w p s F) (hl : s.2.length ≤ 900) (e : Int) {K : Value → World → Prop} (hK : ∀ w' F', LkP w' p (askS s e) F' → Mod F w w' → Den.Own w F F' → K (.bool (askB s e)) w') :
    CallsR Try.prog F_locks_Lock_Ask #[.pointer (some ⟨p, 0, none⟩), .int .i64 e] w K := by
  apply R_locks_Lock_Ask_ok
  have h0 := h
  obtain ⟨a, l, c, G, T, h1, h2, h3, rfl⟩ := h
  have hli := h2.i64
  simp only [R_locks_Lock_Ask, Option.isNone_some, spl_false, nilK_some, addr_add, Nat.zero_add, newK_eq, spl_decide]
  refine ⟨fun w' => ∃ F', 0 ≤ e ∧ LkP w' p (askS s e) F' ∧ Mod (p :: G) w w' ∧ Den.Own w (p :: G) F', ?_, ?_⟩
  · rintro - w' ⟨F', he, hp', hm, ho⟩
    have hp := hp'
    obtain ⟨a', l', c', G', T', g1, g2, g3, rfl⟩ := hp'
    refine ⟨_, by rw [cell_get g1]; rfl, ?_⟩
    have := hK w' _ hp hm ho
    rwa [askB, decide_eq_true he, Bool.true_and] at this
  refine ⟨fun hn => ?_, fun he => ⟨s.1, by rw [cell_get h1]; rfl, fun hn => ?_, fun hw => ⟨s.1, by rw [cell_get h1]; rfl, ?_⟩⟩⟩
  · have := hK w _ (by unfold askS; rw [if_pos hn]; exact h0) (Mod.refl _ _) (Den.Own.refl _ _)
    rwa [askB, decide_eq_false (by omega), Bool.false_and] at this
  · refine stK_of h1 (by simp) ?_
    refine ⟨p :: G, by omega, ?_, (Mod.refl _ _).upd (.inl (by simp)) _, Den.Own.refl _ _⟩
    unfold askS
    rw [if_neg (by omega), if_pos hn]
    exact ⟨a, l, c, G, T, by rw [upd_same h1]; rfl, h2.keep fun b hb => upd_ne _ (by rintro rfl; exact h3 hb), h3, rfl⟩
  · rw [spl_bne]
    refine ⟨fun hne => ?_, fun heq => ⟨p :: G, by omega, ?_, Mod.refl _ _, Den.Own.refl _ _⟩⟩
    · refine waits_run h0 (by omega) e fun w1 hm1 => ⟨_, rfl, ?_⟩
      rw [spl_decide]
      refine ⟨fun hin => ⟨p :: G, by omega, ?_, hm1.of0, Den.Own.refl _ _⟩, fun hnin => ?_⟩
      · unfold askS
        rw [if_neg (by omega), if_neg (by omega), if_neg (by simp [hin])]
        exact h0.keep (hm1.at0 h0.lt)
      · have g1 := hm1.get h1 (by simp)
        have g2 := h2.keep (hm1.at0 h2.lt)
        refine ⟨a, l, c, by rw [cell_get g1]; rfl, ?_⟩
        refine grow_K slT_int (by decide) g2 (us := [.int .i64 e]) rfl (by simp [isCell]) (by omega) (by omega) fun A C w2 G2 hs2 hm2 ho2 => ⟨_, _, _, rfl, ?_⟩
        have hp2 := hm2.get g1 h3
        have hm02 : Mod G w w2 := hm1.of0.trans' hm2
        have hplt := lt_of_get h1
        have hs1 := hm1.size
        have hG2 : ∀ b ∈ G2, b ∈ G ∨ w.heap.size ≤ b := fun b hb => (ho2 b hb).imp id fun h => by omega
        have hpG2 : p ∉ G2 := fun h => by
          rcases hG2 p h with h | h
          · exact h3 h
          · omega
        refine stK_of hp2 (by simp) ?_
        refine ⟨p :: G2, by omega, ?_, (hm02.mono (by simp +contextual)).upd (.inl (by simp)) _, ?_⟩
        · unfold askS
          rw [if_neg (by omega), if_neg (by omega), if_pos ⟨hne, hnin⟩]
          refine ⟨A, l + 1, C, G2, T, by rw [upd_same hp2]; rfl, ?_, hpG2, rfl⟩
          rw [i64s_append]
          exact hs2.keep fun b hb => upd_ne _ (by rintro rfl; exact hpG2 hb)
        · intro b hb
          simp only [List.mem_cons] at hb ⊢
          rcases hb with rfl | hb
          · exact .inl (.inl rfl)
          · exact (hG2 b hb).imp .inr id
    · unfold askS
      rw [if_neg (by omega), if_neg (by omega), if_neg (by simp [heq])]
      exact h0

theorem leave_run (h : LkP w p s F) (hl : s.2.length ≤ 1000) (e : Int) {K : Value → World → Prop} (hK : ∀ w' F', LkP w' p (leaveS s e) F' → Mod F w w' → Den.Own w F F' → K (.tuple #[.int .i64 (leaveV s e).1, .int .i64 (leaveV s e).2]) w') :
    CallsR Try.prog F_locks_Lock_Leave #[.pointer (some ⟨p, 0, none⟩), .int .i64 e] w K := by
  apply R_locks_Lock_Leave_ok
  have h0 := h
  obtain ⟨a, l, c, G, T, h1, h2, h3, rfl⟩ := h
  have hli := h2.i64
  simp only [R_locks_Lock_Leave, Option.isNone_some, spl_false, nilK_some, addr_add, Nat.zero_add, spl_decide, spl_bne]
  have no : (e < 0 ∨ s.1 ≠ e) → K (.tuple #[.int .i64 0, .int .i64 106]) w := fun hn => by
    have := hK w _ (by unfold leaveS; rw [if_pos hn]; exact h0) (Mod.refl _ _) (Den.Own.refl _ _)
    rwa [leaveV, if_pos hn] at this
  refine ⟨fun hn => no (.inl hn), fun he => ⟨s.1, by rw [cell_get h1]; rfl, fun hne => no (.inr hne), fun heq => ?_⟩⟩
  have hg : ¬ (e < 0 ∨ s.1 ≠ e) := by omega
  refine stK_of h1 (by simp) ?_
  have m1 : Mod (p :: G) w (w.upd p (.cells (splice #[.int .i64 s.1, .slice a l c] 0 [.int .i64 (-1)]) T (0, 0))) := (Mod.refl _ _).upd (.inl (by simp)) _
  have g1 : (w.upd p (.cells (splice #[.int .i64 s.1, .slice a l c] 0 [.int .i64 (-1)]) T (0, 0))).heap[p]? = some (.cells #[.int .i64 (-1), .slice a l c] T (0, 0)) := by rw [upd_same h1]; rfl
  have g2 : SlB (w.upd p (.cells (splice #[.int .i64 s.1, .slice a l c] 0 [.int .i64 (-1)]) T (0, 0))) a l c 1 (i64s s.2) G := h2.keep fun b hb => upd_ne _ (by rintro rfl; exact h3 hb)
  generalize w.upd p _ = w1 at m1 g1 g2 ⊢
  refine ⟨fun w' => ∃ F', LkP w' p (leaveS s e) F' ∧ Mod (p :: G) w w' ∧ Den.Own w (p :: G) F', ?_, a, l, c, by rw [cell_get g1]; rfl, fun hlt => ?_, fun hge => ⟨p :: G, ?_, m1, Den.Own.refl _ _⟩⟩
  · rintro - w' ⟨F', hp', hm, ho⟩
    have hp := hp'
    obtain ⟨a', l', c', G', T', k1, k2, k3, rfl⟩ := hp'
    refine ⟨_, by rw [cell_get k1]; rfl, ?_⟩
    have := hK w' _ hp hm ho
    rwa [leaveV, if_neg hg] at this
  · obtain ⟨x, xs, hx⟩ : ∃ x xs, s.2 = x :: xs := by
      cases hs : s.2 with
      | nil => rw [hs] at hli; simp at hli; omega
      | cons x xs => exact ⟨x, xs, rfl⟩
    obtain ⟨ad, x', rfl, hx', hc, hF⟩ := g2.rd.i64at (k := 0) (by omega)
    rw [hx] at hx'
    obtain rfl : x = x' := by simpa using hx'
    rw [add_zero] at hc
    refine ⟨some ad, l, c, by rw [cell_get g1]; rfl, ?_⟩
    rw [nilK_some]
    refine ⟨⟨by omega, by omega⟩, x, hc, ?_⟩
    refine stK_of g1 (by simp) ?_
    have m2 : Mod (p :: G) w (w1.upd p (.cells (splice #[.int .i64 (-1), .slice (some ad) l c] 0 [.int .i64 x]) T (0, 0))) := m1.upd (.inl (by simp)) _
    have k1 : (w1.upd p (.cells (splice #[.int .i64 (-1), .slice (some ad) l c] 0 [.int .i64 x]) T (0, 0))).heap[p]? = some (.cells #[.int .i64 x, .slice (some ad) l c] T (0, 0)) := by rw [upd_same g1]; rfl
    have k2 : SlB (w1.upd p (.cells (splice #[.int .i64 (-1), .slice (some ad) l c] 0 [.int .i64 x]) T (0, 0))) (some ad) l c 1 (i64s s.2) G := g2.keep fun b hb => upd_ne _ (by rintro rfl; exact h3 hb)
    generalize w1.upd p _ = w2 at m2 k1 k2 ⊢
    refine ⟨some ad, l, c, by rw [cell_get k1]; rfl, ?_⟩
    refine slK_rd k2.rd k2.le (L := 1) (H := l) (.inl rfl) (.inr ⟨rfl, rfl⟩) (by omega) (Nat.le_refl _) fun a4 G4 hr4 hG4 => ?_
    have e4 : ((i64s s.2).drop (1 * 1)).take ((l - 1) * 1) = i64s xs := by
      rw [i64s_drop, i64s_take, hx]
      simp only [Nat.mul_one, List.drop_one, List.tail_cons]
      rw [hx] at hli
      simp at hli
      have : xs.take (l - 1) = xs := List.take_of_length_le (by omega)
      rw [this]
    rw [e4] at hr4
    refine clone_i64 hr4 (by omega) fun A C w3 G3 hs3 hG3 m3 => ⟨_, _, _, rfl, ?_⟩
    have j1 := m3.get k1 (by simp)
    have hw2 := m2.size
    have hplt := lt_of_get h1
    have hpG3 : p ∉ G3 := fun h => by have := hG3 p h; omega
    refine stK_of j1 (by simp) ?_
    refine ⟨p :: G3, ?_, (m2.trans' m3.of0).upd (.inl (by simp)) _, fun b hb => ?_⟩
    · unfold leaveS
      rw [if_neg hg, hx]
      exact ⟨A, l - 1, C, G3, T, by rw [upd_same j1]; rfl, hs3.keep fun b hb => upd_ne _ (by rintro rfl; exact hpG3 hb), hpG3, rfl⟩
    · rcases List.mem_cons.1 hb with rfl | hb
      · exact .inl (by simp)
      · have := hG3 b hb; exact .inr (by omega)
  · have hx : s.2 = [] := List.eq_nil_of_length_eq_zero (by omega)
    unfold leaveS
    rw [if_neg hg, hx]
    rw [hx] at g2
    exact ⟨a, l, c, G, T, g1, g2, h3, rfl⟩
end

end Go.Proofs
