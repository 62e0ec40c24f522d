/-
  Layer 4: contracts of the console and of the timer.
-/
import Derived.Test.YtfiamglndglbeaaRes
set_option linter.unusedSimpArgs false
namespace Go.Proofs
open Go Go.Den

theorem ext0 (s : ByteArray) : s.extract 0 0 = ByteArray.mk #[] := by
  have : (s.extract 0 0).size = 0 := by simp
  rw [ByteArray.ext_iff]
  apply Array.ext'
  simp
theorem ext_full (s : ByteArray) : s.extract 0 s.size = s := by simp
theorem ext_cat (s : ByteArray) (k m : Nat) (h : k + m ≤ s.size) : s.extract 0 k ++ (s.extract k s.size).extract 0 m = s.extract 0 (k + m) := by
  rw [ByteArray.extract_extract, Nat.add_zero, Nat.min_eq_left h, ByteArray.extract_append_extract, Nat.min_eq_left (Nat.zero_le k), Nat.max_eq_right (by omega)]
theorem ext_rest (s : ByteArray) (k m : Nat) (h : k + m ≤ s.size) : (s.extract k s.size).extract m (s.extract k s.size).size = s.extract (k + m) s.size := by
  have e : k + (min s.size s.size - k) = s.size := by omega
  rw [ByteArray.extract_extract, ByteArray.size_extract, e, Nat.min_self]
theorem ext_size (s : ByteArray) (k : Nat) : (s.extract k s.size).size = s.size - k := by simp

/-- How many bytes are taken. -/
def takes (inp : ByteArray) (n : Int) : Nat := (min n (inp.size : Int)).toNat
theorem takes_le (inp : ByteArray) (n : Int) : takes inp n ≤ inp.size := by unfold takes; omega

/-- The console at block 'p'. -/
def ConsP (w : World) (p : Nat) (inp out : ByteArray) (F : List Nat) : Prop :=
  ∃ (a : Option Addr) (c : Nat) (G : List Nat) (T : TypeId), w.heap[p]? = some (.cells #[.slice a out.size c, .string inp] T (0, 0)) ∧ SlB w a out.size c 1 (bys8 out) G ∧ p ∉ G ∧ F = p :: G
theorem ConsP.keep {w w' : World} {p : Nat} {inp out : ByteArray} {F : List Nat} (h : ConsP w p inp out F) (hk : ∀ b ∈ F, w'.heap[b]? = w.heap[b]?) : ConsP w' p inp out F := by
  obtain ⟨a, c, G, T, h1, h2, h3, rfl⟩ := h
  exact ⟨a, c, G, T, (hk p (by simp)).trans h1, h2.keep fun b hb => hk b (by simp [hb]), h3, rfl⟩
theorem ConsP.lt {w : World} {p : Nat} {inp out : ByteArray} {F : List Nat} (h : ConsP w p inp out F) : ∀ b ∈ F, b < w.heap.size := by
  obtain ⟨a, c, G, T, h1, h2, h3, rfl⟩ := h
  intro b hb
  simp at hb
  rcases hb with rfl | hb
  · exact lt_of_get h1
  · exact h2.lt b hb

theorem dev_new (inp : ByteArray) (w : World) {K : Value → World → Prop} (h : ∀ (p : Nat) (F : List Nat) (w' : World), ConsP w' p inp (ByteArray.mk #[]) F → Mod [] w w' → (∀ b ∈ F, w.heap.size ≤ b) → K (.pointer (some ⟨p, 0, none⟩)) w') :
    CallsR Try.prog F_device_New #[.string inp] w K := by
  apply R_device_New_ok
  simp only [R_device_New, newK_eq]
  exact h _ [w.heap.size] _ ⟨none, 0, [], 53, alloc_new _ _, SlB.nil _ 1, by simp, rfl⟩ ((Mod.refl _ _).alloc _) (by simp)

theorem paper_write {w : World} {p : Nat} {inp out : ByteArray} {F : List Nat} (hp : ConsP w p inp out F) (s : ByteArray) (hb : out.size + s.size ≤ 140737488355328) {K : Value → World → Prop}
    (h : ∀ (w' : World) (F' : List Nat), ConsP w' p inp (out ++ s) F' → Mod F w w' → Own w F F' → K (.tuple #[]) w') : CallsR Try.prog F_device_paper_write #[.pointer (some ⟨p, 0, none⟩), .string s] w K := by
  apply R_device_paper_write_ok
  obtain ⟨a, c, G, T, h1, h2, h3, rfl⟩ := hp
  simp only [R_device_paper_write, nilK_some, addr_add, cell_get h1]
  obtain ⟨a', c', w', G', hr, hs, hm, ho⟩ := append_str slT_u8 (show Try.prog.underlying 9 = some .string by kernel_rfl) h2 s (by omega) (by omega) 49
  have h1' := hm.get h1 h3
  have hlt1 := lt_of_get h1
  have hpG : p ∉ G' := fun hm' => by
    rcases ho p hm' with h | h
    · exact h3 h
    · omega
  refine ⟨_, _, _, rfl, _, _, hr, _, _, _, rfl, stK_of h1' (by simp) ?_⟩
  have e : (out ++ s).size = out.size + s.size := by simp
  refine h _ (p :: G') ⟨a', c', G', T, ?_, ?_, hpG, rfl⟩ ?_ ?_
  · rw [upd_same h1', e]; simp
  · rw [e, bys8_append]
    exact hs.keep fun b hb => upd_ne _ (by rintro rfl; exact hpG hb)
  · exact (hm.mono (by simp +contextual)).upd (.inl (by simp)) _
  · intro b hb
    simp at hb
    rcases hb with rfl | hb
    · exact .inl (by simp)
    · rcases ho b hb with h | h
      · exact .inl (by simp [h])
      · exact .inr h

theorem cons_put {w : World} {p : Nat} {inp out : ByteArray} {F : List Nat} (hp : ConsP w p inp out F) (s : ByteArray) (hb : out.size + s.size ≤ 140737488355328) {K : Value → World → Prop}
    (h : ∀ (w' : World) (F' : List Nat), ConsP w' p inp (out ++ s) F' → Mod F w w' → Own w F F' → K (.tuple #[]) w') : CallsR Try.prog F_device_Console_Put #[.pointer (some ⟨p, 0, none⟩), .string s] w K := by
  apply R_device_Console_Put_ok
  simp only [R_device_Console_Put, Option.isNone_some, Bool.not_false, spl_true, nilK_some]
  exact paper_write hp s hb fun w' F' h1 h2 h3 => ⟨rfl, h w' F' h1 h2 h3⟩

theorem cons_out {w : World} {p : Nat} {inp out : ByteArray} {F : List Nat} (hp : ConsP w p inp out F) {K : Value → World → Prop} (h : K (.string out) w) : CallsR Try.prog F_device_Console_Out #[.pointer (some ⟨p, 0, none⟩)] w K := by
  apply R_device_Console_Out_ok
  simp only [R_device_Console_Out, Option.isNone_some, spl_false, nilK_some]
  apply R_device_paper_all_ok
  obtain ⟨a, c, G, T, h1, h2, h3, rfl⟩ := hp
  simp only [R_device_paper_all, nilK_some, addr_add, cell_get h1]
  exact ⟨_, _, _, rfl, _, _, convert_str (by kernel_rfl) (show Try.prog.underlying 5 = some (.int .u8) by kernel_rfl) (by kernel_rfl) h2, _, rfl, _, rfl, h⟩

theorem cons_left {w : World} {p : Nat} {inp out : ByteArray} {F : List Nat} (hp : ConsP w p inp out F) {K : Value → World → Prop} (h : K (.int .i64 (inp.size : Int)) w) : CallsR Try.prog F_device_Console_Left #[.pointer (some ⟨p, 0, none⟩)] w K := by
  apply R_device_Console_Left_ok
  obtain ⟨a, c, G, T, h1, h2, h3, rfl⟩ := hp
  simp only [R_device_Console_Left, Option.isNone_some, spl_false, nilK_some, addr_add, cell_get h1]
  exact ⟨_, rfl, h⟩

theorem cons_get {w : World} {p : Nat} {inp out : ByteArray} {F : List Nat} (hp : ConsP w p inp out F) (n : Int) {K : Value → World → Prop}
    (h : ∀ (w' : World), ConsP w' p (inp.extract (takes inp n) inp.size) out F → Mod F w w' → K (.string (inp.extract 0 (takes inp n))) w') : CallsR Try.prog F_device_Console_Get #[.pointer (some ⟨p, 0, none⟩), .int .i64 n] w K := by
  apply R_device_Console_Get_ok
  have hp0 := hp
  obtain ⟨a, c, G, T, h1, h2, h3, rfl⟩ := hp
  simp only [R_device_Console_Get, Option.isNone_some, spl_false, spl_decide, nilK_some, addr_add, cell_get h1]
  refine ⟨fun hn => ?_, fun hn => ?_⟩
  · have e : takes inp n = 0 := by unfold takes; omega
    have := h w (by rw [e, ext_full]; exact hp0) (Mod.refl _ _)
    rwa [e, ext0] at this
  · have e : (if (inp.size : Int) < n then (inp.size : Int) else n) = ((takes inp n : Nat) : Int) := by
      unfold takes
      split <;> omega
    have hle := takes_le inp n
    refine ⟨inp, rfl, inp, rfl, ?_⟩
    rw [e]
    refine ⟨⟨by omega, by omega⟩, trivial, inp, rfl, ?_⟩
    refine ⟨trivial, ⟨by omega, by simp only [sM]; omega⟩, stK_of h1 (by simp) ?_⟩
    simp only [sM, Int.toNat_natCast]
    refine h _ ⟨a, c, G, T, ?_, ?_, h3, rfl⟩ ?_
    · rw [upd_same h1]; simp
    · exact h2.keep fun b hb => upd_ne _ (by rintro rfl; exact h3 hb)
    · exact (Mod.refl _ _).upd (.inl (by simp)) _

/-- The reference's console at block 'q'. -/
def ConsR (w : World) (q : Nat) (inp out : ByteArray) : Prop := ∃ T : TypeId, w.heap[q]? = some (.cells #[.string inp, .string out] T (0, 0))
theorem ref_cget {w : World} {q : Nat} {inp out : ByteArray} (hq : ConsR w q inp out) (n : Int) {K : Value → World → Prop}
    (h : ∀ (w' : World), ConsR w' q (inp.extract (takes inp n) inp.size) out → Mod [q] w w' → K (.string (inp.extract 0 (takes inp n))) w') : CallsR Try.prog F_janusref04_Console_Get #[.pointer (some ⟨q, 0, none⟩), .int .i64 n] w K := by
  apply R_janusref04_Console_Get_ok
  obtain ⟨T, h1⟩ := hq
  simp only [R_janusref04_Console_Get, nilK_some, addr_add, cell_get h1]
  refine ⟨inp, rfl, inp, rfl, ?_⟩
  have e : (if (if (inp.size : Int) < n then (inp.size : Int) else n) > (0 : Int) then (if (inp.size : Int) < n then (inp.size : Int) else n) else (0 : Int)) = ((takes inp n : Nat) : Int) := by
    unfold takes
    split <;> split <;> omega
  have hle := takes_le inp n
  rw [e]
  refine ⟨⟨by omega, by omega⟩, trivial, inp, rfl, ?_⟩
  refine ⟨trivial, ⟨by omega, by simp only [sM]; omega⟩, stK_of h1 (by simp) ?_⟩
  simp only [sM, Int.toNat_natCast]
  exact h _ ⟨T, by rw [upd_same h1]; simp⟩ ((Mod.refl _ _).upd (.inl (by simp)) _)

/-- A timer at block 'p', the program's or the reference's. -/
def TimP (w : World) (p : Nat) (n : Int) : Prop := ∃ T : TypeId, w.heap[p]? = some (.cells #[.int .i64 n] T (0, 0))
theorem TimP.keep {w w' : World} {p : Nat} {n : Int} (h : TimP w p n) (hk : w'.heap[p]? = w.heap[p]?) : TimP w' p n := h.elim fun T h => ⟨T, hk.trans h⟩
theorem tim_new (w : World) {K : Value → World → Prop} (h : ∀ (p : Nat) (w' : World), TimP w' p 0 → Mod [] w w' → w.heap.size ≤ p → K (.pointer (some ⟨p, 0, none⟩)) w') : CallsR Try.prog F_device_NewTimer #[] w K := by
  apply R_device_NewTimer_ok
  simp only [R_device_NewTimer, newK_eq]
  exact h _ _ ⟨_, alloc_new _ _⟩ ((Mod.refl _ _).alloc _) (Nat.le_refl _)
theorem tim_set {w : World} {p : Nat} {m : Int} (hp : TimP w p m) (n : Int) {K : Value → World → Prop} (h0 : n < 0 ∨ 200 < n → K (.int .i64 101) w)
    (h1 : 0 ≤ n → n ≤ 200 → ∀ w', TimP w' p n → Mod [p] w w' → K (.int .i64 0) w') : CallsR Try.prog F_device_Timer_Set #[.pointer (some ⟨p, 0, none⟩), .int .i64 n] w K := by
  apply R_device_Timer_Set_ok
  obtain ⟨T, hp⟩ := hp
  simp only [R_device_Timer_Set, Option.isNone_some, spl_false, spl_decide, nilK_some]
  refine ⟨fun h => h0 (.inl h), fun h => ⟨fun h => h0 (.inr h), fun h' => stK_of hp (by simp) (h1 (by omega) (by omega) _ ⟨T, by rw [upd_same hp]; simp⟩ ((Mod.refl _ _).upd (.inl (by simp)) _))⟩⟩
theorem tim_rset {w : World} {p : Nat} {m : Int} (hp : TimP w p m) (n : Int) {K : Value → World → Prop} (h0 : n < 0 ∨ 200 < n → K (.int .i64 101) w)
    (h1 : 0 ≤ n → n ≤ 200 → ∀ w', TimP w' p n → Mod [p] w w' → K (.int .i64 0) w') : CallsR Try.prog F_janusref04_Timer_Set #[.pointer (some ⟨p, 0, none⟩), .int .i64 n] w K := by
  apply R_janusref04_Timer_Set_ok
  obtain ⟨T, hp⟩ := hp
  simp only [R_janusref04_Timer_Set, spl_decide, nilK_some]
  refine ⟨fun h => h0 (.inl h), fun h => ⟨fun h => h0 (.inr h), fun h' => stK_of hp (by simp) (h1 (by omega) (by omega) _ ⟨T, by rw [upd_same hp]; simp⟩ ((Mod.refl _ _).upd (.inl (by simp)) _))⟩⟩
theorem tim_tick {w : World} {p : Nat} {n : Int} (hp : TimP w p n) (hn : 0 ≤ n ∧ n ≤ 200) {K : Value → World → Prop}
    (h : ∀ w', TimP w' p (if n = 0 then 0 else n - 1) → Mod [p] w w' → K (.bool (decide (n = 1))) w') : CallsR Try.prog F_device_Timer_Tick #[.pointer (some ⟨p, 0, none⟩)] w K := by
  apply R_device_Timer_Tick_ok
  have hp0 := hp
  obtain ⟨T, hp⟩ := hp
  simp only [R_device_Timer_Tick, Option.isNone_some, spl_false, spl_beq, nilK_some, addr_add, cell_get hp]
  refine ⟨n, rfl, fun h0 => ?_, fun h0 => ⟨n, rfl, stK_of hp (by simp) ?_⟩⟩
  · have := h w (by rw [if_pos h0]; exact h0 ▸ hp0) (Mod.refl _ _)
    rwa [decide_eq_false (by omega)] at this
  · rw [w64 (by omega) (by omega)]
    have hu := upd_same (x := .cells (splice #[.int .i64 n] 0 [.int .i64 (n - 1)]) T (0, 0)) hp
    refine ⟨n - 1, by rw [cell_get hu]; simp, ?_⟩
    have := h _ ⟨T, by rw [hu, if_neg h0]; simp⟩ ((Mod.refl _ w).upd (.inl (by simp)) (.cells (splice #[.int .i64 n] 0 [.int .i64 (n - 1)]) T (0, 0)))
    have e : ((n - 1) == (0 : Int)) = decide (n = 1) := by
      by_cases h1 : n = 1
      · subst h1; rfl
      · rw [decide_eq_false h1]; simp; omega
    rw [e]; exact this
theorem tim_rtick {w : World} {p : Nat} {n : Int} (hp : TimP w p n) (hn : 0 ≤ n ∧ n ≤ 200) {K : Value → World → Prop}
    (h : ∀ w', TimP w' p (if n = 0 then 0 else n - 1) → Mod [p] w w' → K (.bool (decide (n = 1))) w') : CallsR Try.prog F_janusref04_Timer_Tick #[.pointer (some ⟨p, 0, none⟩)] w K := by
  apply R_janusref04_Timer_Tick_ok
  have hp0 := hp
  obtain ⟨T, hp⟩ := hp
  simp only [R_janusref04_Timer_Tick, spl_beq, nilK_some, addr_add, cell_get hp]
  refine ⟨n, rfl, fun h0 => ?_, fun h0 => ⟨n, rfl, stK_of hp (by simp) ?_⟩⟩
  · have := h w (by rw [if_pos h0]; exact h0 ▸ hp0) (Mod.refl _ _)
    rwa [decide_eq_false (by omega)] at this
  · rw [w64 (by omega) (by omega)]
    have hu := upd_same (x := .cells (splice #[.int .i64 n] 0 [.int .i64 (n - 1)]) T (0, 0)) hp
    refine ⟨n - 1, by rw [cell_get hu]; simp, ?_⟩
    have := h _ ⟨T, by rw [hu, if_neg h0]; simp⟩ ((Mod.refl _ w).upd (.inl (by simp)) (.cells (splice #[.int .i64 n] 0 [.int .i64 (n - 1)]) T (0, 0)))
    have e : ((n - 1) == (0 : Int)) = decide (n = 1) := by
      by_cases h1 : n = 1
      · subst h1; rfl
      · rw [decide_eq_false h1]; simp; omega
    rw [e]; exact this
theorem tim_left {w : World} {p : Nat} {n : Int} (hp : TimP w p n) {K : Value → World → Prop} (h : K (.int .i64 n) w) : CallsR Try.prog F_device_Timer_Left #[.pointer (some ⟨p, 0, none⟩)] w K := by
  apply R_device_Timer_Left_ok
  obtain ⟨T, hp⟩ := hp
  simp only [R_device_Timer_Left, Option.isNone_some, spl_false, nilK_some, addr_add, cell_get hp]
  exact ⟨n, rfl, h⟩

end Go.Proofs
