/-
  'Has' of the reference: is a number among some?
  janusref01.Put: a number where it belongs.
  janusref08: contracts of the reference's capabilities.
  janusref08: contracts of the reference's capabilities: what may be, who has what.
  janusref08: contract of the reference's 'Has'.
  janusref08: contracts of the reference's capabilities: who has one, what is given on.
  janusref08: contracts of the reference's capabilities: one goes.
  janusref08: contracts of the reference's capabilities: all of one's go.
  janusref08: contracts of the reference's capabilities: Revoke.
-/
import Derived.Test.YthpcakhhemdibaaGreatDenC
import Derived.Test.YthpcakhhemdibaaGreatRes
import Derived.Test.YthpcakhhemdibaaGreatCapsA
import Derived.Test.YthpcakhhemdibaaGreatDenB
set_option linter.unusedVariables false
set_option linter.unusedSimpArgs false
namespace Go.Proofs
open Go Go.Den

theorem has_rd {w : World} {a : Option Addr} {l c : Nat} {xs : List Int} {F : List Nat} (hx : Rd w a l 1 (i64s xs) F) (hl : l ≤ 9223372036854775807) (n : Int) {K : Value → World → Prop} (h : K (.bool (decide (n ∈ xs))) w) : CallsR Tryz.prog F_janusref01_Has #[.slice a l c, .int .i64 n] w K := by
  apply R_janusref01_Has_ok
  simp only [R_janusref01_Has, spl_decide, spl_beq]
  have e1 := hx.i64
  refine ⟨fun m i w' => ∃ k : Nat, i = k ∧ k ≤ l ∧ m = l - k ∧ w' = w ∧ n ∉ xs.take k, ⟨l, 0, rfl, by omega, rfl, rfl, by simp⟩, ?_⟩
  rintro m i - w2 ⟨k, rfl, hk, rfl, rfl, hbef⟩
  refine ⟨fun hlt => ?_, fun hge => ?_⟩
  · obtain ⟨ad, x, rfl, hxk, hc, -, -⟩ := hx.i64at (k := k) (by omega)
    rw [nilK_some, Int.toNat_natCast]
    refine ⟨⟨by omega, by omega⟩, x, hc, fun heq => ?_, fun hne => ⟨l - (k + 1), by omega, k + 1, by rw [w64 (by omega) (by omega)]; omega, by omega, rfl, rfl, ?_⟩⟩
    · subst heq
      rw [show true = decide (x ∈ xs) from (decide_eq_true (List.mem_of_getElem? hxk)).symm]
      exact h
    · rw [List.take_add_one, hxk]
      simp only [List.mem_append, Option.mem_toList, Option.mem_some_iff, not_or]
      exact ⟨hbef, fun e => hne (Option.some.inj e)⟩
  · rw [List.take_of_length_le (by omega)] at hbef
    rw [show false = decide (n ∈ xs) from (decide_eq_false hbef).symm]
    exact h

end Go.Proofs

set_option linter.unusedSimpArgs false
namespace Go.Proofs
open Go Go.Den

theorem putL_split : ∀ (l : List Int) (n : Int) (k : Nat), (∀ x ∈ l.take k, x < n) → (∀ x, l[k]? = some x → ¬ x < n) → k ≤ l.length → putL l n = l.take k ++ [n] ++ l.drop (if l[k]? = some n then k + 1 else k)
  | [], n, k, _, _, hk => by
    have : k = 0 := by simpa using hk
    subst this
    simp [putL]
  | x :: l, n, 0, _, h, _ => by
    have := h x rfl
    unfold putL
    rw [if_neg this]
    by_cases hx : x = n
    · subst hx; simp
    · simp [hx]
  | x :: l, n, k + 1, h1, h2, hk => by
    have hx : x < n := h1 x (by simp)
    unfold putL
    rw [if_pos hx, putL_split l n k (fun y hy => h1 y (by simp [hy])) (fun y hy => h2 y (by simpa using hy)) (by simpa using hk)]
    have e : ((x :: l)[k + 1]? = some n) = (l[k]? = some n) := by simp
    simp only [e, List.take_succ_cons, List.cons_append]
    congr 1
    split <;> simp

theorem put_rd {w0 : World} {a : Option Addr} {l c : Nat} {xs : List Int} {F : List Nat} (hx : Rd w0 a l 1 (i64s xs) F) (hlc : l ≤ c) (hl : l ≤ 1000000) (n : Int) {K : Value → World → Prop}
    (hK : ∀ A L C w' G, SlB w' A L C 1 (i64s (putL xs n)) G → Beyond w0.heap.size G → Mod [] w0 w' → K (.slice A L C) w') : CallsR Tryz.prog F_janusref01_Put #[.slice a l c, .int .i64 n] w0 K := by
  apply R_janusref01_Put_ok
  simp only [R_janusref01_Put, newK_eq, spl_decide, spl_beq]
  have hlen := hx.i64
  refine ⟨fun A L C i w => ∃ (k : Nat) (G : List Nat), i = k ∧ k ≤ l ∧ L ≤ k ∧ (∀ x ∈ xs.take k, x < n) ∧ (∀ x, xs[k]? = some x → ¬ x < n) ∧ SlB w A L C 1 (i64s (xs.take k)) G ∧ Beyond w0.heap.size G ∧ Mod [] w0 w, ?_, ?_⟩
  · rintro A L C i - w1 ⟨k, G, rfl, hk, hL, hb, hn, hs1, hG1, hm1⟩
    refine push_K slT_int (by decide) hs1 hG1 hm1 (us := [.int .i64 n]) rfl (by simp [isCell]) (by omega) (by omega) fun A2 C2 w2 G2 hs2 hG2 hm2 _ _ => ⟨_, _, _, rfl, ?_⟩
    refine ⟨fun i w' => w' = w2 ∧ i = ((if xs[k]? = some n then k + 1 else k : Nat) : Int), ?_, ?_⟩
    · rintro i - w' ⟨rfl, rfl⟩
      obtain ⟨j, hj, hjl⟩ : ∃ j, j = (if xs[k]? = some n then k + 1 else k) ∧ j ≤ l := ⟨_, rfl, by
        split
        · rename_i h; have := (List.getElem?_eq_some_iff.1 h).1; omega
        · exact hk⟩
      rw [← hj]
      refine slK_rd (hx.mod0 hm2) hlc (L := j) (H := l) (.inl rfl) (.inr ⟨rfl, rfl⟩) hjl (Nat.le_refl _) fun a3 G3 hs3 hG3 => ?_
      have e3 : ((i64s xs).drop (j * 1)).take ((l - j) * 1) = i64s (xs.drop j) := by
        rw [i64s_drop, i64s_take, Nat.mul_one, Nat.mul_one]
        have : (xs.drop j).take (l - j) = xs.drop j := List.take_of_length_le (by simp; omega)
        rw [this]
      rw [e3] at hs3
      refine push_rd_K slT_int (by decide) hs2 hG2 hm2 hs3 (i64s_cell _) (by omega) (by omega) fun A4 C4 w4 G4 hs4 hG4 hm4 _ _ => ⟨_, _, _, rfl, hK A4 _ C4 w4 G4 ?_ hG4 hm4⟩
      rw [putL_split xs n k hb hn (by omega), ← hj, i64s_append, i64s_append]
      exact hs4
    · refine ⟨fun hlt => ?_, fun hge => ⟨rfl, ?_⟩⟩
      · obtain ⟨ad, x, rfl, hxk, hc, -, -⟩ := (hx.mod0 hm2).i64at (k := k) (by omega)
        rw [nilK_some, Int.toNat_natCast]
        refine ⟨⟨by omega, by omega⟩, x, hc, fun heq => ⟨rfl, ?_⟩, fun hne => ⟨rfl, ?_⟩⟩
        · subst heq
          rw [if_pos hxk, w64 (by omega) (by omega)]
          omega
        · rw [hxk, if_neg (by simpa using hne)]
      · rw [if_neg]
        rw [List.getElem?_eq_none (by omega)]
        simp
  · refine ⟨fun m A L C i w => ∃ (k : Nat) (G : List Nat), i = k ∧ k ≤ l ∧ m = l - k ∧ L ≤ k ∧ (∀ x ∈ xs.take k, x < n) ∧ SlB w A L C 1 (i64s (xs.take k)) G ∧ Beyond w0.heap.size G ∧ Mod [] w0 w, ⟨l, 0, [], rfl, by omega, rfl, by omega, by simp, SlB.nil _ 1, by simp [Beyond], Mod.refl _ _⟩, ?_⟩
    rintro m A L C i - w1 ⟨k, G, rfl, hk, rfl, hL, hb, hs1, hG1, hm1⟩
    refine ⟨fun hlt => ?_, fun hge => ⟨k, G, rfl, hk, hL, hb, fun x hx => (by rw [List.getElem?_eq_none (by omega)] at hx; cases hx), hs1, hG1, hm1⟩⟩
    obtain ⟨ad, x, rfl, hxk, hc, -, -⟩ := (hx.mod0 hm1).i64at (k := k) (by omega)
    simp only [nilK_some, Int.toNat_natCast]
    refine ⟨⟨by omega, by omega⟩, x, hc, fun hlt2 => ⟨⟨by omega, by omega⟩, x, hc, ?_⟩, fun hge => ⟨k, G, rfl, hk, hL, hb, fun y hy => (by rw [hxk] at hy; cases hy; exact hge), hs1, hG1, hm1⟩⟩
    refine push_K slT_int (by decide) hs1 hG1 hm1 (us := [.int .i64 x]) rfl (by simp [isCell]) (by omega) (by omega) fun A2 C2 w2 G2 hs2 hG2 hm2 _ _ => ⟨_, _, _, rfl, l - (k + 1), by omega, k + 1, G2, by rw [w64 (by omega) (by omega)]; omega, by omega, rfl, by omega, fun y hy => ?_, ?_, hG2, hm2⟩
    · rw [List.take_add_one, hxk] at hy
      rcases List.mem_append.1 hy with h | h
      · exact hb y h
      · simp at h; omega
    · rw [List.take_add_one, hxk, i64s_append]
      exact hs2

end Go.Proofs

set_option linter.unusedSimpArgs false
namespace Go.Proofs
open Go Go.Den

/-- The reference's capabilities at block 'p'. -/
def CR (w : World) (p : Nat) (s : S8) (F : List Nat) : Prop :=
  W8 s ∧ ∃ a l c G T, w.heap[p]? = some (.cells #[.slice a l c, .int .i64 s.last] T (0, 0)) ∧ SlB w a l c 8 (rows cec s.L) G ∧ p ∉ G ∧ F = p :: G
theorem CR.lt {w : World} {p : Nat} {s : S8} {F : List Nat} (h : CR w p s F) : ∀ b ∈ F, b < w.heap.size := by
  obtain ⟨hw, a, l, c, G, T, h1, h2, h3, rfl⟩ := h
  intro b hb
  rcases List.mem_cons.1 hb with rfl | hb
  · exact lt_of_get h1
  · exact h2.lt b hb
theorem CR.keep {w w' : World} {p : Nat} {s : S8} {F : List Nat} (h : CR w p s F) (hk : ∀ b ∈ F, w'.heap[b]? = w.heap[b]?) : CR w' p s F := by
  obtain ⟨hw, a, l, c, G, T, h1, h2, h3, rfl⟩ := h
  exact ⟨hw, a, l, c, G, T, (hk p (by simp)).trans h1, h2.keep fun b hb => hk b (by simp [hb]), h3, rfl⟩
theorem CR.mod0 {w w' : World} {p : Nat} {s : S8} {F : List Nat} (h : CR w p s F) (hm : Mod [] w w') : CR w' p s F := h.keep (hm.at0 h.lt)
def crPart (p : Nat) (s : S8) (F : List Nat) : Part := ⟨F, fun w => CR w p s F, fun h k => h.keep k, fun h => h.lt⟩

section
variable {w : World} {p : Nat} {s : S8} {F : List Nat}

theorem find_run (h : CR w p s F) (hL : s.L.length ≤ 1000000) (e sl : Int) {K : Value → World → Prop} (h0 : look8 s.L e sl = none → K (.int .i64 (-1)) w)
    (h1 : ∀ (i : Nat) c, s.L[i]? = some c → look8 s.L e sl = some c → i < s.L.length → K (.int .i64 (i : Int)) w) : CallsR Tryz.prog F_janusref08_Caps_find #[.pointer (some ⟨p, 0, none⟩), .int .i64 e, .int .i64 sl] w K := by
  apply R_janusref08_Caps_find_ok
  simp only [R_janusref08_Caps_find, nilK_some, spl_decide, spl_beq]
  obtain ⟨hw, a, l, c, G, T, g1, g2, g3, rfl⟩ := h
  have hl := g2.count cec_8 (by decide)
  refine ⟨fun n i w' => ∃ j : Nat, i = j ∧ j ≤ l ∧ n = l - j ∧ (∀ d ∈ s.L.take j, isAt e sl d = false) ∧ w' = w, ⟨l, 0, rfl, by omega, rfl, by simp, rfl⟩, ?_⟩
  rintro n i - w' ⟨j, rfl, hj, rfl, hno, rfl⟩
  have cp : w'.cell? ⟨p, 0, none⟩ = some (.slice a l c) := by rw [cell_get g1]; rfl
  refine ⟨a, l, c, cp, fun hlt => ⟨fun w1 => w1 = w' ∧ ∃ d, s.L[j]? = some d ∧ isAt e sl d = false, ?_, a, l, c, cp, ?_⟩, fun hge => h0 ?_⟩
  · rintro - w1 ⟨rfl, d, hd, hat⟩
    refine ⟨l - (j + 1), by omega, j + 1, by rw [w64 (by omega) (by omega)]; omega, by omega, rfl, fun d' hd' => ?_, by first | rfl | trivial⟩
    rw [List.take_add_one, hd] at hd'
    rcases List.mem_append.1 hd' with h | h
    · exact hno d' h
    · simp at h; subst h; exact hat
  · obtain ⟨ad, d, rfl, hd, -, -, hc⟩ := g2.rd.rowc cec_8 (by decide) (i := j) (by omega)
    simp only [nilK_some, Int.toNat_natCast, add_add, Nat.add_assoc, Nat.reduceAdd]
    refine ⟨⟨by omega, by omega⟩, d.env, hc 2 (by decide), fun he => ⟨some ad, l, c, cp, ?_⟩, fun hne => ⟨by trivial, d, hd, by simp [isAt, hne]⟩⟩
    rw [nilK_some]
    refine ⟨⟨by omega, by omega⟩, d.slot, hc 3 (by decide), fun hs => ?_, fun hne => ⟨by trivial, d, hd, by simp [isAt, hne]⟩⟩
    refine h1 j d hd ?_ (by omega)
    have := look8_of hw.key (List.mem_of_getElem? hd)
    rwa [he, hs] at this
  · rw [List.take_of_length_le (by omega)] at hno
    exact List.find?_eq_none.2 fun d hd => by rw [hno d hd]; simp

theorem env8_run (n : Int) {w : World} {K : Value → World → Prop} (h : K (.bool (decide (env12 n))) w) : CallsR Tryz.prog F_janusref08_Env #[.int .i64 n] w K := by
  apply R_janusref08_Env_ok
  simp only [R_janusref08_Env, spl_decide]
  refine ⟨fun h1 => ?_, fun h1 => ?_⟩
  · rw [show decide (n < 12) = decide (env12 n) from decide_eq_decide.2 (by unfold env12; omega)]; exact h
  · rw [show false = decide (env12 n) from (decide_eq_false (by unfold env12; omega)).symm]; exact h

theorem free_run (h : CR w p s F) (hL : s.L.length ≤ 1000000) (e : Int) {K : Value → World → Prop} (hK : K (.int .i64 (free8 s.L e)) w) : CallsR Tryz.prog F_janusref08_Caps_free #[.pointer (some ⟨p, 0, none⟩), .int .i64 e] w K := by
  apply R_janusref08_Caps_free_ok
  simp only [R_janusref08_Caps_free, spl_decide]
  refine ⟨fun n i w' => ∃ j : Nat, i = j ∧ 1 ≤ j ∧ j ≤ 65 ∧ n = 65 - j ∧ (∀ i : Nat, 1 ≤ i → i < j → look8 s.L e i ≠ none) ∧ w' = w, ⟨64, 1, rfl, by omega, by omega, rfl, fun i h1 h2 => by omega, rfl⟩, ?_⟩
  rintro n i - w' ⟨j, rfl, hj1, hj, rfl, hno, rfl⟩
  refine ⟨fun hle => ?_, fun hgt => ?_⟩
  · refine find_run h hL e j (fun h0 => ⟨_, rfl, ?_⟩) (fun i c hi hl hlt => ⟨_, rfl, ?_⟩)
    · refine ⟨fun _ => ?_, fun h => absurd (by decide) h⟩
      have : free8 s.L e = j := by
        rcases free8_spec s.L e with ⟨h1, h2⟩ | ⟨k, h1, h2, h3, h4, h5⟩
        · exact absurd h0 (h2 j hj1 (by omega))
        · rw [h3]
          rcases Nat.lt_trichotomy j k with hlt | heq | hgt
          · exact absurd h0 (h5 j hj1 hlt)
          · omega
          · exact absurd h4 (hno k h1 hgt)
      rw [this] at hK
      exact hK
    · refine ⟨fun h => by omega, fun _ => ⟨65 - (j + 1), by omega, j + 1, by rw [w64 (by omega) (by omega)]; omega, by omega, by omega, rfl, fun k h1 h2 => ?_, by first | rfl | trivial⟩⟩
      by_cases hk : k = j
      · subst hk; rw [hl]; simp
      · exact hno k h1 (by omega)
  · have : free8 s.L e = 0 := by
      rcases free8_spec s.L e with ⟨h1, h2⟩ | ⟨k, h1, h2, h3, h4, h5⟩
      · exact h1
      · exact absurd h4 (hno k h1 (by omega))
    rw [this] at hK
    exact hK

theorem putr_run (h : CR w p s F) (hL : s.L.length ≤ 100000) (hlast : s.last ≤ 1000000) {e o : Int} {x : Cap8} (hW : W8 (putS8 s e o x)) {K : Value → World → Prop} (hK : ∀ w' F', CR w' p (putS8 s e o x) F' → Mod F w w' → Own w F F' → K (.tuple #[.int .i64 (putV8 s e).1, .int .i64 (putV8 s e).2]) w') :
    CallsR Tryz.prog F_janusref08_Caps_put #[.pointer (some ⟨p, 0, none⟩), .int .i64 e, .int .i64 o, .agg #[.int .i64 x.k, .int .i64 x.i, .int .i64 x.n, .int .i64 x.r]] w K := by
  apply R_janusref08_Caps_put_ok
  simp only [R_janusref08_Caps_put, nilK_some, addr_add, Nat.zero_add]
  have h' := h
  obtain ⟨hw, a, l, c, G, T, g1, g2, g3, rfl⟩ := h
  have hl := g2.count cec_8 (by decide)
  have hplt := lt_of_get g1
  have hlast0 := hw.last
  refine (Sep.nil (Mod.refl [] w)).new fun b w1 s1 m1 hb => ?_
  refine free_run (h'.mod0 m1) (by omega) e ⟨_, rfl, ?_⟩
  rw [spl_beq]
  refine ⟨fun hz => ?_, fun hnz => ?_⟩
  · have := hK w1 (p :: G) (by unfold putS8; rw [if_pos hz]; exact h'.mod0 m1) m1.of0 (Own.refl _ _)
    rwa [putV8, if_pos hz] at this
  have hp1 := m1.get g1 (by simp)
  have hpb : p ≠ b := by omega
  refine ⟨s.last, by rw [cell_get hp1]; rfl, ?_⟩
  refine stK_of hp1 (by simp) ?_
  rw [w64 (by omega) (by omega)]
  have k1 : (w1.upd p (.cells (splice #[.slice a l c, .int .i64 s.last] 1 [.int .i64 (s.last + 1)]) T (0, 0))).heap[p]? = some (.cells #[.slice a l c, .int .i64 (s.last + 1)] T (0, 0)) := by rw [upd_same hp1]; rfl
  have m2 : Mod (p :: G) w (w1.upd p (.cells (splice #[.slice a l c, .int .i64 s.last] 1 [.int .i64 (s.last + 1)]) T (0, 0))) := m1.of0.upd (.inl (by simp)) _
  have k2 : SlB (w1.upd p (.cells (splice #[.slice a l c, .int .i64 s.last] 1 [.int .i64 (s.last + 1)]) T (0, 0))) a l c 8 (rows cec s.L) G := (g2.keep (m1.at0 g2.lt)).keep fun b hb => upd_ne _ (by rintro rfl; exact g3 hb)
  have k3 : (w1.upd p (.cells (splice #[.slice a l c, .int .i64 s.last] 1 [.int .i64 (s.last + 1)]) T (0, 0))).heap[b]? = w1.heap[b]? := upd_ne _ hpb
  have hbw : w1.heap[b]? = some _ := s1.nth 0 rfl
  generalize w1.upd p _ = w2 at k1 k2 k3 m2 ⊢
  rw [drK_eq]
  have k1 : w2.drew.heap[p]? = _ := k1
  have k2 : SlB w2.drew a l c 8 (rows cec s.L) G := k2
  have kb : w2.drew.heap[b]? = _ := k3.trans hbw
  have m2 := m2.drew
  generalize w2.drew = w3 at k1 k2 kb m2 ⊢
  clear k3
  have hsz2 := m2.size
  have kB : ∀ {u : World}, Mod [] w3 u → keepB [p, b] w3 u := fun hm z hz => by
    simp only [List.mem_cons, List.not_mem_nil, or_false] at hz
    rcases hz with rfl | rfl
    · exact hm.keep _ (lt_of_get k1) (by simp)
    · exact hm.keep _ (lt_of_get kb) (by simp)
  have fin : ∀ (A : Option Addr) (L C : Nat) (w5 : World) (G5 : List Nat), L = l + 1 → SlB w5 A L C 8 (rows cec s.L ++ cec ⟨s.last + 1, o, e, free8 s.L e, x⟩) G5 → Beyond w3.heap.size G5 → Mod [] w3 w5 →
      stK ⟨p, 0, none⟩ [.slice A L C] w5 fun w6 => K (.tuple #[.int .i64 (free8 s.L e), .int .i64 0]) w6 := fun A L C w5 G5 hLl hs5 hG5 m5 => by
    have hp5 := m5.get k1 (by simp)
    have hpG : p ∉ G5 := fun h => by have := hG5 p h; omega
    refine stK_of hp5 (by simp) ?_
    have hS : putS8 s e o x = ⟨s.L ++ [⟨s.last + 1, o, e, free8 s.L e, x⟩], s.last + 1⟩ := by unfold putS8; rw [if_neg hnz]
    have hV : putV8 s e = (free8 s.L e, 0) := by unfold putV8; rw [if_neg hnz]
    rw [hS] at hW hK
    rw [hV] at hK
    refine hK _ (p :: G5) ⟨hW, A, L, C, G5, T, by rw [upd_same hp5]; rfl, ?_, hpG, rfl⟩ ((m2.trans' m5.of0).upd (.inl (by simp)) _) (fun z hz => ?_)
    · rw [rows_app, rows_one]
      exact hs5.keep fun z hz => upd_ne _ (by rintro rfl; exact hpG hz)
    · rcases List.mem_cons.1 hz with rfl | hz
      · exact .inl (by simp)
      · have := hG5 z hz; exact .inr (by omega)
  refine ⟨[p, b], by simp, a, l, c, by rw [cell_get k1]; rfl, by simp, s.last + 1, by rw [cell_get k1]; rfl, by simp, x.k, x.i, x.n, x.r, ⟨by rw [cell_get kb]; rfl, by rw [cell_get kb]; rfl, by rw [cell_get kb]; rfl, by rw [cell_get kb]; rfl⟩, ?_, ?_⟩
  · refine push_rd_K (w0 := w3) slT_janusref08_C (by decide) (SlB.nil w3 8) (by simp [Beyond]) (Mod.refl _ _) k2.rd (rows_cell cec_cell _) (by omega) (by omega) fun A C w4 G4 hs4 hG4 m4 _ _ => ⟨_, _, _, rfl, kB m4, ?_⟩
    rw [Nat.zero_add] at hs4 ⊢
    rw [List.nil_append] at hs4
    rw [newK_eq]
    refine ⟨kB (m4.alloc _), ?_⟩
    refine push_K (w0 := w3) slT_janusref08_C (by decide) hs4 hG4 m4 (us := cec ⟨s.last + 1, o, e, free8 s.L e, x⟩) rfl (cec_cell _) (by omega) (by omega) fun A' C' w5 G5 hs5 hG5 m5 _ _ => ⟨_, _, _, rfl, fin _ _ _ w5 G5 rfl hs5 hG5 m5⟩
  · refine (Sep.nil (Mod.refl [] w3)).new fun bq w4 s4 m4 hbq => ?_
    have hn : SlB w4 (some ⟨bq, 0, none⟩) 1 1 8 (cec ⟨s.last + 1, o, e, free8 s.L e, x⟩) [bq] := SlB.of (vs := cec ⟨s.last + 1, o, e, free8 s.L e, x⟩) (s4.nth 0 rfl) rfl
    refine ⟨kB m4, ?_⟩
    refine push_rd_K (w0 := w3) slT_janusref08_C (by decide) (SlB.nil w4 8) (by simp [Beyond]) m4 (k2.rd.mod0 m4) (rows_cell cec_cell _) (by omega) (by omega) fun A C w5 G5 hs5 hG5 m5 m45 _ => ⟨_, _, _, rfl, kB m5, ?_⟩
    rw [Nat.zero_add] at hs5 ⊢
    rw [List.nil_append] at hs5
    refine push_rd_K (w0 := w3) slT_janusref08_C (by decide) hs5 hG5 m5 (hn.rd.mod0 m45) (cec_cell _) (by omega) (by omega) fun A' C' w6 G6 hs6 hG6 m6 _ _ => ⟨_, _, _, rfl, fin _ _ _ w6 G6 rfl hs6 hG6 m6⟩
end

end Go.Proofs

set_option linter.unusedSimpArgs false
namespace Go.Proofs
open Go Go.Den

theorem andNot_has : ∀ r x : Fin 8, (ibits .andNot .i64 (r.val : Int) (x.val : Int) == 0) = hasR x.val r.val := by decide +kernel
theorem andNot_has' {r x : Int} (hr : 0 ≤ r ∧ r ≤ 7) (hx : 0 ≤ x ∧ x ≤ 7) : (ibits .andNot .i64 r x == 0) = hasR x r := by
  have := andNot_has ⟨r.toNat, by omega⟩ ⟨x.toNat, by omega⟩
  simp only at this
  rwa [show ((r.toNat : Nat) : Int) = r by omega, show ((x.toNat : Nat) : Int) = x by omega] at this
theorem and_comm8 : ∀ r x : Fin 8, (ibits .and .i64 (r.val : Int) (x.val : Int)) = ibits .and .i64 (x.val : Int) (r.val : Int) := by decide +kernel
theorem and_comm8' {r x : Int} (hr : 0 ≤ r ∧ r ≤ 7) (hx : 0 ≤ x ∧ x ≤ 7) : ibits .and .i64 r x = ibits .and .i64 x r := by
  have := and_comm8 ⟨r.toNat, by omega⟩ ⟨x.toNat, by omega⟩
  simp only at this
  rwa [show ((r.toNat : Nat) : Int) = r by omega, show ((x.toNat : Nat) : Int) = x by omega] at this

theorem may8_run (x : Cap8) {w : World} {K : Value → World → Prop} (hK : ∀ w', Mod [] w w' → K (.bool (decide (May8 x))) w') : CallsR Tryz.prog F_janusref08_May #[.agg #[.int .i64 x.k, .int .i64 x.i, .int .i64 x.n, .int .i64 x.r]] w K := by
  apply R_janusref08_May_ok
  simp only [R_janusref08_May, spl_decide, spl_beq]
  refine (Sep.nil (Mod.refl [] w)).new fun b w1 s1 m1 hb => ?_
  have c0 : w1.cell? ⟨b, 0, none⟩ = some (.int .i64 x.k) := s1.cell 0 rfl rfl
  have c1 : w1.cell? ⟨b, 1, none⟩ = some (.int .i64 x.i) := s1.cell 0 rfl rfl
  have c2 : w1.cell? ⟨b, 2, none⟩ = some (.int .i64 x.n) := s1.cell 0 rfl rfl
  have c3 : w1.cell? ⟨b, 3, none⟩ = some (.int .i64 x.r) := s1.cell 0 rfl rfl
  have ht : May8 x → K (.bool true) w1 := fun h => by have := hK w1 m1; rwa [decide_eq_true h] at this
  have hf : ¬ May8 x → K (.bool false) w1 := fun h => by have := hK w1 m1; rwa [decide_eq_false h] at this
  have hl : (x.r ≤ 7 ↔ May8 x) → K (.bool (decide (x.r ≤ 7))) w1 := fun h => by have := hK w1 m1; rwa [← decide_eq_decide.2 h] at this
  simp only [c0, c1, c2, c3, Option.some.injEq, Value.int.injEq, true_and, exists_eq_left']
  unfold May8 at ht hf hl
  repeat' first | (refine ⟨?_, ?_⟩) | intro _
  all_goals first | exact hf (by omega) | exact hl (by omega)

section
variable {w : World} {p : Nat} {s : S8} {F : List Nat}

theorem add8_run (h : CR w p s F) (hL : s.L.length ≤ 100000) (hlast : s.last ≤ 1000000) (e : Int) (x : Cap8) {K : Value → World → Prop} (hK : ∀ w' F', CR w' p (addS8 s e x) F' → Mod F w w' → Own w F F' → K (.tuple #[.int .i64 (addV8 s e x).1, .int .i64 (addV8 s e x).2]) w') :
    CallsR Tryz.prog F_janusref08_Caps_Add #[.pointer (some ⟨p, 0, none⟩), .int .i64 e, .agg #[.int .i64 x.k, .int .i64 x.i, .int .i64 x.n, .int .i64 x.r]] w K := by
  apply R_janusref08_Caps_Add_ok
  simp only [R_janusref08_Caps_Add]
  refine (Sep.nil (Mod.refl [] w)).new fun b w1 s1 m1 hb => ?_
  have cs : ∀ {u : World}, Mod [] w1 u → (u.cell? ⟨b, 0, none⟩ = some (.int .i64 x.k) ∧ u.cell? ⟨b, 1, none⟩ = some (.int .i64 x.i) ∧ u.cell? ⟨b, 2, none⟩ = some (.int .i64 x.n) ∧ u.cell? ⟨b, 3, none⟩ = some (.int .i64 x.r)) := fun hm => by
    have s2 := s1.mod0 hm
    exact ⟨s2.cell 0 rfl rfl, s2.cell 0 rfl rfl, s2.cell 0 rfl rfl, s2.cell 0 rfl rfl⟩
  have no : ∀ w2, Mod [] w1 w2 → ¬ (env12 e ∧ May8 x) → K (.tuple #[.int .i64 0, .int .i64 101]) w2 := fun w2 hm hn => by
    have := hK w2 F (by unfold addS8; rw [if_neg hn]; exact h.mod0 (m1.trans' hm)) (m1.trans' hm).of0 (Own.refl _ _)
    rwa [addV8, if_neg hn] at this
  refine env8_run e ⟨_, rfl, ?_⟩
  rw [spl_decide]
  refine ⟨fun he => ⟨_, _, _, _, cs (Mod.refl _ _), ?_⟩, fun he => no w1 (Mod.refl _ _) fun h => he h.1⟩
  refine may8_run x fun w2 m2 => ⟨_, rfl, ?_⟩
  rw [spl_decide]
  refine ⟨fun hm => ⟨_, _, _, _, cs m2, ?_⟩, fun hm => no w2 m2 fun h => hm h.2⟩
  have hS : addS8 s e x = putS8 s e 0 x := by unfold addS8; rw [if_pos ⟨he, hm⟩]
  have hV : addV8 s e x = putV8 s e := by unfold addV8; rw [if_pos ⟨he, hm⟩]
  rw [hS, hV] at hK
  have h2 := h.mod0 (m1.trans' m2)
  refine putr_run h2 hL hlast (by rw [← hS]; exact h.1.add e x) fun w3 F3 h3 m3 o3 => ⟨_, _, rfl, hK w3 F3 h3 ((m1.trans' m2).of0.trans' m3) (fun z hz => (o3 z hz).imp id fun hh => by have := (m1.trans' m2).size; omega)⟩

theorem get8_run (h : CR w p s F) (hL : s.L.length ≤ 1000000) (e sl : Int) {K : Value → World → Prop} (hK : ∀ w', Mod [] w w' → K (.tuple #[.agg #[.int .i64 (getV8 s.L e sl).1.k, .int .i64 (getV8 s.L e sl).1.i, .int .i64 (getV8 s.L e sl).1.n, .int .i64 (getV8 s.L e sl).1.r], .bool (getV8 s.L e sl).2]) w') :
    CallsR Tryz.prog F_janusref08_Caps_Get #[.pointer (some ⟨p, 0, none⟩), .int .i64 e, .int .i64 sl] w K := by
  apply R_janusref08_Caps_Get_ok
  simp only [R_janusref08_Caps_Get, nilK_some]
  refine (Sep.nil (Mod.refl [] w)).new fun b w1 s1 m1 hb => ?_
  have h1 := h.mod0 m1
  refine find_run h1 hL e sl (fun hn => ⟨_, rfl, spl_t (by decide) ?_⟩) (fun i c hi hl hlt => ⟨_, rfl, spl_f (by simp) ?_⟩)
  · refine s1.st 0 rfl (by simp) fun w2 s2 m2 => ⟨_, _, _, _, ⟨s2.cell 0 rfl rfl, s2.cell 0 rfl rfl, s2.cell 0 rfl rfl, s2.cell 0 rfl rfl⟩, ?_⟩
    have := hK w2 s2.mod
    rwa [getV8, hn] at this
  · obtain ⟨hw, a, l, c', G, T, g1, g2, g3, rfl⟩ := h1
    have hl' := g2.count cec_8 (by decide)
    refine ⟨a, l, c', by rw [cell_get g1]; rfl, ?_⟩
    obtain ⟨ad, d, rfl, hd, -, -, hc⟩ := g2.rd.rowc cec_8 (by decide) (i := i) (by omega)
    rw [hi] at hd
    obtain rfl := Option.some.inj hd
    simp only [nilK_some, Int.toNat_natCast, add_add, Nat.add_assoc, Nat.reduceAdd]
    refine ⟨⟨by omega, by omega⟩, c.x.k, c.x.i, c.x.n, c.x.r, ⟨hc 4 (by decide), hc 5 (by decide), hc 6 (by decide), hc 7 (by decide)⟩, ?_⟩
    refine s1.st 0 rfl (by simp) fun w2 s2 m2 => ⟨_, _, _, _, ⟨s2.cell 0 rfl rfl, s2.cell 0 rfl rfl, s2.cell 0 rfl rfl, s2.cell 0 rfl rfl⟩, ?_⟩
    have := hK w2 s2.mod
    rwa [getV8, hl] at this

theorem covers8_run {x : Cap8} (hx : May8 x) (k i r : Int) (hi : (Lit.int .i64 i).wf = true) (hr : 0 ≤ r ∧ r ≤ 7) {w : World} {K : Value → World → Prop} (hK : ∀ w', Mod [] w w' → K (.bool (covers8 x k i r)) w') :
    CallsR Tryz.prog F_janusref08_covers #[.agg #[.int .i64 x.k, .int .i64 x.i, .int .i64 x.n, .int .i64 x.r], .int .i64 k, .int .i64 i, .int .i64 r] w K := by
  apply R_janusref08_covers_ok
  simp only [R_janusref08_covers, spl_decide, spl_beq]
  refine (Sep.nil (Mod.refl [] w)).new fun b w1 s1 m1 hb => ?_
  have c0 : w1.cell? ⟨b, 0, none⟩ = some (.int .i64 x.k) := s1.cell 0 rfl rfl
  have c1 : w1.cell? ⟨b, 1, none⟩ = some (.int .i64 x.i) := s1.cell 0 rfl rfl
  have c2 : w1.cell? ⟨b, 2, none⟩ = some (.int .i64 x.n) := s1.cell 0 rfl rfl
  have c3 : w1.cell? ⟨b, 3, none⟩ = some (.int .i64 x.r) := s1.cell 0 rfl rfl
  simp only [c0, c1, c2, c3, Option.some.injEq, Value.int.injEq, true_and, exists_eq_left']
  have hK := hK w1 m1
  obtain ⟨-, b2, b3, b4, b5, b6, b7⟩ := hx
  have hwf := i64_bounds hi
  rw [andNot_has' hr (by omega)]
  refine ⟨fun h0 => ⟨fun h1 => ?_, fun h1 => ?_⟩, fun h0 => ?_⟩
  · rw [w64 (by omega) (by omega)]
    refine ⟨fun h2 => ?_, fun h2 => ?_⟩
    · have e : covers8 x k i r = hasR x.r r := by
        unfold covers8
        rw [show (x.k == k) = true by simpa using h0, decide_eq_true (by omega : x.i ≤ i), decide_eq_true (by omega : i < x.i + x.n)]
        simp
      rwa [e] at hK
    · have e : covers8 x k i r = false := by
        unfold covers8
        rw [decide_eq_false (by omega : ¬ i < x.i + x.n)]
        simp
      rwa [e] at hK
  · have e : covers8 x k i r = false := by
      unfold covers8
      rw [decide_eq_false (by omega : ¬ x.i ≤ i)]
      simp
    rwa [e] at hK
  · have e : covers8 x k i r = false := by
      unfold covers8
      rw [show (x.k == k) = false by simpa using h0]
      simp
    rwa [e] at hK
end

end Go.Proofs

set_option linter.unusedSimpArgs false
namespace Go.Proofs
open Go Go.Den

section
variable {w : World} {p : Nat} {s : S8} {F : List Nat}

theorem has8_run (h : CR w p s F) (hL : s.L.length ≤ 1000000) (e k i r : Int) (hi : (Lit.int .i64 i).wf = true) (hr : 0 ≤ r ∧ r ≤ 7) {K : Value → World → Prop} (hK : ∀ w', Mod [] w w' → K (.bool (has8 s.L e k i r)) w') :
    CallsR Tryz.prog F_janusref08_Caps_Has #[.pointer (some ⟨p, 0, none⟩), .int .i64 e, .int .i64 k, .int .i64 i, .int .i64 r] w K := by
  apply R_janusref08_Caps_Has_ok
  simp only [R_janusref08_Caps_Has, nilK_some, spl_decide, spl_beq]
  obtain ⟨hw, a, l, c, G, T, g1, g2, g3, rfl⟩ := h
  have hl := g2.count cec_8 (by decide)
  refine ⟨fun n t w' => ∃ j : Nat, t = j ∧ j ≤ l ∧ n = l - j ∧ has8 (s.L.take j) e k i r = false ∧ Mod [] w w', ⟨l, 0, rfl, by omega, rfl, rfl, Mod.refl _ _⟩, ?_⟩
  rintro n t - w1 ⟨j, rfl, hj, rfl, hno, hm1⟩
  have hp1 := hm1.get g1 (by simp)
  have cp : w1.cell? ⟨p, 0, none⟩ = some (.slice a l c) := by rw [cell_get hp1]; rfl
  have g21 := g2.keep (hm1.at0 g2.lt)
  refine ⟨a, l, c, cp, fun hlt => ⟨fun w2 => has8 (s.L.take (j + 1)) e k i r = false ∧ Mod [] w w2, ?_, a, l, c, cp, ?_⟩, fun hge => ?_⟩
  · rintro - w2 ⟨z1, z2⟩
    exact ⟨l - (j + 1), by omega, j + 1, by rw [w64 (by omega) (by omega)]; omega, by omega, rfl, z1, z2⟩
  · obtain ⟨ad, d, rfl, hd, -, -, hc⟩ := g21.rd.rowc cec_8 (by decide) (i := j) (by omega)
    have et : has8 (s.L.take (j + 1)) e k i r = (d.env == e && covers8 d.x k i r) := by
      unfold has8 at hno ⊢
      rw [List.take_add_one, hd, List.any_append, hno]
      simp
    have hdx := (hw.in_ d (List.mem_of_getElem? hd)).2.2.2.1
    simp only [nilK_some, Int.toNat_natCast, add_add, Nat.add_assoc, Nat.reduceAdd]
    refine ⟨⟨by omega, by omega⟩, d.env, hc 2 (by decide), fun he => ⟨some ad, l, c, cp, ?_⟩, fun hne => ⟨by rw [et]; simp [hne], hm1⟩⟩
    rw [nilK_some]
    refine ⟨⟨by omega, by omega⟩, d.x.k, d.x.i, d.x.n, d.x.r, ⟨hc 4 (by decide), hc 5 (by decide), hc 6 (by decide), hc 7 (by decide)⟩, ?_⟩
    refine covers8_run hdx k i r hi hr fun w2 m2 => ⟨_, rfl, ?_⟩
    cases hcv : covers8 d.x k i r with
    | true =>
      refine spl_t rfl ?_
      have : has8 s.L e k i r = true := List.any_eq_true.2 ⟨d, List.mem_of_getElem? hd, by simp [he, hcv]⟩
      have h3 := hK w2 (hm1.trans' m2)
      rwa [this] at h3
    | false => exact spl_f rfl ⟨by rw [et, hcv]; simp, hm1.trans' m2⟩
  · rw [List.take_of_length_le (by omega)] at hno
    have := hK w1 hm1
    rwa [hno] at this
end

end Go.Proofs

set_option linter.unusedSimpArgs false
namespace Go.Proofs
open Go Go.Den

section
variable {w : World} {p : Nat} {s : S8} {F : List Nat}

theorem holders8_run (h : CR w p s F) (hL : s.L.length ≤ 100000) (k i : Int) (hi : (Lit.int .i64 i).wf = true) {K : Value → World → Prop}
    (hK : ∀ A C w' G, SlB w' A (holders8 s.L k i).length C 1 (i64s (holders8 s.L k i)) G → Beyond w.heap.size G → Mod [] w w' → (holders8 s.L k i).length ≤ 12 → K (.slice A (holders8 s.L k i).length C) w') :
    CallsR Tryz.prog F_janusref08_Caps_Holders #[.pointer (some ⟨p, 0, none⟩), .int .i64 k, .int .i64 i] w K := by
  apply R_janusref08_Caps_Holders_ok
  simp only [R_janusref08_Caps_Holders, nilK_some, spl_decide]
  obtain ⟨hw, a, l, c, G, T, g1, g2, g3, rfl⟩ := h
  have hl := g2.count cec_8 (by decide)
  refine ⟨fun n A L C t w' => ∃ (j : Nat) (acc : List Int) (G' : List Nat), t = j ∧ j ≤ l ∧ n = l - j ∧ L ≤ j ∧ Rising acc ∧ (∀ x, x ∈ acc ↔ ∃ d ∈ s.L.take j, d.env = x ∧ covers8 d.x k i 0 = true) ∧ SlB w' A L C 1 (i64s acc) G' ∧ Beyond w.heap.size G' ∧ Mod [] w w',
    ⟨l, 0, [], [], rfl, by omega, rfl, by omega, by simp [Rising], by simp, SlB.nil _ 1, by simp [Beyond], Mod.refl _ _⟩, ?_⟩
  rintro n A L C t - w1 ⟨j, acc, G', rfl, hj, rfl, hLj, hris, hmem, hs1, hG1, hm1⟩
  have hp1 := hm1.get g1 (by simp)
  have cp : w1.cell? ⟨p, 0, none⟩ = some (.slice a l c) := by rw [cell_get hp1]; rfl
  have g21 := g2.keep (hm1.at0 g2.lt)
  have hla := hs1.i64
  refine ⟨a, l, c, cp, fun hlt => ⟨fun A L C w2 => ∃ (acc : List Int) (G' : List Nat), L ≤ j + 1 ∧ Rising acc ∧ (∀ x, x ∈ acc ↔ ∃ d ∈ s.L.take (j + 1), d.env = x ∧ covers8 d.x k i 0 = true) ∧ SlB w2 A L C 1 (i64s acc) G' ∧ Beyond w.heap.size G' ∧ Mod [] w w2, ?_, a, l, c, cp, ?_⟩, fun hge => ?_⟩
  · rintro A L C - w2 ⟨acc, G', z1, z2, z3, z4, z5, z6⟩
    exact ⟨l - (j + 1), by omega, j + 1, acc, G', by rw [w64 (by omega) (by omega)]; omega, by omega, rfl, z1, z2, z3, z4, z5, z6⟩
  · obtain ⟨ad, d, rfl, hd, -, hadlt, hc⟩ := g21.rd.rowc cec_8 (by decide) (i := j) (by omega)
    have hdx := (hw.in_ d (List.mem_of_getElem? hd)).2.2.2.1
    have et : ∀ x, (∃ d' ∈ s.L.take (j + 1), d'.env = x ∧ covers8 d'.x k i 0 = true) ↔ ((∃ d' ∈ s.L.take j, d'.env = x ∧ covers8 d'.x k i 0 = true) ∨ (d.env = x ∧ covers8 d.x k i 0 = true)) := fun x => by
      rw [List.take_add_one, hd]
      constructor
      · rintro ⟨d', hd', z⟩
        rcases List.mem_append.1 hd' with hd' | hd'
        · exact .inl ⟨d', hd', z⟩
        · simp at hd'; subst hd'; exact .inr z
      · rintro (⟨d', hd', z⟩ | z)
        · exact ⟨d', List.mem_append.2 (.inl hd'), z⟩
        · exact ⟨d, by simp, z⟩
    simp only [nilK_some, Int.toNat_natCast, add_add, Nat.add_assoc, Nat.reduceAdd]
    refine ⟨⟨by omega, by omega⟩, d.x.k, d.x.i, d.x.n, d.x.r, ⟨hc 4 (by decide), hc 5 (by decide), hc 6 (by decide), hc 7 (by decide)⟩, ?_⟩
    refine covers8_run hdx k i 0 hi (by decide) fun w2 m2 => ⟨_, rfl, ?_⟩
    cases hcv : covers8 d.x k i 0 with
    | false =>
      refine spl_f rfl ⟨acc, G', by omega, hris, fun x => ?_, hs1.keep (m2.at0 hs1.lt), hG1, hm1.trans' m2⟩
      rw [et, hmem x, hcv]
      simp
    | true =>
      refine spl_t rfl ⟨some ad, l, c, by rw [m2.cell (lt_of_get hp1)]; exact cp, ?_⟩
      have hc2 : w2.cell? (Addr.add ad (j * 8 + 2)) = some (.int .i64 d.env) := by
        rw [m2.cell (by rw [add_block]; exact hadlt)]
        exact hc 2 (by decide)
      rw [nilK_some]
      refine ⟨⟨by omega, by omega⟩, d.env, hc2, ?_⟩
      have hs2 := hs1.keep (m2.at0 hs1.lt)
      refine put_rd hs2.rd hs2.le (by omega) d.env fun A' L' C' w3 G3 hs3 hG3 m3 => ⟨_, _, _, rfl, putL acc d.env, G3, ?_, hris.put _, fun x => ?_, hs3, fun b hb => ?_, (hm1.trans' m2).trans' m3⟩
      · have := hs3.i64
        have := putL_len acc d.env
        omega
      · rw [mem_putL, et, hmem x, hcv]
        constructor
        · rintro (z | z)
          · exact .inr ⟨z.symm, rfl⟩
          · exact .inl z
        · rintro (z | ⟨z, -⟩)
          · exact .inr z
          · exact .inl z.symm
      · have := hG3 b hb; have := (hm1.trans' m2).size; omega
  · have hjl : j = l := by omega
    rw [hjl, List.take_of_length_le (by omega)] at hmem
    have e : acc = holders8 s.L k i := Rising.ext hris ((ups_rising 12).filter _) fun x => by
      rw [hmem x, holders8, List.mem_filter, mem_ups]
      unfold has8
      rw [List.any_eq_true]
      constructor
      · rintro ⟨d, hd, rfl, hcv⟩
        have := (hw.in_ d hd).1
        exact ⟨⟨this.1, this.2⟩, d, hd, by simp [hcv]⟩
      · rintro ⟨-, d, hd, z⟩
        simp only [Bool.and_eq_true, beq_iff_eq] at z
        exact ⟨d, hd, z.1, z.2⟩
    subst e
    rw [← hla] at hs1 ⊢
    refine hK A C w1 G' hs1 hG1 hm1 ?_
    have : (holders8 s.L k i).length ≤ (ups 12).length := List.length_filter_le _ _
    simpa [ups] using this

theorem give8_run (h : CR w p s F) (hL : s.L.length ≤ 100000) (hlast : s.last ≤ 1000000) (e sl to r : Int) {K : Value → World → Prop} (hK : ∀ w' F', CR w' p (giveS8 s e sl to r) F' → Mod F w w' → Own w F F' → K (.tuple #[.int .i64 (giveV8 s e sl to r).1, .int .i64 (giveV8 s e sl to r).2]) w') :
    CallsR Tryz.prog F_janusref08_Caps_Give #[.pointer (some ⟨p, 0, none⟩), .int .i64 e, .int .i64 sl, .int .i64 to, .int .i64 r] w K := by
  apply R_janusref08_Caps_Give_ok
  simp only [R_janusref08_Caps_Give, nilK_some]
  have h0 := h
  have hWg := h.1.give e sl to r
  have no : ∀ v : Int, giveS8 s e sl to r = s → giveV8 s e sl to r = (0, v) → K (.tuple #[.int .i64 0, .int .i64 v]) w := fun v h1 h2 => by
    have := hK w F (by rw [h1]; exact h0) (Mod.refl _ _) (Own.refl _ _)
    rwa [h2] at this
  refine find_run h (by omega) e sl (fun hn => ⟨_, rfl, spl_t (by decide) (no 104 (by unfold giveS8; rw [hn]) (by unfold giveV8; rw [hn]))⟩) (fun j c hj hlk hlt => ⟨_, rfl, spl_f (by simp) ?_⟩)
  have hx := (h.1.in_ c (look8_some hlk).1).2.2.2.1
  have hxr : 0 ≤ c.x.r ∧ c.x.r ≤ 7 := by unfold May8 at hx; omega
  obtain ⟨hw, a, l, c', G, T, g1, g2, g3, rfl⟩ := h
  have hl := g2.count cec_8 (by decide)
  obtain ⟨ad, d, rfl, hd, rfl, hadlt, hc⟩ := g2.rd.rowc cec_8 (by decide) (i := j) (by omega)
  rw [hj] at hd
  obtain rfl := Option.some.inj hd
  have cp : w.cell? ⟨p, 0, none⟩ = some (.slice (some ad) l c') := by rw [cell_get g1]; rfl
  have bad : ¬ mayGive c r → K (.tuple #[.int .i64 0, .int .i64 104]) w := fun hn => no 104 (by unfold giveS8; rw [hlk]; exact if_neg fun z => hn z.1) (by unfold giveV8; rw [hlk]; exact if_neg hn)
  have hplt := lt_of_get g1
  refine ⟨some ad, l, c', cp, ?_⟩
  simp only [nilK_some, Int.toNat_natCast, add_add, Nat.add_assoc, Nat.reduceAdd]
  refine ⟨⟨by omega, by omega⟩, c.x.r, hc 7 (by decide), ?_⟩
  rw [spl_beq]
  refine ⟨fun hz => bad fun z => z.1 hz, fun hz => ?_⟩
  rw [spl_decide]
  refine ⟨fun hr => bad fun z => by have := z.2.1; omega, fun hr1 => ?_⟩
  rw [spl_decide]
  refine ⟨fun hr => bad fun z => by have := z.2.2.1; omega, fun hr7 => ⟨some ad, l, c', cp, ?_⟩⟩
  rw [nilK_some]
  refine ⟨⟨by omega, by omega⟩, c.x.r, hc 7 (by decide), ?_⟩
  have hr : 0 ≤ r ∧ r ≤ 7 := by omega
  have hbits : (ibits .andNot .i64 r c.x.r = 0) ↔ ibits .and .i64 r c.x.r = r := by
    have h1 := andNot_has' hr hxr
    rw [and_comm8' hr hxr]
    unfold hasR at h1
    constructor
    · intro z; rw [z] at h1; simpa using h1.symm
    · intro z; rw [z] at h1; simpa using h1
  rw [spl_bne]
  refine ⟨fun hne => bad fun z => hne (hbits.2 z.2.2.2), fun heq => ?_⟩
  have hmg : mayGive c r := ⟨hz, by omega, by omega, hbits.1 heq⟩
  refine env8_run to ⟨_, rfl, ?_⟩
  rw [spl_decide]
  refine ⟨fun hto => ⟨some ad, l, c', cp, ?_⟩, fun hto => no 101 (by unfold giveS8; rw [hlk]; exact if_neg fun z => hto z.2) (by unfold giveV8; rw [hlk]; simp only; rw [if_pos hmg, if_neg hto])⟩
  simp only [nilK_some, add_add, Nat.add_assoc, Nat.reduceAdd]
  refine ⟨⟨by omega, by omega⟩, c.x.k, c.x.i, c.x.n, c.x.r, ⟨hc 4 (by decide), hc 5 (by decide), hc 6 (by decide), hc 7 (by decide)⟩, ?_⟩
  refine (Sep.nil (Mod.refl [] w)).new fun b w1 s1 m1 hb => ?_
  refine s1.st 0 rfl (by simp) fun w2 s2 m2 => ?_
  refine s2.st 0 rfl (by simp) fun w3 s3 m3 => ?_
  rw [drK_eq]
  have s4 := s3.mod0 ((Mod.refl [] w3).drew)
  generalize w3.drew = w4 at s4 ⊢
  have m4 := s4.mod
  have hp4 := m4.get g1 (by simp)
  have hS : giveS8 s e sl to r = putS8 s to c.no ⟨c.x.k, c.x.i, c.x.n, r⟩ := by unfold giveS8; rw [hlk]; exact if_pos ⟨hmg, hto⟩
  have hV : giveV8 s e sl to r = putV8 s to := by unfold giveV8; rw [hlk]; simp only; rw [if_pos hmg, if_pos hto]
  rw [hS, hV] at hK
  rw [hS] at hWg
  have cr : w4.cell? (Addr.add ad (j * 8)) = some (.int .i64 c.no) := by
    rw [m4.cell (by rw [add_block]; exact hadlt)]
    exact hc 0 (by decide)
  refine ⟨[p, ad.block, b], by simp, some ad, l, c', by rw [cell_get hp4]; rfl, ?_⟩
  simp only [nilK_some, add_add, Nat.add_assoc, Nat.reduceAdd]
  refine ⟨⟨by omega, by omega⟩, by simp [add_block], c.no, cr, by simp, c.x.k, c.x.i, c.x.n, r, ⟨s4.cell 0 rfl rfl, s4.cell 0 rfl rfl, s4.cell 0 rfl rfl, s4.cell 0 rfl rfl⟩, ?_⟩
  refine putr_run (x := ⟨c.x.k, c.x.i, c.x.n, r⟩) (h0.mod0 m4) hL hlast hWg fun w5 F5 h5 m5 o5 => ⟨_, _, rfl, hK w5 F5 h5 (m4.of0.trans' m5) (fun z hz => (o5 z hz).imp id fun hh => by have := m4.size; omega)⟩
end

end Go.Proofs

set_option linter.unusedSimpArgs false
namespace Go.Den
open Go

theorem rows_set1 {α : Type} {f : α → List Value} {k : Nat} (hf : ∀ x, (f x).length = k) : ∀ {L : List α} {i : Nat} (hi : i < L.length) {x : α} {v : Value} {j : Nat}, j < k → f x = (f L[i]).set j v → (rows f L).set (i * k + j) v = rows f (L.set i x)
  | y :: L, 0, _, x, v, j, hj, he => by
    rw [rows_cons, List.set_cons_zero, rows_cons, Nat.zero_mul, Nat.zero_add, List.set_append_left _ _ (by rw [hf]; exact hj), he]
    rfl
  | y :: L, i + 1, hi, x, v, j, hj, he => by
    have hi' : i < L.length := by simpa using hi
    rw [rows_cons, List.set_cons_succ, rows_cons, List.set_append_right _ _ (by rw [hf, Nat.succ_mul]; omega), hf, ← rows_set1 hf hi' hj (by simpa using he)]
    congr 2
    rw [Nat.succ_mul]
    omega

theorem without_eq {L : List CE} (hk : L.Pairwise fun a b => ¬ (a.env = b.env ∧ a.slot = b.slot)) {e sl : Int} {i : Nat} {c : CE} (hi : L[i]? = some c) (hc : c.env = e ∧ c.slot = sl) : without L e sl = L.take i ++ L.drop (i + 1) := by
  induction L generalizing i with
  | nil => simp at hi
  | cons y L ih =>
    obtain ⟨h1, h2⟩ := List.pairwise_cons.1 hk
    cases i with
    | zero =>
      obtain rfl : y = c := by simpa using hi
      have ey : isAt e sl y = true := isAt_iff.2 hc
      have : (L.filter fun c => !isAt e sl c) = L := List.filter_eq_self.2 fun z hz => by
        cases hh : isAt e sl z with
        | false => rfl
        | true =>
          have := isAt_iff.1 hh
          exact absurd ⟨hc.1.trans this.1.symm, hc.2.trans this.2.symm⟩ (h1 z hz)
      unfold without
      rw [List.filter_cons_of_neg (by simp [ey]), this]
      simp
    | succ i =>
      have hm : c ∈ L := List.mem_of_getElem? (by simpa using hi)
      have ey : isAt e sl y = false := by
        cases hh : isAt e sl y with
        | false => rfl
        | true =>
          have := isAt_iff.1 hh
          exact absurd ⟨this.1.trans hc.1.symm, this.2.trans hc.2.symm⟩ (h1 c hm)
      have := ih h2 (i := i) (by simpa using hi)
      unfold without at this ⊢
      rw [List.filter_cons_of_pos (by simp [ey]), this]
      simp

/-- A list some of whose elements were re-parented. -/
def repTo (g : CE) (W : List CE) (j : Nat) : List CE := (W.take j).map (reparent g) ++ W.drop j
theorem repTo_0 (g : CE) (W : List CE) : repTo g W 0 = W := by simp [repTo]
theorem repTo_all (g : CE) (W : List CE) : repTo g W W.length = W.map (reparent g) := by simp [repTo]
theorem repTo_len (g : CE) (W : List CE) (j : Nat) : (repTo g W j).length = W.length := by simp [repTo]; omega
theorem repTo_get (g : CE) (W : List CE) (j : Nat) : (repTo g W j)[j]? = W[j]? := by
  unfold repTo
  by_cases h : j ≤ W.length
  · rw [List.getElem?_append_right (by simp; omega)]
    simp [Nat.min_eq_left h]
  · rw [List.getElem?_eq_none (by simp; omega), List.getElem?_eq_none (by omega)]
theorem repTo_succ (g : CE) (W : List CE) {j : Nat} (hj : j < W.length) : repTo g W (j + 1) = (repTo g W j).set j (reparent g W[j]) := by
  apply List.ext_getElem?
  intro i
  rw [List.getElem?_set]
  unfold repTo
  by_cases hik : j = i
  · subst hik
    rw [if_pos rfl, if_pos (by simp; omega), List.getElem?_append_left (by simp; omega)]
    simp [List.getElem?_eq_getElem hj]
  · rw [if_neg hik]
    by_cases hi : i < j
    · rw [List.getElem?_append_left (by simp; omega), List.getElem?_append_left (by simp; omega)]
      simp [List.getElem?_take, hi, show i < j + 1 by omega]
    · rw [List.getElem?_append_right (by simp; omega), List.getElem?_append_right (by simp; omega)]
      simp only [List.length_map, List.length_take, List.getElem?_drop]
      congr 1
      omega
theorem repTo_same (g : CE) (W : List CE) {j : Nat} (hj : j < W.length) (h : W[j].of_ ≠ g.no) : repTo g W (j + 1) = repTo g W j := by
  rw [repTo_succ g W hj]
  have e : reparent g W[j] = W[j] := by unfold reparent; rw [if_neg h]
  rw [e]
  apply List.ext_getElem?
  intro i
  rw [List.getElem?_set]
  by_cases hik : j = i
  · subst hik
    rw [if_pos rfl, if_pos (by rw [repTo_len]; exact hj), repTo_get, List.getElem?_eq_getElem hj]
  · rw [if_neg hik]

end Go.Den
namespace Go.Proofs
open Go Go.Den

set_option maxHeartbeats 2000000 in
theorem drop8_run {w : World} {p : Nat} {s : S8} {F : List Nat} (h : CR w p s F) (hL : s.L.length ≤ 100000) (e sl : Int) {K : Value → World → Prop} (hK : ∀ w' F', CR w' p (dropS8 s e sl) F' → Mod F w w' → Own w F F' → K (.tuple #[.bool (dropV8 s e sl).1, .int .i64 (dropV8 s e sl).2]) w') :
    CallsR Tryz.prog F_janusref08_Caps_Drop #[.pointer (some ⟨p, 0, none⟩), .int .i64 e, .int .i64 sl] w K := by
  apply R_janusref08_Caps_Drop_ok
  simp only [R_janusref08_Caps_Drop, nilK_some]
  have h0 := h
  have hWd := h.1.drop e sl
  refine find_run h (by omega) e sl (fun hn => ⟨_, rfl, spl_t (by decide) ?_⟩) (fun j g hj hlk hlt => ⟨_, rfl, spl_f (by simp) ?_⟩)
  · have := hK w F (by unfold dropS8; rw [hn]; exact h0) (Mod.refl _ _) (Own.refl _ _)
    rwa [dropV8, hn] at this
  obtain ⟨hm, hge, hgs⟩ := look8_some hlk
  obtain ⟨hw, a, l, c, G, T, g1, g2, g3, rfl⟩ := h
  have hl := g2.count cec_8 (by decide)
  have hplt := lt_of_get g1
  obtain ⟨ad, d, rfl, hd, rfl, hadlt, hc⟩ := g2.rd.rowc cec_8 (by decide) (i := j) (by omega)
  rw [hj] at hd
  obtain rfl := Option.some.inj hd
  have cp : w.cell? ⟨p, 0, none⟩ = some (.slice (some ad) l c) := by rw [cell_get g1]; rfl
  refine ⟨some ad, l, c, cp, ?_⟩
  simp only [nilK_some, Int.toNat_natCast, add_add, Nat.add_assoc, Nat.reduceAdd]
  refine ⟨⟨by omega, by omega⟩, g.no, g.of_, g.env, g.slot, g.x.k, g.x.i, g.x.n, g.x.r, ⟨hc 0 (by decide), hc 1 (by decide), hc 2 (by decide), hc 3 (by decide), hc 4 (by decide), hc 5 (by decide), hc 6 (by decide), hc 7 (by decide)⟩, ?_⟩
  refine (Sep.nil (Mod.refl [] w)).new fun b w1 s1 m1 hb => ?_
  refine s1.st0 0 rfl rfl fun w2 s2 m2 => ?_
  rw [drK_eq]
  have s3 := s2.mod0 ((Mod.refl [] w2).drew)
  generalize w2.drew = w3 at s3 ⊢
  have m3 := s3.mod
  have hp3 := m3.get g1 (by simp)
  have g23 := g2.keep (m3.at0 g2.lt)
  obtain ⟨W, hWe⟩ : ∃ W, W = without s.L e sl := ⟨_, rfl⟩
  have hWs := without_eq hw.key hj ⟨hge, hgs⟩
  rw [← hWe] at hWs
  have hWl : W.length = l - 1 := by rw [hWs]; simp; omega
  refine ⟨[p], by simp, some ad, l, c, by rw [cell_get hp3]; rfl, ?_⟩
  refine slK_rd g23.rd g23.le (L := 0) (H := j) (.inr ⟨rfl, rfl⟩) (.inl rfl) (by omega) (by omega) fun a5 G5 hr5 hG5 => ?_
  rw [Nat.zero_mul, List.drop_zero, Nat.sub_zero, rows_take cec_8] at hr5
  refine ⟨by simp, some ad, l, c, by rw [cell_get hp3]; rfl, ?_⟩
  rw [w64 (by omega) (by omega)]
  refine slK_rd g23.rd g23.le (L := j + 1) (H := l) (.inl (by simp)) (.inr ⟨rfl, rfl⟩) (by omega) (by omega) fun a6 G6 hr6 hG6 => ?_
  rw [rows_drop cec_8, rows_take cec_8] at hr6
  have et : (s.L.drop (j + 1)).take (l - (j + 1)) = s.L.drop (j + 1) := List.take_of_length_le (by simp; omega)
  rw [et] at hr6
  have kp3 : ∀ {u : World}, Mod [] w3 u → keepB [p] w3 u := fun hm => keepB1 (hm.keep p (lt_of_get hp3) (by simp))
  refine push_rd_K (w0 := w3) slT_janusref08_C (by decide) (SlB.nil w3 8) (by simp [Beyond]) (Mod.refl _ _) hr5 (rows_cell cec_cell _) (by omega) (by omega) fun A4 C4 w4 G4 hs4 hG4 m4 m34 _ => ⟨_, _, _, rfl, kp3 m4, ?_⟩
  rw [List.nil_append] at hs4
  refine push_rd_K (w0 := w3) slT_janusref08_C (by decide) hs4 hG4 m4 (hr6.mod0 m4) (rows_cell cec_cell _) (by omega) (by omega) fun A C w5 G7 hs5 hG5' m5 _ _ => ⟨_, _, _, rfl, ?_⟩
  rw [← rows_app, ← hWs] at hs5
  have hlW := hs5.count cec_8 (by decide)
  obtain ⟨N, hN⟩ : ∃ N, N = 0 + j + (l - (j + 1)) := ⟨_, rfl⟩
  rw [← hN] at hs5 hlW ⊢
  have hp5 := m5.get hp3 (by simp)
  have hsz3 := m3.size
  have hpG : p ∉ G7 := fun hh => by have := hG5' p hh; omega
  have hb3 : w3.heap[b]? = some _ := s3.nth 0 rfl
  have hblt := lt_of_get hb3
  have hbG : b ∉ G7 := fun hh => by have := hG5' b hh; omega
  have hb5 := m5.get hb3 (by simp)
  have hpb : p ≠ b := by omega
  refine stK_of hp5 (by simp) ?_
  have k1 : (w5.upd p (.cells (splice #[.slice (some ad) l c, .int .i64 s.last] 0 [.slice A N C]) T (0, 0))).heap[p]? = some (.cells #[.slice A N C, .int .i64 s.last] T (0, 0)) := by rw [upd_same hp5]; rfl
  have k2 : (w5.upd p (.cells (splice #[.slice (some ad) l c, .int .i64 s.last] 0 [.slice A N C]) T (0, 0))).heap[b]? = some _ := (upd_ne _ hpb).trans hb5
  have k3 : SlB (w5.upd p (.cells (splice #[.slice (some ad) l c, .int .i64 s.last] 0 [.slice A N C]) T (0, 0))) A N C 8 (rows cec W) G7 := hs5.keep fun z hz => upd_ne _ (by rintro rfl; exact hpG hz)
  have m6 : Mod [p, ad.block] w (w5.upd p (.cells (splice #[.slice (some ad) l c, .int .i64 s.last] 0 [.slice A N C]) T (0, 0))) := (m3.trans' m5).of0.upd (.inl (by simp)) _
  have hsz5 := m5.size
  have hw6s : (w5.upd p (.cells (splice #[.slice (some ad) l c, .int .i64 s.last] 0 [.slice A N C]) T (0, 0))).heap.size = w5.heap.size := upd_size _ _ _
  generalize w5.upd p _ = w6 at k1 k2 k3 m6 hw6s ⊢
  have k3 : SlB w6 A N C 8 (rows cec (repTo g W 0)) G7 := by rw [repTo_0]; exact k3
  refine ⟨fun n last k w' => ∃ i : Nat, k = i ∧ i ≤ N ∧ n = N - i ∧ last = ((W.take i).all fun c => !meet8 c.x g.x) ∧ SlB w' A N C 8 (rows cec (repTo g W i)) G7 ∧ Mod G7 w6 w', ⟨N, 0, rfl, by omega, rfl, rfl, k3, Mod.refl _ _⟩, ?_⟩
  rintro n last k - w7 ⟨i, rfl, hi, rfl, rfl, hs7, hm7⟩
  have hp7 := hm7.get k1 hpG
  refine ⟨A, N, C, by rw [cell_get hp7]; rfl, ?_⟩
  rw [spl_decide]
  refine ⟨fun hlt => ?_, fun hge => ?_⟩
  · have hiW : i < W.length := by omega
    obtain ⟨x, hx⟩ : ∃ x, W[i]? = some x := ⟨_, List.getElem?_eq_getElem hiW⟩
    have hxe : W[i] = x := by rw [List.getElem?_eq_getElem hiW] at hx; exact Option.some.inj hx
    have eall : ((W.take (i + 1)).all fun c => !meet8 c.x g.x) = (((W.take i).all fun c => !meet8 c.x g.x) && !meet8 x.x g.x) := by
      rw [List.take_add_one, hx, List.all_append]; simp
    refine ⟨fun last w' => last = ((W.take (i + 1)).all fun c => !meet8 c.x g.x) ∧ SlB w' A N C 8 (rows cec (repTo g W (i + 1))) G7 ∧ Mod G7 w6 w', ?_, fun w' => SlB w' A N C 8 (rows cec (repTo g W (i + 1))) G7 ∧ Mod G7 w6 w', ?_, ?_⟩
    · rintro last - w' ⟨z1, z2, z3⟩
      exact ⟨N - (i + 1), by omega, i + 1, by rw [w64 (by omega) (by omega)]; omega, by omega, rfl, z1, z2, z3⟩
    · rintro - w8 ⟨hs8, hm8⟩
      have hp8 := hm8.get k1 hpG
      have hb8 := hm8.get k2 hbG
      have hs8r := hs8.rd
      obtain ⟨ad8, y, rfl, hy, -, -, hc8⟩ := hs8r.rowc cec_8 (by decide) (i := i) (by omega)
      have hyx : y.x = x.x := by
        rw [repTo_succ g W hiW, List.getElem?_set, if_pos rfl, if_pos (by rw [repTo_len]; exact hiW), hxe] at hy
        rw [← Option.some.inj hy]
        exact (reparent_same g x).2.2.2
      refine ⟨some ad8, N, C, by rw [cell_get hp8]; rfl, ?_⟩
      rw [nilK_some]
      refine ⟨⟨by omega, by omega⟩, x.x.k, x.x.i, x.x.n, x.x.r, ⟨by rw [← hyx]; exact hc8 4 (by decide), by rw [← hyx]; exact hc8 5 (by decide), by rw [← hyx]; exact hc8 6 (by decide), by rw [← hyx]; exact hc8 7 (by decide)⟩, ?_⟩
      refine (Sep.nil (Mod.refl [] w8)).new fun bx w9 s9 m9 hbx => ?_
      refine s9.st0 0 rfl rfl fun w10 s10 m10 => ?_
      have hb10 := s10.mod.get hb8 (by simp)
      have d4 : w10.cell? ⟨b, 4, none⟩ = some (.int .i64 g.x.k) := by rw [cell_get hb10]; rfl
      have d5 : w10.cell? ⟨b, 5, none⟩ = some (.int .i64 g.x.i) := by rw [cell_get hb10]; rfl
      have d6 : w10.cell? ⟨b, 6, none⟩ = some (.int .i64 g.x.n) := by rw [cell_get hb10]; rfl
      have e0 : w10.cell? ⟨bx, 0, none⟩ = some (.int .i64 x.x.k) := s10.cell 0 rfl rfl
      have e1 : w10.cell? ⟨bx, 1, none⟩ = some (.int .i64 x.x.i) := s10.cell 0 rfl rfl
      have e2 : w10.cell? ⟨bx, 2, none⟩ = some (.int .i64 x.x.n) := s10.cell 0 rfl rfl
      have hxm : x ∈ s.L := by
        have := List.mem_of_getElem? hx
        rw [hWe] at this
        exact (mem_without.1 this).1
      have mx := (hw.in_ x hxm).2.2.2.1
      have mg := (hw.in_ g hm).2.2.2.1
      unfold May8 at mx mg
      have hsl : SlB w10 (some ad8) N C 8 (rows cec (repTo g W (i + 1))) G7 := hs8.keep (s10.mod.at0 hs8.lt)
      have hml : Mod G7 w6 w10 := hm8.trans' s10.mod.of0
      have mt : meet8 x.x g.x = true ↔ x.x.k = g.x.k ∧ g.x.i < x.x.i + x.x.n ∧ x.x.i < g.x.i + g.x.n := by
        simp [meet8, and_assoc]
      have jf : meet8 x.x g.x = true → (false = ((W.take (i + 1)).all fun c => !meet8 c.x g.x) ∧ SlB w10 (some ad8) N C 8 (rows cec (repTo g W (i + 1))) G7 ∧ Mod G7 w6 w10) := fun h => ⟨by rw [eall, h]; simp, hsl, hml⟩
      have jl : ¬ meet8 x.x g.x = true → (((W.take i).all fun c => !meet8 c.x g.x) = ((W.take (i + 1)).all fun c => !meet8 c.x g.x) ∧ SlB w10 (some ad8) N C 8 (rows cec (repTo g W (i + 1))) G7 ∧ Mod G7 w6 w10) := fun h => ⟨by rw [eall, show meet8 x.x g.x = false by simpa using h]; simp, hsl, hml⟩
      rw [mt] at jf jl
      refine ⟨_, e0, _, d4, ?_⟩
      rw [spl_beq]
      refine ⟨fun hk => ⟨_, e1, _, d5, _, d6, ?_⟩, fun hk => jl fun z => hk z.1⟩
      rw [spl_decide, w64 (by omega) (by omega)]
      refine ⟨fun h1 => ⟨_, d5, _, e1, _, e2, ?_⟩, fun h1 => jl fun z => h1 z.2.2⟩
      rw [spl_decide, w64 (by omega) (by omega)]
      exact ⟨fun h2 => jf ⟨hk, h2, h1⟩, fun h2 => jl fun z => h2 z.2.1⟩
    · rw [drK_eq]
      have hs8 : SlB w7.drew A N C 8 (rows cec (repTo g W i)) G7 := hs7
      have hm8 := hm7.drew
      have hp8 := hm8.get k1 hpG
      have hb8 := hm8.get k2 hbG
      generalize w7.drew = w8 at hs8 hm8 hp8 hb8 ⊢
      obtain ⟨ad8, y, rfl, hy, -, -, hc8⟩ := hs8.rd.rowc cec_8 (by decide) (i := i) (by omega)
      rw [repTo_get, hx] at hy
      obtain rfl := Option.some.inj hy
      refine ⟨some ad8, N, C, by rw [cell_get hp8]; rfl, ?_⟩
      rw [nilK_some]
      refine ⟨⟨by omega, by omega⟩, x.of_, hc8 1 (by decide), g.no, by rw [cell_get hb8]; rfl, ?_⟩
      rw [spl_beq]
      refine ⟨fun heq => ?_, fun hne => ⟨by rw [repTo_same g W hiW (by rw [hxe]; exact hne)]; exact hs8, hm8⟩⟩
      rw [drK_eq]
      have hs9 : SlB w8.drew (some ad8) N C 8 (rows cec (repTo g W i)) G7 := hs8
      have hm9 := hm8.drew
      have hp9 := hm9.get k1 hpG
      have hb9 := hm9.get k2 hbG
      generalize w8.drew = w9 at hs9 hm9 hp9 hb9 ⊢
      refine ⟨some ad8, N, C, by rw [cell_get hp9]; rfl, g.of_, by rw [cell_get hb9]; rfl, ?_⟩
      obtain ⟨bb, o, hbo, hG7⟩ := hs9.isNone (by omega)
      cases hbo
      subst hG7
      obtain ⟨arr, T', hbk, hcap, -⟩ := hs9.block
      have hle := hs9.le
      rw [nilK_some, addr_add]
      refine ⟨⟨by omega, by omega⟩, ?_⟩
      refine stK_of hbk (by simp; omega) ?_
      simp only [splice_cons, splice_nil]
      have hset := hs9.set hbk (j := i * 8 + 1) (by rw [rows_len cec_8, repTo_len]; omega) (.int .i64 g.of_)
      have hri : (repTo g W i)[i]'(by rw [repTo_len]; exact hiW) = x := by
        have := repTo_get g W i
        rw [List.getElem?_eq_getElem (by rw [repTo_len]; exact hiW), hx] at this
        exact Option.some.inj this
      rw [rows_set1 cec_8 (by rw [repTo_len]; exact hiW) (x := reparent g x) (by decide) (by rw [hri]; unfold reparent; rw [if_pos heq]; rfl)] at hset
      refine ⟨?_, hm9.upd (.inl (by simp)) _⟩
      rw [repTo_succ g W hiW, hxe]
      exact hset
  · have hiN : i = W.length := by omega
    rw [hiN, repTo_all] at hs7
    rw [hiN, List.take_length]
    have hS : dropS8 s e sl = ⟨W.map (reparent g), s.last⟩ := by unfold dropS8; rw [hlk, hWe]
    have hV : dropV8 s e sl = (W.all fun c => !meet8 c.x g.x, 0) := by unfold dropV8; rw [hlk, hWe]
    rw [hS] at hK hWd
    rw [hV] at hK
    refine hK w7 (p :: G7) ⟨hWd, A, N, C, G7, T, hp7, hs7, hpG, rfl⟩ (m6.trans hm7 fun z hz hlt => ?_) (fun z hz => ?_)
    · have := hG5' z hz; omega
    · rcases List.mem_cons.1 hz with rfl | hz
      · exact .inl (by simp)
      · have := hG5' z hz; exact .inr (by omega)

end Go.Proofs

set_option linter.unusedSimpArgs false
namespace Go.Proofs
open Go Go.Den

end Go.Proofs

set_option linter.unusedSimpArgs false
namespace Go.Proofs
open Go Go.Den

set_option maxHeartbeats 1000000 in
theorem revoke8_run {w : World} {p : Nat} {s : S8} {F : List Nat} (h : CR w p s F) (hL : s.L.length ≤ 100000) (e sl : Int) {K : Value → World → Prop} (hK : ∀ w' F', CR w' p (revokeS8 s e sl) F' → Mod F w w' → Own w F F' → K (.tuple #[.int .i64 (revokeV8 s e sl).1, .int .i64 (revokeV8 s e sl).2]) w') :
    CallsR Tryz.prog F_janusref08_Caps_Revoke #[.pointer (some ⟨p, 0, none⟩), .int .i64 e, .int .i64 sl] w K := by
  apply R_janusref08_Caps_Revoke_ok
  simp only [R_janusref08_Caps_Revoke, nilK_some]
  have h0 := h
  have hWr := h.1.revoke e sl
  refine find_run h (by omega) e sl (fun hn => ⟨_, rfl, spl_t (by decide) ?_⟩) (fun j g hj hlk hlt => ⟨_, rfl, spl_f (by simp) ?_⟩)
  · have := hK w F (by unfold revokeS8; rw [hn]; exact h0) (Mod.refl _ _) (Own.refl _ _)
    rwa [revokeV8, hn] at this
  obtain ⟨hm, hge, hgs⟩ := look8_some hlk
  obtain ⟨hw, a, l, c, G, T, g1, g2, g3, rfl⟩ := h
  have hl := g2.count cec_8 (by decide)
  have hplt := lt_of_get g1
  obtain ⟨ad, d, rfl, hd, rfl, hadlt, hc⟩ := g2.rd.rowc cec_8 (by decide) (i := j) (by omega)
  rw [hj] at hd
  obtain rfl := Option.some.inj hd
  have cp : w.cell? ⟨p, 0, none⟩ = some (.slice (some ad) l c) := by rw [cell_get g1]; rfl
  refine ⟨some ad, l, c, cp, ?_⟩
  simp only [nilK_some, Int.toNat_natCast, add_add, Nat.add_assoc, Nat.reduceAdd]
  refine ⟨⟨by omega, by omega⟩, g.no, hc 0 (by decide), ?_⟩
  rw [newK_eq]
  have m1 : Mod [] w (w.alloc (.cells #[.int .i64 g.no] 3)) := (Mod.refl _ _).alloc _
  have hs1 : SlB (w.alloc (.cells #[.int .i64 g.no] 3)) (some ⟨w.heap.size, 0, none⟩) 1 1 1 (i64s [g.no]) [w.heap.size] := SlB.new w (i64s [g.no]) 3 (l := 1) (sz := 1) rfl
  have hB1 : Beyond w.heap.size [w.heap.size] := by simp [Beyond]
  generalize w.alloc (.cells #[.int .i64 g.no] 3) = w1 at m1 hs1 ⊢
  refine ⟨fun n more A L C n' w' => ∃ (rest : List Int) (G' : List Nat), n' = (rest.length : Int) ∧ Bad s g rest ∧ (more = false → ∀ c ∈ s.L, c.of_ ∈ g.no :: rest → c.no ∈ g.no :: rest) ∧ n = 2 * (l + 1 - rest.length) + (if more then 1 else 0) ∧ SlB w' A L C 1 (i64s (g.no :: rest)) G' ∧ Beyond w.heap.size G' ∧ Mod [] w w',
    ⟨_, [], [w.heap.size], rfl, Bad.nil s g, by simp, rfl, hs1, hB1, m1⟩, ?_⟩
  have hnl : (s.L.map (·.no)).length = l := by rw [List.length_map, hl]
  have blen : ∀ {rest : List Int}, Bad s g rest → rest.length ≤ l := fun hb => by
    rw [← hnl]
    refine nodup_len_le (List.nodup_cons.1 hb.nodup).2 fun x hx => ?_
    obtain ⟨c, hc, rfl, _⟩ := hb.und x hx
    exact List.mem_map.2 ⟨c, hc, rfl⟩
  rintro n more A L C n' - w2 ⟨rest, G', rfl, hbad, hcl, rfl, hs2, hG2, hm2⟩
  have hrl := blen hbad
  cases more with
  | true =>
    refine spl_t rfl ?_
    refine ⟨fun n A L C n' more k w' => ∃ (i : Nat) (rest' : List Int) (G' : List Nat), k = i ∧ i ≤ l ∧ n = l - i ∧ n' = (rest'.length : Int) ∧ Bad s g rest' ∧ (more = true → rest.length < rest'.length) ∧ (more = false → rest' = rest ∧ ∀ c ∈ s.L.take i, c.of_ ∈ g.no :: rest → c.no ∈ g.no :: rest) ∧ SlB w' A L C 1 (i64s (g.no :: rest')) G' ∧ Beyond w.heap.size G' ∧ Mod [] w w',
      ⟨l, 0, rest, G', rfl, by omega, rfl, rfl, hbad, by simp, fun _ => ⟨rfl, by simp⟩, hs2, hG2, hm2⟩, ?_⟩
    rintro n A3 L3 C3 n3 more3 k - w3 ⟨i, rest3, G3, rfl, hi, rfl, rfl, hb3, hmt, hmf, hs3, hG3, hm3⟩
    have hp3 := hm3.get g1 (by simp)
    have cp3 : w3.cell? ⟨p, 0, none⟩ = some (.slice (some ad) l c) := by rw [cell_get hp3]; rfl
    have hrl3 := blen hb3
    have hL3 := hs3.i64
    simp only [List.length_cons] at hL3
    refine ⟨some ad, l, c, cp3, ?_⟩
    rw [spl_decide]
    refine ⟨fun hlt => ⟨fun A L C n' more w' => ∃ (rest' : List Int) (G' : List Nat), n' = (rest'.length : Int) ∧ Bad s g rest' ∧ (more = true → rest.length < rest'.length) ∧ (more = false → rest' = rest ∧ ∀ c ∈ s.L.take (i + 1), c.of_ ∈ g.no :: rest → c.no ∈ g.no :: rest) ∧ SlB w' A L C 1 (i64s (g.no :: rest')) G' ∧ Beyond w.heap.size G' ∧ Mod [] w w', ?_, some ad, l, c, cp3, ?_⟩, fun hge => ?_⟩
    · rintro A L C n' more - w' ⟨rest', G', z1, z2, z3, z4, z5, z6, z7⟩
      exact ⟨l - (i + 1), by omega, i + 1, rest', G', by rw [w64 (by omega) (by omega)]; omega, by omega, rfl, z1, z2, z3, z4, z5, z6, z7⟩
    · have g23 := g2.keep (hm3.at0 g2.lt)
      obtain ⟨ad', x, ha', hx, -, -, hcx⟩ := g23.rd.rowc cec_8 (by decide) (i := i) (by omega)
      cases ha'
      have hxm : x ∈ s.L := List.mem_of_getElem? hx
      have same : (x.of_ ∈ g.no :: rest3 → x.no ∈ g.no :: rest3) → (more3 = false → rest3 = rest ∧ ∀ c ∈ s.L.take (i + 1), c.of_ ∈ g.no :: rest → c.no ∈ g.no :: rest) := fun hxc hmo => by
        obtain ⟨z1, z2⟩ := hmf hmo
        refine ⟨z1, fun c hc => ?_⟩
        rw [List.take_add_one, hx] at hc
        rcases List.mem_append.1 hc with hc | hc
        · exact z2 c hc
        · simp at hc; subst hc; rw [← z1]; exact hxc
      simp only [nilK_some, Int.toNat_natCast, add_add, Nat.add_assoc, Nat.reduceAdd]
      refine ⟨⟨by omega, by omega⟩, x.of_, hcx 1 (by decide), ?_⟩
      refine has_rd hs3.rd (by omega) x.of_ ⟨_, rfl, ?_⟩
      rw [spl_decide]
      refine ⟨fun ho => ⟨some ad, l, c, cp3, ?_⟩, fun ho => ⟨rest3, G3, rfl, hb3, hmt, same fun z => absurd z ho, hs3, hG3, hm3⟩⟩
      rw [nilK_some]
      refine ⟨⟨by omega, by omega⟩, x.no, hcx 0 (by decide), ?_⟩
      refine has_rd hs3.rd (by omega) x.no ⟨_, rfl, ?_⟩
      rw [spl_decide]
      refine ⟨fun hn => ⟨rest3, G3, rfl, hb3, hmt, same fun _ => hn, hs3, hG3, hm3⟩, fun hn => ⟨some ad, l, c, cp3, ?_⟩⟩
      rw [nilK_some]
      refine ⟨⟨by omega, by omega⟩, x.no, hcx 0 (by decide), ?_⟩
      rw [newK_eq]
      have hle3 : rest.length ≤ rest3.length := by
        cases more3 with
        | true => exact Nat.le_of_lt (hmt rfl)
        | false => rw [(hmf rfl).1]; exact Nat.le_refl _
      refine push_K slT_int (by decide) hs3 hG3 hm3 (us := [.int .i64 x.no]) rfl (by simp [isCell]) (by omega) (by omega) fun A5 C5 w5 G5 hs5 hG5 hm5 _ _ => ⟨_, _, _, rfl, rest3 ++ [x.no], G5, by rw [w64 (by omega) (by omega)]; simp, hb3.add hw hm hxm ho hn, fun _ => by simp; omega, fun z => (by cases z), ?_, hG5, hm5⟩
      rw [← List.cons_append, i64s_append]
      exact hs5
    · cases more3 with
      | true =>
        have := hmt rfl
        exact ⟨_, by simp only [if_true]; omega, rest3, G3, rfl, hb3, by simp, rfl, hs3, hG3, hm3⟩
      | false =>
        obtain ⟨rfl, hcl3⟩ := hmf rfl
        rw [List.take_of_length_le (by omega)] at hcl3
        exact ⟨_, by simp, rest3, G3, rfl, hb3, fun _ => hcl3, rfl, hs3, hG3, hm3⟩
  | false =>
    refine spl_f rfl ?_
    have hcl := hcl rfl
    have hL2 := hs2.i64
    simp only [List.length_cons] at hL2
    have keepx : ∀ x ∈ s.L, (x.no = g.no ∨ x.no ∉ g.no :: rest) ↔ isUnder s.L g.no x = false := fun x hx => by
      have := hbad.mem hw hcl hx
      rw [← Bool.not_eq_true, ← this]
      constructor
      · rintro (z | z) hr
        · have := (List.nodup_cons.1 hbad.nodup).1; rw [← z] at this; exact this hr
        · exact z (by simp [hr])
      · intro hr
        by_cases z : x.no = g.no
        · exact .inl z
        · exact .inr (by simp [z, hr])
    refine ⟨fun n A L C k w' => ∃ (i : Nat) (G4 : List Nat), k = i ∧ i ≤ l ∧ n = l - i ∧ L ≤ i ∧ SlB w' A L C 8 (rows cec ((s.L.take i).filter fun c => !isUnder s.L g.no c)) G4 ∧ Beyond w2.heap.size G4 ∧ Mod [] w2 w', ⟨l, 0, [], rfl, by omega, rfl, by omega, SlB.nil _ 8, by simp [Beyond], Mod.refl _ _⟩, ?_⟩
    rintro n A4 L4 C4 k - w4 ⟨i, G4, rfl, hi, rfl, hLi, hs4, hG4, hm4⟩
    have hm04 := hm2.trans' hm4
    have hp4 := hm04.get g1 (by simp)
    refine ⟨some ad, l, c, by rw [cell_get hp4]; rfl, ?_⟩
    rw [spl_decide]
    refine ⟨fun hlt => ⟨fun A L C w' => ∃ (G4 : List Nat), L ≤ i + 1 ∧ SlB w' A L C 8 (rows cec ((s.L.take (i + 1)).filter fun c => !isUnder s.L g.no c)) G4 ∧ Beyond w2.heap.size G4 ∧ Mod [] w2 w', ?_, ?_⟩, fun hge => ?_⟩
    · rintro A L C - w' ⟨G4, z1, z2, z3, z4⟩
      exact ⟨l - (i + 1), by omega, i + 1, G4, by rw [w64 (by omega) (by omega)]; omega, by omega, rfl, z1, z2, z3, z4⟩
    · rw [drK_eq]
      have hs5 : SlB w4.drew A4 L4 C4 8 (rows cec ((s.L.take i).filter fun c => !isUnder s.L g.no c)) G4 := hs4
      have hm5 := hm4.drew
      generalize w4.drew = w5 at hs5 hm5 ⊢
      have hm05 := hm2.trans' hm5
      have hp5 := hm05.get g1 (by simp)
      have cp5 : w5.cell? ⟨p, 0, none⟩ = some (.slice (some ad) l c) := by rw [cell_get hp5]; rfl
      have g25 := g2.keep (hm05.at0 g2.lt)
      obtain ⟨ad', x, ha', hx, -, -, hcx⟩ := g25.rd.rowc cec_8 (by decide) (i := i) (by omega)
      cases ha'
      have hxm : x ∈ s.L := List.mem_of_getElem? hx
      have hsb := hs2.rd.mod0 hm5
      obtain ⟨ab, y, rfl, hy, hcy, -, -⟩ := hsb.i64at (k := 0) (by omega)
      obtain rfl : g.no = y := by simpa using hy
      rw [add_zero] at hcy
      have et : (s.L.take (i + 1)).filter (fun c => !isUnder s.L g.no c) = (s.L.take i).filter (fun c => !isUnder s.L g.no c) ++ [x].filter (fun c => !isUnder s.L g.no c) := by
        rw [List.take_add_one, hx, List.filter_append]; rfl
      have put : ∀ {t e : Nat} {z : Value}, SlT Tryz.prog t e 8 64 z → isUnder s.L g.no x = false → ∀ {K' : Value → World → Prop}, (∀ A C w' G', SlB w' A (L4 + 1) C 8 (rows cec ((s.L.take (i + 1)).filter fun c => !isUnder s.L g.no c)) G' → Beyond w2.heap.size G' → Mod [] w2 w' → K' (.slice A (L4 + 1) C) w') →
          ∀ ty T', runK ((Builtin.append_ #[t, t] ty #[.slice A4 L4 C4, .slice (some ⟨w5.heap.size, 0, none⟩) 1 1]).run Tryz.prog (w5.alloc (.cells (cec x).toArray T'))) K' := fun hT hu K' hK' ty T' => by
        refine push_K hT (by decide) hs5 hG4 hm5 (us := cec x) rfl (cec_cell _) (by omega) (by omega) fun A5 C5 w6 G6 hs6 hG6 hm6 _ _ => hK' A5 C5 w6 G6 ?_ hG6 hm6
        rw [et, show [x].filter (fun c => !isUnder s.L g.no c) = [x] by simp [hu], rows_app, rows_one]
        exact hs6
      refine ⟨some ad, l, c, cp5, ?_⟩
      simp only [nilK_some, Int.toNat_natCast, add_add, Nat.add_assoc, Nat.reduceAdd]
      refine ⟨⟨by omega, by omega⟩, x.no, hcx 0 (by decide), ⟨by omega, by omega⟩, g.no, hcy, ?_⟩
      rw [spl_beq]
      have c8 : (w5.cell? (Addr.add ad (i * 8)) = some (.int .i64 x.no) ∧ w5.cell? (Addr.add ad (i * 8 + 1)) = some (.int .i64 x.of_) ∧ w5.cell? (Addr.add ad (i * 8 + 2)) = some (.int .i64 x.env) ∧ w5.cell? (Addr.add ad (i * 8 + 3)) = some (.int .i64 x.slot) ∧ w5.cell? (Addr.add ad (i * 8 + 4)) = some (.int .i64 x.x.k) ∧ w5.cell? (Addr.add ad (i * 8 + 5)) = some (.int .i64 x.x.i) ∧ w5.cell? (Addr.add ad (i * 8 + 6)) = some (.int .i64 x.x.n) ∧ w5.cell? (Addr.add ad (i * 8 + 7)) = some (.int .i64 x.x.r)) :=
        ⟨hcx 0 (by decide), hcx 1 (by decide), hcx 2 (by decide), hcx 3 (by decide), hcx 4 (by decide), hcx 5 (by decide), hcx 6 (by decide), hcx 7 (by decide)⟩
      refine ⟨fun heq => ⟨some ad, l, c, cp5, ?_⟩, fun hne => ⟨some ad, l, c, cp5, ?_⟩⟩
      · rw [nilK_some]
        refine ⟨⟨by omega, by omega⟩, _, _, _, _, _, _, _, _, c8, ?_⟩
        rw [newK_eq]
        exact put slT_janusref08_C ((keepx x hxm).1 (.inl heq)) (fun A5 C5 w6 G6 z1 z2 z3 => ⟨_, _, _, rfl, G6, by omega, z1, z2, z3⟩) _ _
      · rw [nilK_some]
        refine ⟨⟨by omega, by omega⟩, x.no, hcx 0 (by decide), ?_⟩
        refine has_rd hsb (by omega) x.no ⟨_, rfl, ?_⟩
        rw [spl_decide]
        refine ⟨fun hin => ⟨G4, by omega, ?_, hG4, hm5⟩, fun hnin => ⟨some ad, l, c, cp5, ?_⟩⟩
        · have hu : isUnder s.L g.no x = true := by
            cases hh : isUnder s.L g.no x with
            | true => rfl
            | false => rcases (keepx x hxm).2 hh with z | z
                       · exact absurd z hne
                       · exact absurd hin z
          rw [et, show [x].filter (fun c => !isUnder s.L g.no c) = [] by simp [hu], List.append_nil]
          exact hs5
        · rw [nilK_some]
          refine ⟨⟨by omega, by omega⟩, _, _, _, _, _, _, _, _, c8, ?_⟩
          rw [newK_eq]
          exact put slT_janusref08_C ((keepx x hxm).1 (.inr hnin)) (fun A5 C5 w6 G6 z1 z2 z3 => ⟨_, _, _, rfl, G6, by omega, z1, z2, z3⟩) _ _
    · have hil : i = l := by omega
      rw [hil, List.take_of_length_le (by omega)] at hs4
      have hsz2 := hm2.size
      have hpG : p ∉ G4 := fun hh => by have := hG4 p hh; omega
      refine stK_of hp4 (by simp) ?_
      have hS : revokeS8 s e sl = ⟨s.L.filter fun c => !isUnder s.L g.no c, s.last⟩ := by unfold revokeS8; rw [hlk]
      have hV : revokeV8 s e sl = ((rest.length : Int), 0) := by unfold revokeV8; rw [hlk]; simp only; rw [← hbad.count hw hcl]
      rw [hS] at hK hWr
      rw [hV] at hK
      refine hK _ (p :: G4) ⟨hWr, A4, L4, C4, G4, T, by rw [upd_same hp4]; rfl, hs4.keep fun z hz => upd_ne _ (by rintro rfl; exact hpG hz), hpG, rfl⟩ (hm04.of0.upd (.inl (by simp)) _) (fun z hz => ?_)
      rcases List.mem_cons.1 hz with rfl | hz
      · exact .inl (by simp)
      · have := hG4 z hz; exact .inr (by omega)

end Go.Proofs
