/-
  janusref08: contracts of the reference's capabilities.
-/
import Derived.Test.YtkcnchnlhdhcbaaCaps
import Derived.Test.YtkcnchnlhdhcbaaDen17
import Derived.Test.YtkcnchnlhdhcbaaU64
import Derived.Test.YtkcnchnlhdhcbaaRHas
import Derived.Test.YtkcnchnlhdhcbaaRPut
import Derived.Test.YtkcnchnlhdhcbaaRes
set_option linter.unusedSimpArgs false
namespace Go.Proofs
open Go Go.Den

/-- The reference's capabilities at block 'p'. -/
def CR (w : World) (p : Nat) (s : S8) (F : List Nat) : Prop :=
  W8 s ∧ ∃ a l c G T, w.heap[p]? = some (.cells #[.slice a l c, .int .i64 s.last] T (0, 0)) ∧ SlB w a l c 8 (rows cec s.L) G ∧ p ∉ G ∧ F = p :: G
theorem CR.lt {w : World} {p : Nat} {s : S8} {F : List Nat} (h : CR w p s F) : ∀ b ∈ F, b < w.heap.size := by
  obtain ⟨hw, a, l, c, G, T, h1, h2, h3, rfl⟩ := h
  intro b hb
  rcases List.mem_cons.1 hb with rfl | hb
  · exact lt_of_get h1
  · exact h2.lt b hb
theorem CR.keep {w w' : World} {p : Nat} {s : S8} {F : List Nat} (h : CR w p s F) (hk : ∀ b ∈ F, w'.heap[b]? = w.heap[b]?) : CR w' p s F := by
  obtain ⟨hw, a, l, c, G, T, h1, h2, h3, rfl⟩ := h
  exact ⟨hw, a, l, c, G, T, (hk p (by simp)).trans h1, h2.keep fun b hb => hk b (by simp [hb]), h3, rfl⟩
theorem CR.mod0 {w w' : World} {p : Nat} {s : S8} {F : List Nat} (h : CR w p s F) (hm : Mod [] w w') : CR w' p s F := h.keep (hm.at0 h.lt)
def crPart (p : Nat) (s : S8) (F : List Nat) : Part := ⟨F, fun w => CR w p s F, fun h k => h.keep k, fun h => h.lt⟩

section
variable {w : World} {p : Nat} {s : S8} {F : List Nat}

theorem find_run (h : CR w p s F) (hL : s.L.length ≤ 1000000) (e sl : Int) {K : Value → World → Prop} (h0 : look8 s.L e sl = none → K (.int .i64 (-1)) w)
    (h1 : ∀ (i : Nat) c, s.L[i]? = some c → look8 s.L e sl = some c → i < s.L.length → K (.int .i64 (i : Int)) w) : CallsR Try.prog F_janusref08_Caps_find #[.pointer (some ⟨p, 0, none⟩), .int .i64 e, .int .i64 sl] w K := by
  apply R_janusref08_Caps_find_ok
  simp only [R_janusref08_Caps_find, nilK_some, spl_decide, spl_beq]
  obtain ⟨hw, a, l, c, G, T, g1, g2, g3, rfl⟩ := h
  have hl := g2.count cec_8 (by decide)
  refine ⟨fun n i w' => ∃ j : Nat, i = j ∧ j ≤ l ∧ n = l - j ∧ (∀ d ∈ s.L.take j, isAt e sl d = false) ∧ w' = w, ⟨l, 0, rfl, by omega, rfl, by simp, rfl⟩, ?_⟩
  rintro n i - w' ⟨j, rfl, hj, rfl, hno, rfl⟩
  have cp : w'.cell? ⟨p, 0, none⟩ = some (.slice a l c) := by rw [cell_get g1]; rfl
  refine ⟨a, l, c, cp, fun hlt => ⟨fun w1 => w1 = w' ∧ ∃ d, s.L[j]? = some d ∧ isAt e sl d = false, ?_, a, l, c, cp, ?_⟩, fun hge => h0 ?_⟩
  · rintro - w1 ⟨rfl, d, hd, hat⟩
    refine ⟨l - (j + 1), by omega, j + 1, by rw [w64 (by omega) (by omega)]; omega, by omega, rfl, fun d' hd' => ?_, by first | rfl | trivial⟩
    rw [List.take_add_one, hd] at hd'
    rcases List.mem_append.1 hd' with h | h
    · exact hno d' h
    · simp at h; subst h; exact hat
  · obtain ⟨ad, d, rfl, hd, -, -, hc⟩ := g2.rd.rowc cec_8 (by decide) (i := j) (by omega)
    simp only [nilK_some, Int.toNat_natCast, add_add, Nat.add_assoc, Nat.reduceAdd]
    refine ⟨⟨by omega, by omega⟩, d.env, hc 2 (by decide), fun he => ⟨some ad, l, c, cp, ?_⟩, fun hne => ⟨by trivial, d, hd, by simp [isAt, hne]⟩⟩
    rw [nilK_some]
    refine ⟨⟨by omega, by omega⟩, d.slot, hc 3 (by decide), fun hs => ?_, fun hne => ⟨by trivial, d, hd, by simp [isAt, hne]⟩⟩
    refine h1 j d hd ?_ (by omega)
    have := look8_of hw.key (List.mem_of_getElem? hd)
    rwa [he, hs] at this
  · rw [List.take_of_length_le (by omega)] at hno
    exact List.find?_eq_none.2 fun d hd => by rw [hno d hd]; simp

theorem env8_run (n : Int) {w : World} {K : Value → World → Prop} (h : K (.bool (decide (env12 n))) w) : CallsR Try.prog F_janusref08_Env #[.int .i64 n] w K := by
  apply R_janusref08_Env_ok
  simp only [R_janusref08_Env, spl_decide]
  refine ⟨fun h1 => ?_, fun h1 => ?_⟩
  · rw [show decide (n < 12) = decide (env12 n) from decide_eq_decide.2 (by unfold env12; omega)]; exact h
  · rw [show false = decide (env12 n) from (decide_eq_false (by unfold env12; omega)).symm]; exact h

theorem free_run (h : CR w p s F) (hL : s.L.length ≤ 1000000) (e : Int) {K : Value → World → Prop} (hK : K (.int .i64 (free8 s.L e)) w) : CallsR Try.prog F_janusref08_Caps_free #[.pointer (some ⟨p, 0, none⟩), .int .i64 e] w K := by
  apply R_janusref08_Caps_free_ok
  simp only [R_janusref08_Caps_free, spl_decide]
  refine ⟨fun n i w' => ∃ j : Nat, i = j ∧ 1 ≤ j ∧ j ≤ 65 ∧ n = 65 - j ∧ (∀ i : Nat, 1 ≤ i → i < j → look8 s.L e i ≠ none) ∧ w' = w, ⟨64, 1, rfl, by omega, by omega, rfl, fun i h1 h2 => by omega, rfl⟩, ?_⟩
  rintro n i - w' ⟨j, rfl, hj1, hj, rfl, hno, rfl⟩
  refine ⟨fun hle => ?_, fun hgt => ?_⟩
  · refine find_run h hL e j (fun h0 => ⟨_, rfl, ?_⟩) (fun i c hi hl hlt => ⟨_, rfl, ?_⟩)
    · refine ⟨fun _ => ?_, fun h => absurd (by decide) h⟩
      have : free8 s.L e = j := by
        rcases free8_spec s.L e with ⟨h1, h2⟩ | ⟨k, h1, h2, h3, h4, h5⟩
        · exact absurd h0 (h2 j hj1 (by omega))
        · rw [h3]
          rcases Nat.lt_trichotomy j k with hlt | heq | hgt
          · exact absurd h0 (h5 j hj1 hlt)
          · omega
          · exact absurd h4 (hno k h1 hgt)
      rw [this] at hK
      exact hK
    · refine ⟨fun h => by omega, fun _ => ⟨65 - (j + 1), by omega, j + 1, by rw [w64 (by omega) (by omega)]; omega, by omega, by omega, rfl, fun k h1 h2 => ?_, by first | rfl | trivial⟩⟩
      by_cases hk : k = j
      · subst hk; rw [hl]; simp
      · exact hno k h1 (by omega)
  · have : free8 s.L e = 0 := by
      rcases free8_spec s.L e with ⟨h1, h2⟩ | ⟨k, h1, h2, h3, h4, h5⟩
      · exact h1
      · exact absurd h4 (hno k h1 (by omega))
    rw [this] at hK
    exact hK

theorem putr_run (h : CR w p s F) (hL : s.L.length ≤ 100000) (hlast : s.last ≤ 1000000) {e o : Int} {x : Cap8} (hW : W8 (putS8 s e o x)) {K : Value → World → Prop} (hK : ∀ w' F', CR w' p (putS8 s e o x) F' → Mod F w w' → Own w F F' → K (.tuple #[.int .i64 (putV8 s e).1, .int .i64 (putV8 s e).2]) w') :
    CallsR Try.prog F_janusref08_Caps_put #[.pointer (some ⟨p, 0, none⟩), .int .i64 e, .int .i64 o, .agg #[.int .i64 x.k, .int .i64 x.i, .int .i64 x.n, .int .i64 x.r]] w K := by
  apply R_janusref08_Caps_put_ok
  simp only [R_janusref08_Caps_put, nilK_some, addr_add, Nat.zero_add]
  have h' := h
  obtain ⟨hw, a, l, c, G, T, g1, g2, g3, rfl⟩ := h
  have hl := g2.count cec_8 (by decide)
  have hplt := lt_of_get g1
  have hlast0 := hw.last
  refine (Sep.nil (Mod.refl [] w)).new fun b w1 s1 m1 hb => ?_
  refine free_run (h'.mod0 m1) (by omega) e ⟨_, rfl, ?_⟩
  rw [spl_beq]
  refine ⟨fun hz => ?_, fun hnz => ?_⟩
  · have := hK w1 (p :: G) (by unfold putS8; rw [if_pos hz]; exact h'.mod0 m1) m1.of0 (Own.refl _ _)
    rwa [putV8, if_pos hz] at this
  have hp1 := m1.get g1 (by simp)
  have hpb : p ≠ b := by omega
  refine ⟨s.last, by rw [cell_get hp1]; rfl, ?_⟩
  refine stK_of hp1 (by simp) ?_
  rw [w64 (by omega) (by omega)]
  have k1 : (w1.upd p (.cells (splice #[.slice a l c, .int .i64 s.last] 1 [.int .i64 (s.last + 1)]) T (0, 0))).heap[p]? = some (.cells #[.slice a l c, .int .i64 (s.last + 1)] T (0, 0)) := by rw [upd_same hp1]; rfl
  have m2 : Mod (p :: G) w (w1.upd p (.cells (splice #[.slice a l c, .int .i64 s.last] 1 [.int .i64 (s.last + 1)]) T (0, 0))) := m1.of0.upd (.inl (by simp)) _
  have k2 : SlB (w1.upd p (.cells (splice #[.slice a l c, .int .i64 s.last] 1 [.int .i64 (s.last + 1)]) T (0, 0))) a l c 8 (rows cec s.L) G := (g2.keep (m1.at0 g2.lt)).keep fun b hb => upd_ne _ (by rintro rfl; exact g3 hb)
  have k3 : (w1.upd p (.cells (splice #[.slice a l c, .int .i64 s.last] 1 [.int .i64 (s.last + 1)]) T (0, 0))).heap[b]? = w1.heap[b]? := upd_ne _ hpb
  have hbw : w1.heap[b]? = some _ := s1.nth 0 rfl
  generalize w1.upd p _ = w2 at k1 k2 k3 m2 ⊢
  rw [drK_eq]
  have k1 : w2.drew.heap[p]? = _ := k1
  have k2 : SlB w2.drew a l c 8 (rows cec s.L) G := k2
  have kb : w2.drew.heap[b]? = _ := k3.trans hbw
  have m2 := m2.drew
  generalize w2.drew = w3 at k1 k2 kb m2 ⊢
  clear k3
  have hsz2 := m2.size
  have kB : ∀ {u : World}, Mod [] w3 u → keepB [p, b] w3 u := fun hm z hz => by
    simp only [List.mem_cons, List.not_mem_nil, or_false] at hz
    rcases hz with rfl | rfl
    · exact hm.keep _ (lt_of_get k1) (by simp)
    · exact hm.keep _ (lt_of_get kb) (by simp)
  have fin : ∀ (A : Option Addr) (L C : Nat) (w5 : World) (G5 : List Nat), L = l + 1 → SlB w5 A L C 8 (rows cec s.L ++ cec ⟨s.last + 1, o, e, free8 s.L e, x⟩) G5 → Beyond w3.heap.size G5 → Mod [] w3 w5 →
      stK ⟨p, 0, none⟩ [.slice A L C] w5 fun w6 => K (.tuple #[.int .i64 (free8 s.L e), .int .i64 0]) w6 := fun A L C w5 G5 hLl hs5 hG5 m5 => by
    have hp5 := m5.get k1 (by simp)
    have hpG : p ∉ G5 := fun h => by have := hG5 p h; omega
    refine stK_of hp5 (by simp) ?_
    have hS : putS8 s e o x = ⟨s.L ++ [⟨s.last + 1, o, e, free8 s.L e, x⟩], s.last + 1⟩ := by unfold putS8; rw [if_neg hnz]
    have hV : putV8 s e = (free8 s.L e, 0) := by unfold putV8; rw [if_neg hnz]
    rw [hS] at hW hK
    rw [hV] at hK
    refine hK _ (p :: G5) ⟨hW, A, L, C, G5, T, by rw [upd_same hp5]; rfl, ?_, hpG, rfl⟩ ((m2.trans' m5.of0).upd (.inl (by simp)) _) (fun z hz => ?_)
    · rw [rows_app, rows_one]
      exact hs5.keep fun z hz => upd_ne _ (by rintro rfl; exact hpG hz)
    · rcases List.mem_cons.1 hz with rfl | hz
      · exact .inl (by simp)
      · have := hG5 z hz; exact .inr (by omega)
  refine ⟨[p, b], by simp, a, l, c, by rw [cell_get k1]; rfl, by simp, s.last + 1, by rw [cell_get k1]; rfl, by simp, x.k, x.i, x.n, x.r, ⟨by rw [cell_get kb]; rfl, by rw [cell_get kb]; rfl, by rw [cell_get kb]; rfl, by rw [cell_get kb]; rfl⟩, ?_, ?_⟩
  · refine push_rd_K (w0 := w3) slT_janusref08_C (by decide) (SlB.nil w3 8) (by simp [Beyond]) (Mod.refl _ _) k2.rd (rows_cell cec_cell _) (by omega) (by omega) fun A C w4 G4 hs4 hG4 m4 _ _ => ⟨_, _, _, rfl, kB m4, ?_⟩
    rw [Nat.zero_add] at hs4 ⊢
    rw [List.nil_append] at hs4
    rw [newK_eq]
    refine ⟨kB (m4.alloc _), ?_⟩
    refine push_K (w0 := w3) slT_janusref08_C (by decide) hs4 hG4 m4 (us := cec ⟨s.last + 1, o, e, free8 s.L e, x⟩) rfl (cec_cell _) (by omega) (by omega) fun A' C' w5 G5 hs5 hG5 m5 _ _ => ⟨_, _, _, rfl, fin _ _ _ w5 G5 rfl hs5 hG5 m5⟩
  · rw [newK_eq]
    have m4 : Mod [] w3 (w3.alloc (.cells #[.int .i64 (s.last + 1), .int .i64 o, .int .i64 e, .int .i64 (free8 s.L e), .int .i64 x.k, .int .i64 x.i, .int .i64 x.n, .int .i64 x.r] 78)) := (Mod.refl _ _).alloc _
    have hn := SlB.new w3 (cec ⟨s.last + 1, o, e, free8 s.L e, x⟩) 78 (l := 1) (sz := 8) rfl
    have hn : SlB (w3.alloc (.cells #[.int .i64 (s.last + 1), .int .i64 o, .int .i64 e, .int .i64 (free8 s.L e), .int .i64 x.k, .int .i64 x.i, .int .i64 x.n, .int .i64 x.r] 78)) (some ⟨w3.heap.size, 0, none⟩) 1 1 8 (cec ⟨s.last + 1, o, e, free8 s.L e, x⟩) [w3.heap.size] := hn
    generalize w3.alloc _ = w4 at m4 hn ⊢
    generalize w3.heap.size = bq at hn ⊢
    refine ⟨kB m4, ?_⟩
    refine push_rd_K (w0 := w3) slT_janusref08_C (by decide) (SlB.nil w4 8) (by simp [Beyond]) m4 (k2.rd.mod0 m4) (rows_cell cec_cell _) (by omega) (by omega) fun A C w5 G5 hs5 hG5 m5 m45 _ => ⟨_, _, _, rfl, kB m5, ?_⟩
    rw [Nat.zero_add] at hs5 ⊢
    rw [List.nil_append] at hs5
    refine push_rd_K (w0 := w3) slT_janusref08_C (by decide) hs5 hG5 m5 (hn.rd.mod0 m45) (cec_cell _) (by omega) (by omega) fun A' C' w6 G6 hs6 hG6 m6 _ _ => ⟨_, _, _, rfl, fin _ _ _ w6 G6 rfl hs6 hG6 m6⟩
end

end Go.Proofs
