/-
  janusref08: contracts of the reference's capabilities: what may be, who has what.
-/
import Derived.Test.YtkcnchnlhdhcbaaRCaps
import Derived.Test.YtkcnchnlhdhcbaaDen9
set_option linter.unusedSimpArgs false
namespace Go.Proofs
open Go Go.Den

theorem andNot_has : ∀ r x : Fin 8, (ibits .andNot .i64 (r.val : Int) (x.val : Int) == 0) = hasR x.val r.val := by decide +kernel
theorem andNot_has' {r x : Int} (hr : 0 ≤ r ∧ r ≤ 7) (hx : 0 ≤ x ∧ x ≤ 7) : (ibits .andNot .i64 r x == 0) = hasR x r := by
  have := andNot_has ⟨r.toNat, by omega⟩ ⟨x.toNat, by omega⟩
  simp only at this
  rwa [show ((r.toNat : Nat) : Int) = r by omega, show ((x.toNat : Nat) : Int) = x by omega] at this
theorem and_comm8 : ∀ r x : Fin 8, (ibits .and .i64 (r.val : Int) (x.val : Int)) = ibits .and .i64 (x.val : Int) (r.val : Int) := by decide +kernel
theorem and_comm8' {r x : Int} (hr : 0 ≤ r ∧ r ≤ 7) (hx : 0 ≤ x ∧ x ≤ 7) : ibits .and .i64 r x = ibits .and .i64 x r := by
  have := and_comm8 ⟨r.toNat, by omega⟩ ⟨x.toNat, by omega⟩
  simp only at this
  rwa [show ((r.toNat : Nat) : Int) = r by omega, show ((x.toNat : Nat) : Int) = x by omega] at this

def capv (x : Cap8) : Value := .agg #[.int .i64 x.k, .int .i64 x.i, .int .i64 x.n, .int .i64 x.r]

theorem may8_run (x : Cap8) {w : World} {K : Value → World → Prop} (hK : ∀ w', Mod [] w w' → K (.bool (decide (May8 x))) w') : CallsR Try.prog F_janusref08_May #[.agg #[.int .i64 x.k, .int .i64 x.i, .int .i64 x.n, .int .i64 x.r]] w K := by
  apply R_janusref08_May_ok
  simp only [R_janusref08_May, spl_decide, spl_beq]
  refine (Sep.nil (Mod.refl [] w)).new fun b w1 s1 m1 hb => ?_
  have c0 : w1.cell? ⟨b, 0, none⟩ = some (.int .i64 x.k) := s1.cell 0 rfl rfl
  have c1 : w1.cell? ⟨b, 1, none⟩ = some (.int .i64 x.i) := s1.cell 0 rfl rfl
  have c2 : w1.cell? ⟨b, 2, none⟩ = some (.int .i64 x.n) := s1.cell 0 rfl rfl
  have c3 : w1.cell? ⟨b, 3, none⟩ = some (.int .i64 x.r) := s1.cell 0 rfl rfl
  have ht : May8 x → K (.bool true) w1 := fun h => by have := hK w1 m1; rwa [decide_eq_true h] at this
  have hf : ¬ May8 x → K (.bool false) w1 := fun h => by have := hK w1 m1; rwa [decide_eq_false h] at this
  have hl : (x.r ≤ 7 ↔ May8 x) → K (.bool (decide (x.r ≤ 7))) w1 := fun h => by have := hK w1 m1; rwa [← decide_eq_decide.2 h] at this
  simp only [c0, c1, c2, c3, Option.some.injEq, Value.int.injEq, true_and, exists_eq_left']
  unfold May8 at ht hf hl
  repeat' first | (refine ⟨?_, ?_⟩) | intro _
  all_goals first | exact hf (by omega) | exact hl (by omega)

section
variable {w : World} {p : Nat} {s : S8} {F : List Nat}

theorem add8_run (h : CR w p s F) (hL : s.L.length ≤ 100000) (hlast : s.last ≤ 1000000) (e : Int) (x : Cap8) {K : Value → World → Prop} (hK : ∀ w' F', CR w' p (addS8 s e x) F' → Mod F w w' → Own w F F' → K (.tuple #[.int .i64 (addV8 s e x).1, .int .i64 (addV8 s e x).2]) w') :
    CallsR Try.prog F_janusref08_Caps_Add #[.pointer (some ⟨p, 0, none⟩), .int .i64 e, .agg #[.int .i64 x.k, .int .i64 x.i, .int .i64 x.n, .int .i64 x.r]] w K := by
  apply R_janusref08_Caps_Add_ok
  simp only [R_janusref08_Caps_Add]
  refine (Sep.nil (Mod.refl [] w)).new fun b w1 s1 m1 hb => ?_
  have cs : ∀ {u : World}, Mod [] w1 u → (u.cell? ⟨b, 0, none⟩ = some (.int .i64 x.k) ∧ u.cell? ⟨b, 1, none⟩ = some (.int .i64 x.i) ∧ u.cell? ⟨b, 2, none⟩ = some (.int .i64 x.n) ∧ u.cell? ⟨b, 3, none⟩ = some (.int .i64 x.r)) := fun hm => by
    have s2 := s1.mod0 hm
    exact ⟨s2.cell 0 rfl rfl, s2.cell 0 rfl rfl, s2.cell 0 rfl rfl, s2.cell 0 rfl rfl⟩
  have no : ∀ w2, Mod [] w1 w2 → ¬ (env12 e ∧ May8 x) → K (.tuple #[.int .i64 0, .int .i64 101]) w2 := fun w2 hm hn => by
    have := hK w2 F (by unfold addS8; rw [if_neg hn]; exact h.mod0 (m1.trans' hm)) (m1.trans' hm).of0 (Own.refl _ _)
    rwa [addV8, if_neg hn] at this
  refine env8_run e ⟨_, rfl, ?_⟩
  rw [spl_decide]
  refine ⟨fun he => ⟨_, _, _, _, cs (Mod.refl _ _), ?_⟩, fun he => no w1 (Mod.refl _ _) fun h => he h.1⟩
  refine may8_run x fun w2 m2 => ⟨_, rfl, ?_⟩
  rw [spl_decide]
  refine ⟨fun hm => ⟨_, _, _, _, cs m2, ?_⟩, fun hm => no w2 m2 fun h => hm h.2⟩
  have hS : addS8 s e x = putS8 s e 0 x := by unfold addS8; rw [if_pos ⟨he, hm⟩]
  have hV : addV8 s e x = putV8 s e := by unfold addV8; rw [if_pos ⟨he, hm⟩]
  rw [hS, hV] at hK
  have h2 := h.mod0 (m1.trans' m2)
  refine putr_run h2 hL hlast (by rw [← hS]; exact h.1.add e x) fun w3 F3 h3 m3 o3 => ⟨_, _, rfl, hK w3 F3 h3 ((m1.trans' m2).of0.trans' m3) (fun z hz => (o3 z hz).imp id fun hh => by have := (m1.trans' m2).size; omega)⟩

theorem get8_run (h : CR w p s F) (hL : s.L.length ≤ 1000000) (e sl : Int) {K : Value → World → Prop} (hK : ∀ w', Mod [] w w' → K (.tuple #[.agg #[.int .i64 (getV8 s.L e sl).1.k, .int .i64 (getV8 s.L e sl).1.i, .int .i64 (getV8 s.L e sl).1.n, .int .i64 (getV8 s.L e sl).1.r], .bool (getV8 s.L e sl).2]) w') :
    CallsR Try.prog F_janusref08_Caps_Get #[.pointer (some ⟨p, 0, none⟩), .int .i64 e, .int .i64 sl] w K := by
  apply R_janusref08_Caps_Get_ok
  simp only [R_janusref08_Caps_Get, nilK_some]
  refine (Sep.nil (Mod.refl [] w)).new fun b w1 s1 m1 hb => ?_
  have h1 := h.mod0 m1
  refine find_run h1 hL e sl (fun hn => ⟨_, rfl, spl_t (by decide) ?_⟩) (fun i c hi hl hlt => ⟨_, rfl, spl_f (by simp) ?_⟩)
  · refine s1.st 0 rfl (by simp) fun w2 s2 m2 => ⟨_, _, _, _, ⟨s2.cell 0 rfl rfl, s2.cell 0 rfl rfl, s2.cell 0 rfl rfl, s2.cell 0 rfl rfl⟩, ?_⟩
    have := hK w2 s2.mod
    rwa [getV8, hn] at this
  · obtain ⟨hw, a, l, c', G, T, g1, g2, g3, rfl⟩ := h1
    have hl' := g2.count cec_8 (by decide)
    refine ⟨a, l, c', by rw [cell_get g1]; rfl, ?_⟩
    obtain ⟨ad, d, rfl, hd, -, -, hc⟩ := g2.rd.rowc cec_8 (by decide) (i := i) (by omega)
    rw [hi] at hd
    obtain rfl := Option.some.inj hd
    simp only [nilK_some, Int.toNat_natCast, add_add, Nat.add_assoc, Nat.reduceAdd]
    refine ⟨⟨by omega, by omega⟩, c.x.k, c.x.i, c.x.n, c.x.r, ⟨hc 4 (by decide), hc 5 (by decide), hc 6 (by decide), hc 7 (by decide)⟩, ?_⟩
    refine s1.st 0 rfl (by simp) fun w2 s2 m2 => ⟨_, _, _, _, ⟨s2.cell 0 rfl rfl, s2.cell 0 rfl rfl, s2.cell 0 rfl rfl, s2.cell 0 rfl rfl⟩, ?_⟩
    have := hK w2 s2.mod
    rwa [getV8, hl] at this

theorem covers8_run {x : Cap8} (hx : May8 x) (k i r : Int) (hi : (Lit.int .i64 i).wf = true) (hr : 0 ≤ r ∧ r ≤ 7) {w : World} {K : Value → World → Prop} (hK : ∀ w', Mod [] w w' → K (.bool (covers8 x k i r)) w') :
    CallsR Try.prog F_janusref08_covers #[.agg #[.int .i64 x.k, .int .i64 x.i, .int .i64 x.n, .int .i64 x.r], .int .i64 k, .int .i64 i, .int .i64 r] w K := by
  apply R_janusref08_covers_ok
  simp only [R_janusref08_covers, spl_decide, spl_beq]
  refine (Sep.nil (Mod.refl [] w)).new fun b w1 s1 m1 hb => ?_
  have c0 : w1.cell? ⟨b, 0, none⟩ = some (.int .i64 x.k) := s1.cell 0 rfl rfl
  have c1 : w1.cell? ⟨b, 1, none⟩ = some (.int .i64 x.i) := s1.cell 0 rfl rfl
  have c2 : w1.cell? ⟨b, 2, none⟩ = some (.int .i64 x.n) := s1.cell 0 rfl rfl
  have c3 : w1.cell? ⟨b, 3, none⟩ = some (.int .i64 x.r) := s1.cell 0 rfl rfl
  simp only [c0, c1, c2, c3, Option.some.injEq, Value.int.injEq, true_and, exists_eq_left']
  have hK := hK w1 m1
  obtain ⟨-, b2, b3, b4, b5, b6, b7⟩ := hx
  have hwf := i64_bounds hi
  rw [andNot_has' hr (by omega)]
  refine ⟨fun h0 => ⟨fun h1 => ?_, fun h1 => ?_⟩, fun h0 => ?_⟩
  · rw [w64 (by omega) (by omega)]
    refine ⟨fun h2 => ?_, fun h2 => ?_⟩
    · have e : covers8 x k i r = hasR x.r r := by
        unfold covers8
        rw [show (x.k == k) = true by simpa using h0, decide_eq_true (by omega : x.i ≤ i), decide_eq_true (by omega : i < x.i + x.n)]
        simp
      rwa [e] at hK
    · have e : covers8 x k i r = false := by
        unfold covers8
        rw [decide_eq_false (by omega : ¬ i < x.i + x.n)]
        simp
      rwa [e] at hK
  · have e : covers8 x k i r = false := by
      unfold covers8
      rw [decide_eq_false (by omega : ¬ x.i ≤ i)]
      simp
    rwa [e] at hK
  · have e : covers8 x k i r = false := by
      unfold covers8
      rw [show (x.k == k) = false by simpa using h0]
      simp
    rwa [e] at hK

theorem has8_run (h : CR w p s F) (hL : s.L.length ≤ 1000000) (e k i r : Int) (hi : (Lit.int .i64 i).wf = true) (hr : 0 ≤ r ∧ r ≤ 7) {K : Value → World → Prop} (hK : ∀ w', Mod [] w w' → K (.bool (has8 s.L e k i r)) w') :
    CallsR Try.prog F_janusref08_Caps_Has #[.pointer (some ⟨p, 0, none⟩), .int .i64 e, .int .i64 k, .int .i64 i, .int .i64 r] w K := by
  apply R_janusref08_Caps_Has_ok
  simp only [R_janusref08_Caps_Has, nilK_some, spl_decide, spl_beq]
  obtain ⟨hw, a, l, c, G, T, g1, g2, g3, rfl⟩ := h
  have hl := g2.count cec_8 (by decide)
  refine ⟨fun n t w' => ∃ j : Nat, t = j ∧ j ≤ l ∧ n = l - j ∧ has8 (s.L.take j) e k i r = false ∧ Mod [] w w', ⟨l, 0, rfl, by omega, rfl, rfl, Mod.refl _ _⟩, ?_⟩
  rintro n t - w1 ⟨j, rfl, hj, rfl, hno, hm1⟩
  have hp1 := hm1.get g1 (by simp)
  have cp : w1.cell? ⟨p, 0, none⟩ = some (.slice a l c) := by rw [cell_get hp1]; rfl
  have g21 := g2.keep (hm1.at0 g2.lt)
  refine ⟨a, l, c, cp, fun hlt => ⟨fun w2 => has8 (s.L.take (j + 1)) e k i r = false ∧ Mod [] w w2, ?_, a, l, c, cp, ?_⟩, fun hge => ?_⟩
  · rintro - w2 ⟨z1, z2⟩
    exact ⟨l - (j + 1), by omega, j + 1, by rw [w64 (by omega) (by omega)]; omega, by omega, rfl, z1, z2⟩
  · obtain ⟨ad, d, rfl, hd, -, -, hc⟩ := g21.rd.rowc cec_8 (by decide) (i := j) (by omega)
    have et : has8 (s.L.take (j + 1)) e k i r = (d.env == e && covers8 d.x k i r) := by
      unfold has8 at hno ⊢
      rw [List.take_add_one, hd, List.any_append, hno]
      simp
    have hdx := (hw.in_ d (List.mem_of_getElem? hd)).2.2.2.1
    simp only [nilK_some, Int.toNat_natCast, add_add, Nat.add_assoc, Nat.reduceAdd]
    refine ⟨⟨by omega, by omega⟩, d.env, hc 2 (by decide), fun he => ⟨some ad, l, c, cp, ?_⟩, fun hne => ⟨by rw [et]; simp [hne], hm1⟩⟩
    rw [nilK_some]
    refine ⟨⟨by omega, by omega⟩, d.x.k, d.x.i, d.x.n, d.x.r, ⟨hc 4 (by decide), hc 5 (by decide), hc 6 (by decide), hc 7 (by decide)⟩, ?_⟩
    refine covers8_run hdx k i r hi hr fun w2 m2 => ⟨_, rfl, ?_⟩
    cases hcv : covers8 d.x k i r with
    | true =>
      refine spl_t rfl ?_
      have : has8 s.L e k i r = true := List.any_eq_true.2 ⟨d, List.mem_of_getElem? hd, by simp [he, hcv]⟩
      have h3 := hK w2 (hm1.trans' m2)
      rwa [this] at h3
    | false => exact spl_f rfl ⟨by rw [et, hcv]; simp, hm1.trans' m2⟩
  · rw [List.take_of_length_le (by omega)] at hno
    have := hK w1 hm1
    rwa [hno] at this
end

end Go.Proofs
