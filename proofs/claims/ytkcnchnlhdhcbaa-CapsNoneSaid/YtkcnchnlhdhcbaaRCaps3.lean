/-
  janusref08: contracts of the reference's capabilities: who has one, what is given on.
-/
import Derived.Test.YtkcnchnlhdhcbaaRCaps2
set_option linter.unusedSimpArgs false
namespace Go.Proofs
open Go Go.Den

section
variable {w : World} {p : Nat} {s : S8} {F : List Nat}

theorem holders8_run (h : CR w p s F) (hL : s.L.length ≤ 100000) (k i : Int) (hi : (Lit.int .i64 i).wf = true) {K : Value → World → Prop}
    (hK : ∀ A C w' G, SlB w' A (holders8 s.L k i).length C 1 (i64s (holders8 s.L k i)) G → Beyond w.heap.size G → Mod [] w w' → (holders8 s.L k i).length ≤ 12 → K (.slice A (holders8 s.L k i).length C) w') :
    CallsR Try.prog F_janusref08_Caps_Holders #[.pointer (some ⟨p, 0, none⟩), .int .i64 k, .int .i64 i] w K := by
  apply R_janusref08_Caps_Holders_ok
  simp only [R_janusref08_Caps_Holders, nilK_some, spl_decide]
  obtain ⟨hw, a, l, c, G, T, g1, g2, g3, rfl⟩ := h
  have hl := g2.count cec_8 (by decide)
  refine ⟨fun n A L C t w' => ∃ (j : Nat) (acc : List Int) (G' : List Nat), t = j ∧ j ≤ l ∧ n = l - j ∧ L ≤ j ∧ Rising acc ∧ (∀ x, x ∈ acc ↔ ∃ d ∈ s.L.take j, d.env = x ∧ covers8 d.x k i 0 = true) ∧ SlB w' A L C 1 (i64s acc) G' ∧ Beyond w.heap.size G' ∧ Mod [] w w',
    ⟨l, 0, [], [], rfl, by omega, rfl, by omega, by simp [Rising], by simp, SlB.nil _ 1, by simp [Beyond], Mod.refl _ _⟩, ?_⟩
  rintro n A L C t - w1 ⟨j, acc, G', rfl, hj, rfl, hLj, hris, hmem, hs1, hG1, hm1⟩
  have hp1 := hm1.get g1 (by simp)
  have cp : w1.cell? ⟨p, 0, none⟩ = some (.slice a l c) := by rw [cell_get hp1]; rfl
  have g21 := g2.keep (hm1.at0 g2.lt)
  have hla := hs1.i64
  refine ⟨a, l, c, cp, fun hlt => ⟨fun A L C w2 => ∃ (acc : List Int) (G' : List Nat), L ≤ j + 1 ∧ Rising acc ∧ (∀ x, x ∈ acc ↔ ∃ d ∈ s.L.take (j + 1), d.env = x ∧ covers8 d.x k i 0 = true) ∧ SlB w2 A L C 1 (i64s acc) G' ∧ Beyond w.heap.size G' ∧ Mod [] w w2, ?_, a, l, c, cp, ?_⟩, fun hge => ?_⟩
  · rintro A L C - w2 ⟨acc, G', z1, z2, z3, z4, z5, z6⟩
    exact ⟨l - (j + 1), by omega, j + 1, acc, G', by rw [w64 (by omega) (by omega)]; omega, by omega, rfl, z1, z2, z3, z4, z5, z6⟩
  · obtain ⟨ad, d, rfl, hd, -, hadlt, hc⟩ := g21.rd.rowc cec_8 (by decide) (i := j) (by omega)
    have hdx := (hw.in_ d (List.mem_of_getElem? hd)).2.2.2.1
    have et : ∀ x, (∃ d' ∈ s.L.take (j + 1), d'.env = x ∧ covers8 d'.x k i 0 = true) ↔ ((∃ d' ∈ s.L.take j, d'.env = x ∧ covers8 d'.x k i 0 = true) ∨ (d.env = x ∧ covers8 d.x k i 0 = true)) := fun x => by
      rw [List.take_add_one, hd]
      constructor
      · rintro ⟨d', hd', z⟩
        rcases List.mem_append.1 hd' with hd' | hd'
        · exact .inl ⟨d', hd', z⟩
        · simp at hd'; subst hd'; exact .inr z
      · rintro (⟨d', hd', z⟩ | z)
        · exact ⟨d', List.mem_append.2 (.inl hd'), z⟩
        · exact ⟨d, by simp, z⟩
    simp only [nilK_some, Int.toNat_natCast, add_add, Nat.add_assoc, Nat.reduceAdd]
    refine ⟨⟨by omega, by omega⟩, d.x.k, d.x.i, d.x.n, d.x.r, ⟨hc 4 (by decide), hc 5 (by decide), hc 6 (by decide), hc 7 (by decide)⟩, ?_⟩
    refine covers8_run hdx k i 0 hi (by decide) fun w2 m2 => ⟨_, rfl, ?_⟩
    cases hcv : covers8 d.x k i 0 with
    | false =>
      refine spl_f rfl ⟨acc, G', by omega, hris, fun x => ?_, hs1.keep (m2.at0 hs1.lt), hG1, hm1.trans' m2⟩
      rw [et, hmem x, hcv]
      simp
    | true =>
      refine spl_t rfl ⟨some ad, l, c, by rw [m2.cell (lt_of_get hp1)]; exact cp, ?_⟩
      have hc2 : w2.cell? (Addr.add ad (j * 8 + 2)) = some (.int .i64 d.env) := by
        rw [m2.cell (by rw [add_block]; exact hadlt)]
        exact hc 2 (by decide)
      rw [nilK_some]
      refine ⟨⟨by omega, by omega⟩, d.env, hc2, ?_⟩
      have hs2 := hs1.keep (m2.at0 hs1.lt)
      refine put_rd hs2.rd hs2.le (by omega) d.env fun A' L' C' w3 G3 hs3 hG3 m3 => ⟨_, _, _, rfl, putL acc d.env, G3, ?_, hris.put _, fun x => ?_, hs3, fun b hb => ?_, (hm1.trans' m2).trans' m3⟩
      · have := hs3.i64
        have := putL_len acc d.env
        omega
      · rw [mem_putL, et, hmem x, hcv]
        constructor
        · rintro (z | z)
          · exact .inr ⟨z.symm, rfl⟩
          · exact .inl z
        · rintro (z | ⟨z, -⟩)
          · exact .inr z
          · exact .inl z.symm
      · have := hG3 b hb; have := (hm1.trans' m2).size; omega
  · have hjl : j = l := by omega
    rw [hjl, List.take_of_length_le (by omega)] at hmem
    have e : acc = holders8 s.L k i := Rising.ext hris ((ups_rising 12).filter _) fun x => by
      rw [hmem x, holders8, List.mem_filter, mem_ups]
      unfold has8
      rw [List.any_eq_true]
      constructor
      · rintro ⟨d, hd, rfl, hcv⟩
        have := (hw.in_ d hd).1
        exact ⟨⟨this.1, this.2⟩, d, hd, by simp [hcv]⟩
      · rintro ⟨-, d, hd, z⟩
        simp only [Bool.and_eq_true, beq_iff_eq] at z
        exact ⟨d, hd, z.1, z.2⟩
    subst e
    rw [← hla] at hs1 ⊢
    refine hK A C w1 G' hs1 hG1 hm1 ?_
    have : (holders8 s.L k i).length ≤ (ups 12).length := List.length_filter_le _ _
    simpa [ups] using this

theorem give8_run (h : CR w p s F) (hL : s.L.length ≤ 100000) (hlast : s.last ≤ 1000000) (e sl to r : Int) {K : Value → World → Prop} (hK : ∀ w' F', CR w' p (giveS8 s e sl to r) F' → Mod F w w' → Own w F F' → K (.tuple #[.int .i64 (giveV8 s e sl to r).1, .int .i64 (giveV8 s e sl to r).2]) w') :
    CallsR Try.prog F_janusref08_Caps_Give #[.pointer (some ⟨p, 0, none⟩), .int .i64 e, .int .i64 sl, .int .i64 to, .int .i64 r] w K := by
  apply R_janusref08_Caps_Give_ok
  simp only [R_janusref08_Caps_Give, nilK_some]
  have h0 := h
  have hWg := h.1.give e sl to r
  have no : ∀ v : Int, giveS8 s e sl to r = s → giveV8 s e sl to r = (0, v) → K (.tuple #[.int .i64 0, .int .i64 v]) w := fun v h1 h2 => by
    have := hK w F (by rw [h1]; exact h0) (Mod.refl _ _) (Own.refl _ _)
    rwa [h2] at this
  refine find_run h (by omega) e sl (fun hn => ⟨_, rfl, spl_t (by decide) (no 104 (by unfold giveS8; rw [hn]) (by unfold giveV8; rw [hn]))⟩) (fun j c hj hlk hlt => ⟨_, rfl, spl_f (by simp) ?_⟩)
  have hx := (h.1.in_ c (look8_some hlk).1).2.2.2.1
  have hxr : 0 ≤ c.x.r ∧ c.x.r ≤ 7 := by unfold May8 at hx; omega
  obtain ⟨hw, a, l, c', G, T, g1, g2, g3, rfl⟩ := h
  have hl := g2.count cec_8 (by decide)
  obtain ⟨ad, d, rfl, hd, rfl, hadlt, hc⟩ := g2.rd.rowc cec_8 (by decide) (i := j) (by omega)
  rw [hj] at hd
  obtain rfl := Option.some.inj hd
  have cp : w.cell? ⟨p, 0, none⟩ = some (.slice (some ad) l c') := by rw [cell_get g1]; rfl
  have bad : ¬ mayGive c r → K (.tuple #[.int .i64 0, .int .i64 104]) w := fun hn => no 104 (by unfold giveS8; rw [hlk]; exact if_neg fun z => hn z.1) (by unfold giveV8; rw [hlk]; exact if_neg hn)
  have hplt := lt_of_get g1
  refine ⟨some ad, l, c', cp, ?_⟩
  simp only [nilK_some, Int.toNat_natCast, add_add, Nat.add_assoc, Nat.reduceAdd]
  refine ⟨⟨by omega, by omega⟩, c.x.r, hc 7 (by decide), ?_⟩
  rw [spl_beq]
  refine ⟨fun hz => bad fun z => z.1 hz, fun hz => ?_⟩
  rw [spl_decide]
  refine ⟨fun hr => bad fun z => by have := z.2.1; omega, fun hr1 => ?_⟩
  rw [spl_decide]
  refine ⟨fun hr => bad fun z => by have := z.2.2.1; omega, fun hr7 => ⟨some ad, l, c', cp, ?_⟩⟩
  rw [nilK_some]
  refine ⟨⟨by omega, by omega⟩, c.x.r, hc 7 (by decide), ?_⟩
  have hr : 0 ≤ r ∧ r ≤ 7 := by omega
  have hbits : (ibits .andNot .i64 r c.x.r = 0) ↔ ibits .and .i64 r c.x.r = r := by
    have h1 := andNot_has' hr hxr
    rw [and_comm8' hr hxr]
    unfold hasR at h1
    constructor
    · intro z; rw [z] at h1; simpa using h1.symm
    · intro z; rw [z] at h1; simpa using h1
  rw [spl_bne]
  refine ⟨fun hne => bad fun z => hne (hbits.2 z.2.2.2), fun heq => ?_⟩
  have hmg : mayGive c r := ⟨hz, by omega, by omega, hbits.1 heq⟩
  refine env8_run to ⟨_, rfl, ?_⟩
  rw [spl_decide]
  refine ⟨fun hto => ⟨some ad, l, c', cp, ?_⟩, fun hto => no 101 (by unfold giveS8; rw [hlk]; exact if_neg fun z => hto z.2) (by unfold giveV8; rw [hlk]; simp only; rw [if_pos hmg, if_neg hto])⟩
  simp only [nilK_some, add_add, Nat.add_assoc, Nat.reduceAdd]
  refine ⟨⟨by omega, by omega⟩, c.x.k, c.x.i, c.x.n, c.x.r, ⟨hc 4 (by decide), hc 5 (by decide), hc 6 (by decide), hc 7 (by decide)⟩, ?_⟩
  refine (Sep.nil (Mod.refl [] w)).new fun b w1 s1 m1 hb => ?_
  refine s1.st 0 rfl (by simp) fun w2 s2 m2 => ?_
  refine s2.st 0 rfl (by simp) fun w3 s3 m3 => ?_
  rw [drK_eq]
  have s4 := s3.mod0 ((Mod.refl [] w3).drew)
  generalize w3.drew = w4 at s4 ⊢
  have m4 := s4.mod
  have hp4 := m4.get g1 (by simp)
  have hS : giveS8 s e sl to r = putS8 s to c.no ⟨c.x.k, c.x.i, c.x.n, r⟩ := by unfold giveS8; rw [hlk]; exact if_pos ⟨hmg, hto⟩
  have hV : giveV8 s e sl to r = putV8 s to := by unfold giveV8; rw [hlk]; simp only; rw [if_pos hmg, if_pos hto]
  rw [hS, hV] at hK
  rw [hS] at hWg
  have cr : w4.cell? (Addr.add ad (j * 8)) = some (.int .i64 c.no) := by
    rw [m4.cell (by rw [add_block]; exact hadlt)]
    exact hc 0 (by decide)
  refine ⟨[p, ad.block, b], by simp, some ad, l, c', by rw [cell_get hp4]; rfl, ?_⟩
  simp only [nilK_some, add_add, Nat.add_assoc, Nat.reduceAdd]
  refine ⟨⟨by omega, by omega⟩, by simp [add_block], c.no, cr, by simp, c.x.k, c.x.i, c.x.n, r, ⟨s4.cell 0 rfl rfl, s4.cell 0 rfl rfl, s4.cell 0 rfl rfl, s4.cell 0 rfl rfl⟩, ?_⟩
  refine putr_run (x := ⟨c.x.k, c.x.i, c.x.n, r⟩) (h0.mod0 m4) hL hlast hWg fun w5 F5 h5 m5 o5 => ⟨_, _, rfl, hK w5 F5 h5 (m4.of0.trans' m5) (fun z hz => (o5 z hz).imp id fun hh => by have := m4.size; omega)⟩
end

end Go.Proofs
