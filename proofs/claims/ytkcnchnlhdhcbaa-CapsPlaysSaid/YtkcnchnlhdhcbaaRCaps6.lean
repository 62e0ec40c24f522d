/-
  janusref08: contracts of the reference's capabilities: Revoke.
-/
import Derived.Test.YtkcnchnlhdhcbaaRCaps5
import Derived.Test.YtkcnchnlhdhcbaaCaps3
set_option linter.unusedSimpArgs false
namespace Go.Proofs
open Go Go.Den

set_option maxHeartbeats 1000000 in
theorem revoke8_run {w : World} {p : Nat} {s : S8} {F : List Nat} (h : CR w p s F) (hL : s.L.length ≤ 100000) (e sl : Int) {K : Value → World → Prop} (hK : ∀ w' F', CR w' p (revokeS8 s e sl) F' → Mod F w w' → Own w F F' → K (.tuple #[.int .i64 (revokeV8 s e sl).1, .int .i64 (revokeV8 s e sl).2]) w') :
    CallsR Try.prog F_janusref08_Caps_Revoke #[.pointer (some ⟨p, 0, none⟩), .int .i64 e, .int .i64 sl] w K := by
  apply R_janusref08_Caps_Revoke_ok
  simp only [R_janusref08_Caps_Revoke, nilK_some]
  have h0 := h
  have hWr := h.1.revoke e sl
  refine find_run h (by omega) e sl (fun hn => ⟨_, rfl, spl_t (by decide) ?_⟩) (fun j g hj hlk hlt => ⟨_, rfl, spl_f (by simp) ?_⟩)
  · have := hK w F (by unfold revokeS8; rw [hn]; exact h0) (Mod.refl _ _) (Own.refl _ _)
    rwa [revokeV8, hn] at this
  obtain ⟨hm, hge, hgs⟩ := look8_some hlk
  obtain ⟨hw, a, l, c, G, T, g1, g2, g3, rfl⟩ := h
  have hl := g2.count cec_8 (by decide)
  have hplt := lt_of_get g1
  obtain ⟨ad, d, rfl, hd, rfl, hadlt, hc⟩ := g2.rd.rowc cec_8 (by decide) (i := j) (by omega)
  rw [hj] at hd
  obtain rfl := Option.some.inj hd
  have cp : w.cell? ⟨p, 0, none⟩ = some (.slice (some ad) l c) := by rw [cell_get g1]; rfl
  refine ⟨some ad, l, c, cp, ?_⟩
  simp only [nilK_some, Int.toNat_natCast, add_add, Nat.add_assoc, Nat.reduceAdd]
  refine ⟨⟨by omega, by omega⟩, g.no, hc 0 (by decide), ?_⟩
  rw [newK_eq]
  have m1 : Mod [] w (w.alloc (.cells #[.int .i64 g.no] 3)) := (Mod.refl _ _).alloc _
  have hs1 : SlB (w.alloc (.cells #[.int .i64 g.no] 3)) (some ⟨w.heap.size, 0, none⟩) 1 1 1 (i64s [g.no]) [w.heap.size] := SlB.new w (i64s [g.no]) 3 (l := 1) (sz := 1) rfl
  have hB1 : Beyond w.heap.size [w.heap.size] := by simp [Beyond]
  generalize w.alloc (.cells #[.int .i64 g.no] 3) = w1 at m1 hs1 ⊢
  refine ⟨fun n more A L C n' w' => ∃ (rest : List Int) (G' : List Nat), n' = (rest.length : Int) ∧ Bad s g rest ∧ (more = false → ∀ c ∈ s.L, c.of_ ∈ g.no :: rest → c.no ∈ g.no :: rest) ∧ n = 2 * (l + 1 - rest.length) + (if more then 1 else 0) ∧ SlB w' A L C 1 (i64s (g.no :: rest)) G' ∧ Beyond w.heap.size G' ∧ Mod [] w w',
    ⟨_, [], [w.heap.size], rfl, Bad.nil s g, by simp, rfl, hs1, hB1, m1⟩, ?_⟩
  have hnl : (s.L.map (·.no)).length = l := by rw [List.length_map, hl]
  have blen : ∀ {rest : List Int}, Bad s g rest → rest.length ≤ l := fun hb => by
    rw [← hnl]
    refine nodup_len_le (List.nodup_cons.1 hb.nodup).2 fun x hx => ?_
    obtain ⟨c, hc, rfl, _⟩ := hb.und x hx
    exact List.mem_map.2 ⟨c, hc, rfl⟩
  rintro n more A L C n' - w2 ⟨rest, G', rfl, hbad, hcl, rfl, hs2, hG2, hm2⟩
  have hrl := blen hbad
  cases more with
  | true =>
    refine spl_t rfl ?_
    refine ⟨fun n A L C n' more k w' => ∃ (i : Nat) (rest' : List Int) (G' : List Nat), k = i ∧ i ≤ l ∧ n = l - i ∧ n' = (rest'.length : Int) ∧ Bad s g rest' ∧ (more = true → rest.length < rest'.length) ∧ (more = false → rest' = rest ∧ ∀ c ∈ s.L.take i, c.of_ ∈ g.no :: rest → c.no ∈ g.no :: rest) ∧ SlB w' A L C 1 (i64s (g.no :: rest')) G' ∧ Beyond w.heap.size G' ∧ Mod [] w w',
      ⟨l, 0, rest, G', rfl, by omega, rfl, rfl, hbad, by simp, fun _ => ⟨rfl, by simp⟩, hs2, hG2, hm2⟩, ?_⟩
    rintro n A3 L3 C3 n3 more3 k - w3 ⟨i, rest3, G3, rfl, hi, rfl, rfl, hb3, hmt, hmf, hs3, hG3, hm3⟩
    have hp3 := hm3.get g1 (by simp)
    have cp3 : w3.cell? ⟨p, 0, none⟩ = some (.slice (some ad) l c) := by rw [cell_get hp3]; rfl
    have hrl3 := blen hb3
    have hL3 := hs3.i64
    simp only [List.length_cons] at hL3
    refine ⟨some ad, l, c, cp3, ?_⟩
    rw [spl_decide]
    refine ⟨fun hlt => ⟨fun A L C n' more w' => ∃ (rest' : List Int) (G' : List Nat), n' = (rest'.length : Int) ∧ Bad s g rest' ∧ (more = true → rest.length < rest'.length) ∧ (more = false → rest' = rest ∧ ∀ c ∈ s.L.take (i + 1), c.of_ ∈ g.no :: rest → c.no ∈ g.no :: rest) ∧ SlB w' A L C 1 (i64s (g.no :: rest')) G' ∧ Beyond w.heap.size G' ∧ Mod [] w w', ?_, some ad, l, c, cp3, ?_⟩, fun hge => ?_⟩
    · rintro A L C n' more - w' ⟨rest', G', z1, z2, z3, z4, z5, z6, z7⟩
      exact ⟨l - (i + 1), by omega, i + 1, rest', G', by rw [w64 (by omega) (by omega)]; omega, by omega, rfl, z1, z2, z3, z4, z5, z6, z7⟩
    · have g23 := g2.keep (hm3.at0 g2.lt)
      obtain ⟨ad', x, ha', hx, -, -, hcx⟩ := g23.rd.rowc cec_8 (by decide) (i := i) (by omega)
      cases ha'
      have hxm : x ∈ s.L := List.mem_of_getElem? hx
      have same : (x.of_ ∈ g.no :: rest3 → x.no ∈ g.no :: rest3) → (more3 = false → rest3 = rest ∧ ∀ c ∈ s.L.take (i + 1), c.of_ ∈ g.no :: rest → c.no ∈ g.no :: rest) := fun hxc hmo => by
        obtain ⟨z1, z2⟩ := hmf hmo
        refine ⟨z1, fun c hc => ?_⟩
        rw [List.take_add_one, hx] at hc
        rcases List.mem_append.1 hc with hc | hc
        · exact z2 c hc
        · simp at hc; subst hc; rw [← z1]; exact hxc
      simp only [nilK_some, Int.toNat_natCast, add_add, Nat.add_assoc, Nat.reduceAdd]
      refine ⟨⟨by omega, by omega⟩, x.of_, hcx 1 (by decide), ?_⟩
      refine has_rd hs3.rd (by omega) x.of_ ⟨_, rfl, ?_⟩
      rw [spl_decide]
      refine ⟨fun ho => ⟨some ad, l, c, cp3, ?_⟩, fun ho => ⟨rest3, G3, rfl, hb3, hmt, same fun z => absurd z ho, hs3, hG3, hm3⟩⟩
      rw [nilK_some]
      refine ⟨⟨by omega, by omega⟩, x.no, hcx 0 (by decide), ?_⟩
      refine has_rd hs3.rd (by omega) x.no ⟨_, rfl, ?_⟩
      rw [spl_decide]
      refine ⟨fun hn => ⟨rest3, G3, rfl, hb3, hmt, same fun _ => hn, hs3, hG3, hm3⟩, fun hn => ⟨some ad, l, c, cp3, ?_⟩⟩
      rw [nilK_some]
      refine ⟨⟨by omega, by omega⟩, x.no, hcx 0 (by decide), ?_⟩
      rw [newK_eq]
      have hle3 : rest.length ≤ rest3.length := by
        cases more3 with
        | true => exact Nat.le_of_lt (hmt rfl)
        | false => rw [(hmf rfl).1]; exact Nat.le_refl _
      refine push_K slT_int (by decide) hs3 hG3 hm3 (us := [.int .i64 x.no]) rfl (by simp [isCell]) (by omega) (by omega) fun A5 C5 w5 G5 hs5 hG5 hm5 _ _ => ⟨_, _, _, rfl, rest3 ++ [x.no], G5, by rw [w64 (by omega) (by omega)]; simp, hb3.add hw hm hxm ho hn, fun _ => by simp; omega, fun z => (by cases z), ?_, hG5, hm5⟩
      rw [← List.cons_append, i64s_append]
      exact hs5
    · cases more3 with
      | true =>
        have := hmt rfl
        exact ⟨_, by simp only [if_true]; omega, rest3, G3, rfl, hb3, by simp, rfl, hs3, hG3, hm3⟩
      | false =>
        obtain ⟨rfl, hcl3⟩ := hmf rfl
        rw [List.take_of_length_le (by omega)] at hcl3
        exact ⟨_, by simp, rest3, G3, rfl, hb3, fun _ => hcl3, rfl, hs3, hG3, hm3⟩
  | false =>
    refine spl_f rfl ?_
    have hcl := hcl rfl
    have hL2 := hs2.i64
    simp only [List.length_cons] at hL2
    have keepx : ∀ x ∈ s.L, (x.no = g.no ∨ x.no ∉ g.no :: rest) ↔ isUnder s.L g.no x = false := fun x hx => by
      have := hbad.mem hw hcl hx
      rw [← Bool.not_eq_true, ← this]
      constructor
      · rintro (z | z) hr
        · have := (List.nodup_cons.1 hbad.nodup).1; rw [← z] at this; exact this hr
        · exact z (by simp [hr])
      · intro hr
        by_cases z : x.no = g.no
        · exact .inl z
        · exact .inr (by simp [z, hr])
    refine ⟨fun n A L C k w' => ∃ (i : Nat) (G4 : List Nat), k = i ∧ i ≤ l ∧ n = l - i ∧ L ≤ i ∧ SlB w' A L C 8 (rows cec ((s.L.take i).filter fun c => !isUnder s.L g.no c)) G4 ∧ Beyond w2.heap.size G4 ∧ Mod [] w2 w', ⟨l, 0, [], rfl, by omega, rfl, by omega, SlB.nil _ 8, by simp [Beyond], Mod.refl _ _⟩, ?_⟩
    rintro n A4 L4 C4 k - w4 ⟨i, G4, rfl, hi, rfl, hLi, hs4, hG4, hm4⟩
    have hm04 := hm2.trans' hm4
    have hp4 := hm04.get g1 (by simp)
    refine ⟨some ad, l, c, by rw [cell_get hp4]; rfl, ?_⟩
    rw [spl_decide]
    refine ⟨fun hlt => ⟨fun A L C w' => ∃ (G4 : List Nat), L ≤ i + 1 ∧ SlB w' A L C 8 (rows cec ((s.L.take (i + 1)).filter fun c => !isUnder s.L g.no c)) G4 ∧ Beyond w2.heap.size G4 ∧ Mod [] w2 w', ?_, ?_⟩, fun hge => ?_⟩
    · rintro A L C - w' ⟨G4, z1, z2, z3, z4⟩
      exact ⟨l - (i + 1), by omega, i + 1, G4, by rw [w64 (by omega) (by omega)]; omega, by omega, rfl, z1, z2, z3, z4⟩
    · rw [drK_eq]
      have hs5 : SlB w4.drew A4 L4 C4 8 (rows cec ((s.L.take i).filter fun c => !isUnder s.L g.no c)) G4 := hs4
      have hm5 := hm4.drew
      generalize w4.drew = w5 at hs5 hm5 ⊢
      have hm05 := hm2.trans' hm5
      have hp5 := hm05.get g1 (by simp)
      have cp5 : w5.cell? ⟨p, 0, none⟩ = some (.slice (some ad) l c) := by rw [cell_get hp5]; rfl
      have g25 := g2.keep (hm05.at0 g2.lt)
      obtain ⟨ad', x, ha', hx, -, -, hcx⟩ := g25.rd.rowc cec_8 (by decide) (i := i) (by omega)
      cases ha'
      have hxm : x ∈ s.L := List.mem_of_getElem? hx
      have hsb := hs2.rd.mod0 hm5
      obtain ⟨ab, y, rfl, hy, hcy, -, -⟩ := hsb.i64at (k := 0) (by omega)
      obtain rfl : g.no = y := by simpa using hy
      rw [add_zero] at hcy
      have et : (s.L.take (i + 1)).filter (fun c => !isUnder s.L g.no c) = (s.L.take i).filter (fun c => !isUnder s.L g.no c) ++ [x].filter (fun c => !isUnder s.L g.no c) := by
        rw [List.take_add_one, hx, List.filter_append]; rfl
      have put : isUnder s.L g.no x = false → ∀ {K' : Value → World → Prop}, (∀ A C w' G', SlB w' A (L4 + 1) C 8 (rows cec ((s.L.take (i + 1)).filter fun c => !isUnder s.L g.no c)) G' → Beyond w2.heap.size G' → Mod [] w2 w' → K' (.slice A (L4 + 1) C) w') →
          ∀ T', runK ((Builtin.append_ #[48, 48] 48 #[.slice A4 L4 C4, .slice (some ⟨w5.heap.size, 0, none⟩) 1 1]).run Try.prog (w5.alloc (.cells (cec x).toArray T'))) K' := fun hu K' hK' T' => by
        refine push_K slT_janusref08_C (by decide) hs5 hG4 hm5 (us := cec x) rfl (cec_cell _) (by omega) (by omega) fun A5 C5 w6 G6 hs6 hG6 hm6 _ _ => hK' A5 C5 w6 G6 ?_ hG6 hm6
        rw [et, show [x].filter (fun c => !isUnder s.L g.no c) = [x] by simp [hu], rows_app, rows_one]
        exact hs6
      refine ⟨some ad, l, c, cp5, ?_⟩
      simp only [nilK_some, Int.toNat_natCast, add_add, Nat.add_assoc, Nat.reduceAdd]
      refine ⟨⟨by omega, by omega⟩, x.no, hcx 0 (by decide), ⟨by omega, by omega⟩, g.no, hcy, ?_⟩
      rw [spl_beq]
      have c8 : (w5.cell? (Addr.add ad (i * 8)) = some (.int .i64 x.no) ∧ w5.cell? (Addr.add ad (i * 8 + 1)) = some (.int .i64 x.of_) ∧ w5.cell? (Addr.add ad (i * 8 + 2)) = some (.int .i64 x.env) ∧ w5.cell? (Addr.add ad (i * 8 + 3)) = some (.int .i64 x.slot) ∧ w5.cell? (Addr.add ad (i * 8 + 4)) = some (.int .i64 x.x.k) ∧ w5.cell? (Addr.add ad (i * 8 + 5)) = some (.int .i64 x.x.i) ∧ w5.cell? (Addr.add ad (i * 8 + 6)) = some (.int .i64 x.x.n) ∧ w5.cell? (Addr.add ad (i * 8 + 7)) = some (.int .i64 x.x.r)) :=
        ⟨hcx 0 (by decide), hcx 1 (by decide), hcx 2 (by decide), hcx 3 (by decide), hcx 4 (by decide), hcx 5 (by decide), hcx 6 (by decide), hcx 7 (by decide)⟩
      refine ⟨fun heq => ⟨some ad, l, c, cp5, ?_⟩, fun hne => ⟨some ad, l, c, cp5, ?_⟩⟩
      · rw [nilK_some]
        refine ⟨⟨by omega, by omega⟩, _, _, _, _, _, _, _, _, c8, ?_⟩
        rw [newK_eq]
        exact put ((keepx x hxm).1 (.inl heq)) (fun A5 C5 w6 G6 z1 z2 z3 => ⟨_, _, _, rfl, G6, by omega, z1, z2, z3⟩) _
      · rw [nilK_some]
        refine ⟨⟨by omega, by omega⟩, x.no, hcx 0 (by decide), ?_⟩
        refine has_rd hsb (by omega) x.no ⟨_, rfl, ?_⟩
        rw [spl_decide]
        refine ⟨fun hin => ⟨G4, by omega, ?_, hG4, hm5⟩, fun hnin => ⟨some ad, l, c, cp5, ?_⟩⟩
        · have hu : isUnder s.L g.no x = true := by
            cases hh : isUnder s.L g.no x with
            | true => rfl
            | false => rcases (keepx x hxm).2 hh with z | z
                       · exact absurd z hne
                       · exact absurd hin z
          rw [et, show [x].filter (fun c => !isUnder s.L g.no c) = [] by simp [hu], List.append_nil]
          exact hs5
        · rw [nilK_some]
          refine ⟨⟨by omega, by omega⟩, _, _, _, _, _, _, _, _, c8, ?_⟩
          rw [newK_eq]
          exact put ((keepx x hxm).1 (.inr hnin)) (fun A5 C5 w6 G6 z1 z2 z3 => ⟨_, _, _, rfl, G6, by omega, z1, z2, z3⟩) _
    · have hil : i = l := by omega
      rw [hil, List.take_of_length_le (by omega)] at hs4
      have hsz2 := hm2.size
      have hpG : p ∉ G4 := fun hh => by have := hG4 p hh; omega
      refine stK_of hp4 (by simp) ?_
      have hS : revokeS8 s e sl = ⟨s.L.filter fun c => !isUnder s.L g.no c, s.last⟩ := by unfold revokeS8; rw [hlk]
      have hV : revokeV8 s e sl = ((rest.length : Int), 0) := by unfold revokeV8; rw [hlk]; simp only; rw [← hbad.count hw hcl]
      rw [hS] at hK hWr
      rw [hV] at hK
      refine hK _ (p :: G4) ⟨hWr, A4, L4, C4, G4, T, by rw [upd_same hp4]; rfl, hs4.keep fun z hz => upd_ne _ (by rintro rfl; exact hpG hz), hpG, rfl⟩ (hm04.of0.upd (.inl (by simp)) _) (fun z hz => ?_)
      rcases List.mem_cons.1 hz with rfl | hz
      · exact .inl (by simp)
      · have := hG4 z hz; exact .inr (by omega)

end Go.Proofs
