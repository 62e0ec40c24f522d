/-
  janusref08: contracts of the reference's capabilities: one goes.
-/
import Derived.Test.YtkcnchnlhdhcbaaRCaps3
set_option linter.unusedSimpArgs false
namespace Go.Den
open Go

theorem rows_set1 {α : Type} {f : α → List Value} {k : Nat} (hf : ∀ x, (f x).length = k) : ∀ {L : List α} {i : Nat} (hi : i < L.length) {x : α} {v : Value} {j : Nat}, j < k → f x = (f L[i]).set j v → (rows f L).set (i * k + j) v = rows f (L.set i x)
  | y :: L, 0, _, x, v, j, hj, he => by
    rw [rows_cons, List.set_cons_zero, rows_cons, Nat.zero_mul, Nat.zero_add, List.set_append_left _ _ (by rw [hf]; exact hj), he]
    rfl
  | y :: L, i + 1, hi, x, v, j, hj, he => by
    have hi' : i < L.length := by simpa using hi
    rw [rows_cons, List.set_cons_succ, rows_cons, List.set_append_right _ _ (by rw [hf, Nat.succ_mul]; omega), hf, ← rows_set1 hf hi' hj (by simpa using he)]
    congr 2
    rw [Nat.succ_mul]
    omega

theorem without_eq {L : List CE} (hk : L.Pairwise fun a b => ¬ (a.env = b.env ∧ a.slot = b.slot)) {e sl : Int} {i : Nat} {c : CE} (hi : L[i]? = some c) (hc : c.env = e ∧ c.slot = sl) : without L e sl = L.take i ++ L.drop (i + 1) := by
  induction L generalizing i with
  | nil => simp at hi
  | cons y L ih =>
    obtain ⟨h1, h2⟩ := List.pairwise_cons.1 hk
    cases i with
    | zero =>
      obtain rfl : y = c := by simpa using hi
      have ey : isAt e sl y = true := isAt_iff.2 hc
      have : (L.filter fun c => !isAt e sl c) = L := List.filter_eq_self.2 fun z hz => by
        cases hh : isAt e sl z with
        | false => rfl
        | true =>
          have := isAt_iff.1 hh
          exact absurd ⟨hc.1.trans this.1.symm, hc.2.trans this.2.symm⟩ (h1 z hz)
      unfold without
      rw [List.filter_cons_of_neg (by simp [ey]), this]
      simp
    | succ i =>
      have hm : c ∈ L := List.mem_of_getElem? (by simpa using hi)
      have ey : isAt e sl y = false := by
        cases hh : isAt e sl y with
        | false => rfl
        | true =>
          have := isAt_iff.1 hh
          exact absurd ⟨this.1.trans hc.1.symm, this.2.trans hc.2.symm⟩ (h1 c hm)
      have := ih h2 (i := i) (by simpa using hi)
      unfold without at this ⊢
      rw [List.filter_cons_of_pos (by simp [ey]), this]
      simp

/-- A list some of whose elements were re-parented. -/
def repTo (g : CE) (W : List CE) (j : Nat) : List CE := (W.take j).map (reparent g) ++ W.drop j
theorem repTo_0 (g : CE) (W : List CE) : repTo g W 0 = W := by simp [repTo]
theorem repTo_all (g : CE) (W : List CE) : repTo g W W.length = W.map (reparent g) := by simp [repTo]
theorem repTo_len (g : CE) (W : List CE) (j : Nat) : (repTo g W j).length = W.length := by simp [repTo]; omega
theorem repTo_get (g : CE) (W : List CE) (j : Nat) : (repTo g W j)[j]? = W[j]? := by
  unfold repTo
  by_cases h : j ≤ W.length
  · rw [List.getElem?_append_right (by simp; omega)]
    simp [Nat.min_eq_left h]
  · rw [List.getElem?_eq_none (by simp; omega), List.getElem?_eq_none (by omega)]
theorem repTo_succ (g : CE) (W : List CE) {j : Nat} (hj : j < W.length) : repTo g W (j + 1) = (repTo g W j).set j (reparent g W[j]) := by
  apply List.ext_getElem?
  intro i
  rw [List.getElem?_set]
  unfold repTo
  by_cases hik : j = i
  · subst hik
    rw [if_pos rfl, if_pos (by simp; omega), List.getElem?_append_left (by simp; omega)]
    simp [List.getElem?_eq_getElem hj]
  · rw [if_neg hik]
    by_cases hi : i < j
    · rw [List.getElem?_append_left (by simp; omega), List.getElem?_append_left (by simp; omega)]
      simp [List.getElem?_take, hi, show i < j + 1 by omega]
    · rw [List.getElem?_append_right (by simp; omega), List.getElem?_append_right (by simp; omega)]
      simp only [List.length_map, List.length_take, List.getElem?_drop]
      congr 1
      omega
theorem repTo_same (g : CE) (W : List CE) {j : Nat} (hj : j < W.length) (h : W[j].of_ ≠ g.no) : repTo g W (j + 1) = repTo g W j := by
  rw [repTo_succ g W hj]
  have e : reparent g W[j] = W[j] := by unfold reparent; rw [if_neg h]
  rw [e]
  apply List.ext_getElem?
  intro i
  rw [List.getElem?_set]
  by_cases hik : j = i
  · subst hik
    rw [if_pos rfl, if_pos (by rw [repTo_len]; exact hj), repTo_get, List.getElem?_eq_getElem hj]
  · rw [if_neg hik]

end Go.Den
namespace Go.Proofs
open Go Go.Den

set_option maxHeartbeats 2000000 in
theorem drop8_run {w : World} {p : Nat} {s : S8} {F : List Nat} (h : CR w p s F) (hL : s.L.length ≤ 100000) (e sl : Int) {K : Value → World → Prop} (hK : ∀ w' F', CR w' p (dropS8 s e sl) F' → Mod F w w' → Own w F F' → K (.tuple #[.bool (dropV8 s e sl).1, .int .i64 (dropV8 s e sl).2]) w') :
    CallsR Try.prog F_janusref08_Caps_Drop #[.pointer (some ⟨p, 0, none⟩), .int .i64 e, .int .i64 sl] w K := by
  apply R_janusref08_Caps_Drop_ok
  simp only [R_janusref08_Caps_Drop, nilK_some]
  have h0 := h
  have hWd := h.1.drop e sl
  refine find_run h (by omega) e sl (fun hn => ⟨_, rfl, spl_t (by decide) ?_⟩) (fun j g hj hlk hlt => ⟨_, rfl, spl_f (by simp) ?_⟩)
  · have := hK w F (by unfold dropS8; rw [hn]; exact h0) (Mod.refl _ _) (Own.refl _ _)
    rwa [dropV8, hn] at this
  obtain ⟨hm, hge, hgs⟩ := look8_some hlk
  obtain ⟨hw, a, l, c, G, T, g1, g2, g3, rfl⟩ := h
  have hl := g2.count cec_8 (by decide)
  have hplt := lt_of_get g1
  obtain ⟨ad, d, rfl, hd, rfl, hadlt, hc⟩ := g2.rd.rowc cec_8 (by decide) (i := j) (by omega)
  rw [hj] at hd
  obtain rfl := Option.some.inj hd
  have cp : w.cell? ⟨p, 0, none⟩ = some (.slice (some ad) l c) := by rw [cell_get g1]; rfl
  refine ⟨some ad, l, c, cp, ?_⟩
  simp only [nilK_some, Int.toNat_natCast, add_add, Nat.add_assoc, Nat.reduceAdd]
  refine ⟨⟨by omega, by omega⟩, g.no, g.of_, g.env, g.slot, g.x.k, g.x.i, g.x.n, g.x.r, ⟨hc 0 (by decide), hc 1 (by decide), hc 2 (by decide), hc 3 (by decide), hc 4 (by decide), hc 5 (by decide), hc 6 (by decide), hc 7 (by decide)⟩, ?_⟩
  refine (Sep.nil (Mod.refl [] w)).new fun b w1 s1 m1 hb => ?_
  refine s1.st0 0 rfl rfl fun w2 s2 m2 => ?_
  rw [drK_eq]
  have s3 := s2.mod0 ((Mod.refl [] w2).drew)
  generalize w2.drew = w3 at s3 ⊢
  have m3 := s3.mod
  have hp3 := m3.get g1 (by simp)
  have g23 := g2.keep (m3.at0 g2.lt)
  obtain ⟨W, hWe⟩ : ∃ W, W = without s.L e sl := ⟨_, rfl⟩
  have hWs := without_eq hw.key hj ⟨hge, hgs⟩
  rw [← hWe] at hWs
  have hWl : W.length = l - 1 := by rw [hWs]; simp; omega
  refine ⟨[p], by simp, some ad, l, c, by rw [cell_get hp3]; rfl, ?_⟩
  refine slK_rd g23.rd g23.le (L := 0) (H := j) (.inr ⟨rfl, rfl⟩) (.inl rfl) (by omega) (by omega) fun a5 G5 hr5 hG5 => ?_
  rw [Nat.zero_mul, List.drop_zero, Nat.sub_zero, rows_take cec_8] at hr5
  refine ⟨by simp, some ad, l, c, by rw [cell_get hp3]; rfl, ?_⟩
  rw [w64 (by omega) (by omega)]
  refine slK_rd g23.rd g23.le (L := j + 1) (H := l) (.inl (by simp)) (.inr ⟨rfl, rfl⟩) (by omega) (by omega) fun a6 G6 hr6 hG6 => ?_
  rw [rows_drop cec_8, rows_take cec_8] at hr6
  have et : (s.L.drop (j + 1)).take (l - (j + 1)) = s.L.drop (j + 1) := List.take_of_length_le (by simp; omega)
  rw [et] at hr6
  have kp3 : ∀ {u : World}, Mod [] w3 u → keepB [p] w3 u := fun hm => keepB1 (hm.keep p (lt_of_get hp3) (by simp))
  refine push_rd_K (w0 := w3) slT_janusref08_C (by decide) (SlB.nil w3 8) (by simp [Beyond]) (Mod.refl _ _) hr5 (rows_cell cec_cell _) (by omega) (by omega) fun A4 C4 w4 G4 hs4 hG4 m4 m34 _ => ⟨_, _, _, rfl, kp3 m4, ?_⟩
  rw [List.nil_append] at hs4
  refine push_rd_K (w0 := w3) slT_janusref08_C (by decide) hs4 hG4 m4 (hr6.mod0 m4) (rows_cell cec_cell _) (by omega) (by omega) fun A C w5 G7 hs5 hG5' m5 _ _ => ⟨_, _, _, rfl, ?_⟩
  rw [← rows_app, ← hWs] at hs5
  have hlW := hs5.count cec_8 (by decide)
  obtain ⟨N, hN⟩ : ∃ N, N = 0 + j + (l - (j + 1)) := ⟨_, rfl⟩
  rw [← hN] at hs5 hlW ⊢
  have hp5 := m5.get hp3 (by simp)
  have hsz3 := m3.size
  have hpG : p ∉ G7 := fun hh => by have := hG5' p hh; omega
  have hb3 : w3.heap[b]? = some _ := s3.nth 0 rfl
  have hblt := lt_of_get hb3
  have hbG : b ∉ G7 := fun hh => by have := hG5' b hh; omega
  have hb5 := m5.get hb3 (by simp)
  have hpb : p ≠ b := by omega
  refine stK_of hp5 (by simp) ?_
  have k1 : (w5.upd p (.cells (splice #[.slice (some ad) l c, .int .i64 s.last] 0 [.slice A N C]) T (0, 0))).heap[p]? = some (.cells #[.slice A N C, .int .i64 s.last] T (0, 0)) := by rw [upd_same hp5]; rfl
  have k2 : (w5.upd p (.cells (splice #[.slice (some ad) l c, .int .i64 s.last] 0 [.slice A N C]) T (0, 0))).heap[b]? = some _ := (upd_ne _ hpb).trans hb5
  have k3 : SlB (w5.upd p (.cells (splice #[.slice (some ad) l c, .int .i64 s.last] 0 [.slice A N C]) T (0, 0))) A N C 8 (rows cec W) G7 := hs5.keep fun z hz => upd_ne _ (by rintro rfl; exact hpG hz)
  have m6 : Mod [p, ad.block] w (w5.upd p (.cells (splice #[.slice (some ad) l c, .int .i64 s.last] 0 [.slice A N C]) T (0, 0))) := (m3.trans' m5).of0.upd (.inl (by simp)) _
  have hsz5 := m5.size
  have hw6s : (w5.upd p (.cells (splice #[.slice (some ad) l c, .int .i64 s.last] 0 [.slice A N C]) T (0, 0))).heap.size = w5.heap.size := upd_size _ _ _
  generalize w5.upd p _ = w6 at k1 k2 k3 m6 hw6s ⊢
  have k3 : SlB w6 A N C 8 (rows cec (repTo g W 0)) G7 := by rw [repTo_0]; exact k3
  refine ⟨fun n last k w' => ∃ i : Nat, k = i ∧ i ≤ N ∧ n = N - i ∧ last = ((W.take i).all fun c => !meet8 c.x g.x) ∧ SlB w' A N C 8 (rows cec (repTo g W i)) G7 ∧ Mod G7 w6 w', ⟨N, 0, rfl, by omega, rfl, rfl, k3, Mod.refl _ _⟩, ?_⟩
  rintro n last k - w7 ⟨i, rfl, hi, rfl, rfl, hs7, hm7⟩
  have hp7 := hm7.get k1 hpG
  refine ⟨A, N, C, by rw [cell_get hp7]; rfl, ?_⟩
  rw [spl_decide]
  refine ⟨fun hlt => ?_, fun hge => ?_⟩
  · have hiW : i < W.length := by omega
    obtain ⟨x, hx⟩ : ∃ x, W[i]? = some x := ⟨_, List.getElem?_eq_getElem hiW⟩
    have hxe : W[i] = x := by rw [List.getElem?_eq_getElem hiW] at hx; exact Option.some.inj hx
    have eall : ((W.take (i + 1)).all fun c => !meet8 c.x g.x) = (((W.take i).all fun c => !meet8 c.x g.x) && !meet8 x.x g.x) := by
      rw [List.take_add_one, hx, List.all_append]; simp
    refine ⟨fun last w' => last = ((W.take (i + 1)).all fun c => !meet8 c.x g.x) ∧ SlB w' A N C 8 (rows cec (repTo g W (i + 1))) G7 ∧ Mod G7 w6 w', ?_, fun w' => SlB w' A N C 8 (rows cec (repTo g W (i + 1))) G7 ∧ Mod G7 w6 w', ?_, ?_⟩
    · rintro last - w' ⟨z1, z2, z3⟩
      exact ⟨N - (i + 1), by omega, i + 1, by rw [w64 (by omega) (by omega)]; omega, by omega, rfl, z1, z2, z3⟩
    · rintro - w8 ⟨hs8, hm8⟩
      have hp8 := hm8.get k1 hpG
      have hb8 := hm8.get k2 hbG
      have hs8r := hs8.rd
      obtain ⟨ad8, y, rfl, hy, -, -, hc8⟩ := hs8r.rowc cec_8 (by decide) (i := i) (by omega)
      have hyx : y.x = x.x := by
        rw [repTo_succ g W hiW, List.getElem?_set, if_pos rfl, if_pos (by rw [repTo_len]; exact hiW), hxe] at hy
        rw [← Option.some.inj hy]
        exact (reparent_same g x).2.2.2
      refine ⟨some ad8, N, C, by rw [cell_get hp8]; rfl, ?_⟩
      rw [nilK_some]
      refine ⟨⟨by omega, by omega⟩, x.x.k, x.x.i, x.x.n, x.x.r, ⟨by rw [← hyx]; exact hc8 4 (by decide), by rw [← hyx]; exact hc8 5 (by decide), by rw [← hyx]; exact hc8 6 (by decide), by rw [← hyx]; exact hc8 7 (by decide)⟩, ?_⟩
      refine (Sep.nil (Mod.refl [] w8)).new fun bx w9 s9 m9 hbx => ?_
      refine s9.st0 0 rfl rfl fun w10 s10 m10 => ?_
      have hb10 := s10.mod.get hb8 (by simp)
      have d4 : w10.cell? ⟨b, 4, none⟩ = some (.int .i64 g.x.k) := by rw [cell_get hb10]; rfl
      have d5 : w10.cell? ⟨b, 5, none⟩ = some (.int .i64 g.x.i) := by rw [cell_get hb10]; rfl
      have d6 : w10.cell? ⟨b, 6, none⟩ = some (.int .i64 g.x.n) := by rw [cell_get hb10]; rfl
      have e0 : w10.cell? ⟨bx, 0, none⟩ = some (.int .i64 x.x.k) := s10.cell 0 rfl rfl
      have e1 : w10.cell? ⟨bx, 1, none⟩ = some (.int .i64 x.x.i) := s10.cell 0 rfl rfl
      have e2 : w10.cell? ⟨bx, 2, none⟩ = some (.int .i64 x.x.n) := s10.cell 0 rfl rfl
      have hxm : x ∈ s.L := by
        have := List.mem_of_getElem? hx
        rw [hWe] at this
        exact (mem_without.1 this).1
      have mx := (hw.in_ x hxm).2.2.2.1
      have mg := (hw.in_ g hm).2.2.2.1
      unfold May8 at mx mg
      have hsl : SlB w10 (some ad8) N C 8 (rows cec (repTo g W (i + 1))) G7 := hs8.keep (s10.mod.at0 hs8.lt)
      have hml : Mod G7 w6 w10 := hm8.trans' s10.mod.of0
      have mt : meet8 x.x g.x = true ↔ x.x.k = g.x.k ∧ g.x.i < x.x.i + x.x.n ∧ x.x.i < g.x.i + g.x.n := by
        simp [meet8, and_assoc]
      have jf : meet8 x.x g.x = true → (false = ((W.take (i + 1)).all fun c => !meet8 c.x g.x) ∧ SlB w10 (some ad8) N C 8 (rows cec (repTo g W (i + 1))) G7 ∧ Mod G7 w6 w10) := fun h => ⟨by rw [eall, h]; simp, hsl, hml⟩
      have jl : ¬ meet8 x.x g.x = true → (((W.take i).all fun c => !meet8 c.x g.x) = ((W.take (i + 1)).all fun c => !meet8 c.x g.x) ∧ SlB w10 (some ad8) N C 8 (rows cec (repTo g W (i + 1))) G7 ∧ Mod G7 w6 w10) := fun h => ⟨by rw [eall, show meet8 x.x g.x = false by simpa using h]; simp, hsl, hml⟩
      rw [mt] at jf jl
      refine ⟨_, e0, _, d4, ?_⟩
      rw [spl_beq]
      refine ⟨fun hk => ⟨_, e1, _, d5, _, d6, ?_⟩, fun hk => jl fun z => hk z.1⟩
      rw [spl_decide, w64 (by omega) (by omega)]
      refine ⟨fun h1 => ⟨_, d5, _, e1, _, e2, ?_⟩, fun h1 => jl fun z => h1 z.2.2⟩
      rw [spl_decide, w64 (by omega) (by omega)]
      exact ⟨fun h2 => jf ⟨hk, h2, h1⟩, fun h2 => jl fun z => h2 z.2.1⟩
    · rw [drK_eq]
      have hs8 : SlB w7.drew A N C 8 (rows cec (repTo g W i)) G7 := hs7
      have hm8 := hm7.drew
      have hp8 := hm8.get k1 hpG
      have hb8 := hm8.get k2 hbG
      generalize w7.drew = w8 at hs8 hm8 hp8 hb8 ⊢
      obtain ⟨ad8, y, rfl, hy, -, -, hc8⟩ := hs8.rd.rowc cec_8 (by decide) (i := i) (by omega)
      rw [repTo_get, hx] at hy
      obtain rfl := Option.some.inj hy
      refine ⟨some ad8, N, C, by rw [cell_get hp8]; rfl, ?_⟩
      rw [nilK_some]
      refine ⟨⟨by omega, by omega⟩, x.of_, hc8 1 (by decide), g.no, by rw [cell_get hb8]; rfl, ?_⟩
      rw [spl_beq]
      refine ⟨fun heq => ?_, fun hne => ⟨by rw [repTo_same g W hiW (by rw [hxe]; exact hne)]; exact hs8, hm8⟩⟩
      rw [drK_eq]
      have hs9 : SlB w8.drew (some ad8) N C 8 (rows cec (repTo g W i)) G7 := hs8
      have hm9 := hm8.drew
      have hp9 := hm9.get k1 hpG
      have hb9 := hm9.get k2 hbG
      generalize w8.drew = w9 at hs9 hm9 hp9 hb9 ⊢
      refine ⟨some ad8, N, C, by rw [cell_get hp9]; rfl, g.of_, by rw [cell_get hb9]; rfl, ?_⟩
      obtain ⟨bb, o, hbo, hG7⟩ := hs9.isNone (by omega)
      cases hbo
      subst hG7
      obtain ⟨arr, T', hbk, hcap, -⟩ := hs9.block
      have hle := hs9.le
      rw [nilK_some, addr_add]
      refine ⟨⟨by omega, by omega⟩, ?_⟩
      refine stK_of hbk (by simp; omega) ?_
      simp only [splice_cons, splice_nil]
      have hset := hs9.set hbk (j := i * 8 + 1) (by rw [rows_len cec_8, repTo_len]; omega) (.int .i64 g.of_)
      have hri : (repTo g W i)[i]'(by rw [repTo_len]; exact hiW) = x := by
        have := repTo_get g W i
        rw [List.getElem?_eq_getElem (by rw [repTo_len]; exact hiW), hx] at this
        exact Option.some.inj this
      rw [rows_set1 cec_8 (by rw [repTo_len]; exact hiW) (x := reparent g x) (by decide) (by rw [hri]; unfold reparent; rw [if_pos heq]; rfl)] at hset
      refine ⟨?_, hm9.upd (.inl (by simp)) _⟩
      rw [repTo_succ g W hiW, hxe]
      exact hset
  · have hiN : i = W.length := by omega
    rw [hiN, repTo_all] at hs7
    rw [hiN, List.take_length]
    have hS : dropS8 s e sl = ⟨W.map (reparent g), s.last⟩ := by unfold dropS8; rw [hlk, hWe]
    have hV : dropV8 s e sl = (W.all fun c => !meet8 c.x g.x, 0) := by unfold dropV8; rw [hlk, hWe]
    rw [hS] at hK hWd
    rw [hV] at hK
    refine hK w7 (p :: G7) ⟨hWd, A, N, C, G7, T, hp7, hs7, hpG, rfl⟩ (m6.trans hm7 fun z hz hlt => ?_) (fun z hz => ?_)
    · have := hG5' z hz; omega
    · rcases List.mem_cons.1 hz with rfl | hz
      · exact .inl (by simp)
      · have := hG5' z hz; exact .inr (by omega)

end Go.Proofs
