/-
  Layer 18: the reference's Decode.
-/
import Derived.Test.YtmpaiobapmpngaaR18A
import Derived.Test.YtmpaiobapmpngaaUtA
set_option linter.unusedVariables false
set_option linter.unusedSimpArgs false
namespace Go.Proofs
open Go Go.Den

/-- The places read so far. -/
def tk (ws : List Int) (k : Nat) : Tb := (List.range 48).map fun j => if j < k then dK ws j else none
theorem tk_len (ws : List Int) (k : Nat) : (tk ws k).length = 48 := by simp [tk]
theorem tk_get (ws : List Int) (k : Nat) {j : Nat} (hj : j < 48) : (tk ws k)[j]? = some (if j < k then dK ws j else none) := by simp [tk, hj]
theorem tk_zero (ws : List Int) (q : Nat) : plc (tk ws 0) q = [] := by
  apply plc_nil
  intro h
  obtain ⟨k, hk⟩ := mem_dd'.1 h
  have hlt : k < 48 := by have := (List.getElem?_eq_some_iff.1 hk).1; rwa [tk_len] at this
  rw [tk_get _ _ hlt, if_neg (by omega)] at hk
  cases hk
theorem tk_at (ws : List Int) {k : Nat} (hk : k < 48) : (tk ws k)[k]? = some none := by rw [tk_get _ _ hk, if_neg (by omega)]
theorem tk_succ (ws : List Int) {k : Nat} (hk : k < 48) : tk ws (k + 1) = (tk ws k).set k (dK ws k) := by
  apply List.ext_getElem?
  intro j
  rw [set_get (by rw [tk_len]; exact hk)]
  by_cases hj : j < 48
  · rw [tk_get _ _ hj, tk_get _ _ hj]
    by_cases h1 : k = j
    · subst h1; rw [if_pos rfl, if_pos (by omega)]
    · rw [if_neg h1]
      by_cases h2 : j < k
      · rw [if_pos (by omega), if_pos h2]
      · rw [if_neg (by omega), if_neg h2]
  · rw [if_neg (by omega), List.getElem?_eq_none (by rw [tk_len]; omega), List.getElem?_eq_none (by rw [tk_len]; omega)]
theorem tk_48 (ws : List Int) : tk ws 48 = dT ws := by
  apply List.ext_getElem?
  intro j
  by_cases hj : j < 48
  · rw [tk_get _ _ hj, if_pos hj, dT_get ws hj]
  · rw [List.getElem?_eq_none (by rw [tk_len]; omega), List.getElem?_eq_none (by rw [dT_len]; omega)]
theorem tk_plc_lt {ws : List Int} {k q x : Nat} (h : x ∈ plc (tk ws k) q) : x < k := by
  have h1 := mem_plc.1 h
  have hlt := plc_lt h
  rw [tk_len] at hlt
  rw [tk_get _ _ hlt] at h1
  split at h1
  · assumption
  · cases h1
theorem tk_none {ws : List Int} {k : Nat} (hk : k < 48) (h : dK ws k = none) : tk ws (k + 1) = tk ws k := by
  rw [tk_succ ws hk, h]
  apply List.ext_getElem?
  intro j
  rw [set_get (by rw [tk_len]; exact hk)]
  by_cases h1 : k = j
  · subst h1; rw [if_pos rfl, tk_at ws hk]
  · rw [if_neg h1]
theorem tk_some {ws : List Int} {k i : Nat} (hk : k < 48) (h : dK ws k = some i) (q : Nat) : plc (tk ws (k + 1)) q = if q = i then plc (tk ws k) q ++ [k] else plc (tk ws k) q := by
  rw [tk_succ ws hk, h]
  by_cases hq : q = i
  · subst hq
    rw [if_pos rfl, plc_set_q (tk_at ws hk) (Nat.le_refl _) (fun i x hi hx => tk_plc_lt (List.mem_of_getElem? hx)) (fun x hx => by have := (List.getElem?_eq_some_iff.1 hx).1; omega), List.take_length, List.drop_length]
  · rw [if_neg hq, plc_set_ne (tk_at ws hk) hq]

theorem u64s_at {ws : List Int} {L H j : Nat} (h1 : j < H - L) (h2 : L + j < ws.length) : (((u64s ws).drop (L * 1)).take ((H - L) * 1))[j]? = some (.int .u64 (wAt ws (L + j))) := by
  rw [Nat.mul_one, Nat.mul_one, List.getElem?_take, if_pos h1, List.getElem?_drop, u64s_get, wAt, List.getElem?_eq_getElem h2]
  rfl

theorem map_set_range {α : Type} {N i : Nat} (hi : i < N) {g g' : Nat → α} (h : ∀ y, y ≠ i → g' y = g y) : ((List.range N).map g).set i (g' i) = (List.range N).map g' := by
  apply List.ext_getElem?
  intro j
  rw [List.getElem?_set, List.getElem?_map, List.getElem?_map]
  by_cases hij : i = j
  · subst hij
    rw [if_pos rfl, if_pos (by simpa using hi)]
    simp [hi]
  · rw [if_neg hij]
    by_cases hj : j < N
    · simp [hj, h j (Ne.symm hij)]
    · simp [hj]

/-- What is built: a row of files, each with a row of its own of descriptors. -/
structure DecR (w0 w : World) (r N : Nat) (A : Option Addr) (C : Nat) (g : Nat → E18 × Hd) (R : List Nat) (gs : Nat → List Nat) : Prop where
  m : Mod [] w0 w
  hd : ∃ T, w.heap[r]? = some (.cells #[.slice A N C] T (0, 0))
  row : SlB w A N C 6 (rows e6 ((List.range N).map g)) R
  d : ∀ i, i < N → SlB w (g i).2.1 (g i).1.d.length (g i).2.2 2 (rows pr2 (g i).1.d) (gs i)
  br : w0.heap.size ≤ r
  bR : Beyond w0.heap.size R
  bg : ∀ i, i < N → Beyond w0.heap.size (gs i)
  rR : r ∉ R
  rg : ∀ i, i < N → r ∉ gs i
  Rg : ∀ i, i < N → ∀ b ∈ R, b ∉ gs i
  gg : ∀ i j, i < N → j < N → i ≠ j → ∀ b ∈ gs i, b ∉ gs j

section
variable {w0 w w' : World} {r N : Nat} {A : Option Addr} {C : Nat} {g : Nat → E18 × Hd} {R : List Nat} {gs : Nat → List Nat}

theorem DecR.mod (h : DecR w0 w r N A C g R gs) (hm : Mod [] w w') : DecR w0 w' r N A C g R gs := by
  obtain ⟨h1, ⟨T, h2⟩, h3, h4, h5, h6, h7, h8, h9, h10, h11⟩ := h
  exact ⟨h1.trans' hm, ⟨T, hm.get h2 (by simp)⟩, h3.keep (hm.at0 h3.lt), fun i hi => (h4 i hi).keep (hm.at0 (h4 i hi).lt), h5, h6, h7, h8, h9, h10, h11⟩

theorem DecR.push (h : DecR w0 w r N A C g R gs) {i k : Nat} (hi : i < N) {w1 : World} {A' : Option Addr} {C' : Nat} {G' : List Nat} {ad : Addr} (hA : A = some ad)
    (hs : SlB w1 A' ((g i).1.d.length + 1) C' 2 (rows pr2 ((g i).1.d ++ [k])) G') (hm : Mod (gs i) w w1) (ho : Den.Own w (gs i) G') {K : World → Prop}
    (hK : ∀ w2 gs', DecR w0 w2 r N A C (fun y => if y = i then (⟨(g i).1.x, (g i).1.r, (g i).1.d ++ [k]⟩, (A', C')) else g y) R gs' → K w2) : stK (Addr.add (Addr.add ad (i * 6)) 5) [.slice A' ((g i).1.d.length + 1) C'] w1 K := by
  obtain ⟨m, ⟨T, hr⟩, hrow, hd, hbr, hbR, hbg, hrR, hrg, hRg, hgg⟩ := h
  subst hA
  obtain ⟨b, o, e, hRb⟩ := hrow.isNone (by omega)
  cases e
  subst hRb
  have hrow1 : SlB w1 (some ⟨b, o, none⟩) N C 6 (rows e6 ((List.range N).map g)) [b] := hrow.mod hm (hRg i hi)
  obtain ⟨arr, T2, hb2, hcap, -⟩ := hrow1.block
  have hsl := hrow1.length
  have hle := hrow1.le
  simp only [addr_add]
  have hjm : i * 6 + 5 < N * 6 := by
    have : (i + 1) * 6 ≤ N * 6 := Nat.mul_le_mul_right _ (by omega)
    omega
  have hLC : N * 6 ≤ C * 6 := Nat.mul_le_mul_right _ hle
  refine stK_of hb2 (by simp; omega) ?_
  simp only [splice_cons, splice_nil]
  have hset := hrow1.set hb2 (j := i * 6 + 5) (by omega) (.slice A' ((g i).1.d.length + 1) C')
  rw [← Nat.add_assoc] at hset
  obtain ⟨g', hg'⟩ : ∃ g' : Nat → E18 × Hd, g' = fun y => if y = i then (⟨(g i).1.x, (g i).1.r, (g i).1.d ++ [k]⟩, (A', C')) else g y := ⟨_, rfl⟩
  have hg'i : g' i = (⟨(g i).1.x, (g i).1.r, (g i).1.d ++ [k]⟩, (A', C')) := by rw [hg']; exact if_pos rfl
  have hg'n : ∀ y, y ≠ i → g' y = g y := fun y hy => by rw [hg']; exact if_neg hy
  rw [← hg'] at hK
  have hLi : ((List.range N).map g)[i]? = some (g i) := by simp [hi]
  have eset : (rows e6 ((List.range N).map g)).set (i * 6 + 5) (.slice A' ((g i).1.d.length + 1) C') = rows e6 ((List.range N).map g') := by
    rw [rows_set1 e6_len (x' := g' i) hLi (by decide) (by rw [hg'i]; simp only [e6, List.length_append, List.length_singleton]; rfl)]
    rw [map_set_range hi hg'n]
  rw [eset] at hset
  obtain ⟨w2, hw2⟩ : ∃ w2, w2 = w1.upd b (.cells (arr.setIfInBounds (o + i * 6 + 5) (.slice A' ((g i).1.d.length + 1) C')) T2 (0, 0)) := ⟨_, rfl⟩
  rw [← hw2] at hset ⊢
  have mb : Mod [b] w1 w2 := by rw [hw2]; exact (Mod.refl _ _).upd (.inl (by simp)) _
  have hblt : b < w.heap.size := hrow.lt b (by simp)
  have hrlt : r < w.heap.size := lt_of_get hr
  have hG' : ∀ x ∈ G', x ∈ gs i ∨ w.heap.size ≤ x := ho
  have hbG' : b ∉ G' := fun hx => by
    rcases hG' b hx with h | h
    · exact hRg i hi b (by simp) h
    · omega
  have hrb : r ≠ b := fun e => hrR (by simp [e])
  refine hK w2 (fun y => if y = i then G' else gs y) ⟨?_, ⟨T, ?_⟩, hset, fun y hy => ?_, hbr, hbR, fun y hy => ?_, hrR, fun y hy => ?_, fun y hy x hx => ?_, fun y z hy hz hyz x hx => ?_⟩
  · exact (m.trans hm fun x hx hlt => absurd (hbg i hi x hx) (by omega)).trans mb fun x hx hlt => absurd (hbR x hx) (by omega)
  · have h1 : w1.heap[r]? = _ := (hm.keep r hrlt (hrg i hi)).trans hr
    exact (mb.keep r (lt_of_get h1) (by simpa using hrb)).trans h1
  · by_cases hyi : y = i
    · subst hyi
      simp only [if_true]
      rw [hg'i]
      simp only [List.length_append, List.length_singleton]
      exact hs.keep (mb.at hs.lt fun x hx hxb => by simp only [List.mem_singleton] at hxb; subst hxb; exact hbG' hx)
    · rw [hg'n y hyi]
      simp only [if_neg hyi]
      have h1 := (hd y hy).mod hm (hgg y i hy hi hyi)
      exact h1.keep (mb.at h1.lt fun x hx hxb => by simp only [List.mem_singleton] at hxb; subst hxb; exact hRg y hy x (by simp) hx)
  · intro x hx
    by_cases hyi : y = i
    · simp only [if_pos hyi] at hx
      rcases hG' x hx with h | h
      · exact hbg i hi x h
      · exact Nat.le_trans m.size h
    · simp only [if_neg hyi] at hx
      exact hbg y hy x hx
  · by_cases hyi : y = i
    · simp only [if_pos hyi]
      intro hx
      rcases hG' r hx with h | h
      · exact hrg i hi h
      · omega
    · simp only [if_neg hyi]
      exact hrg y hy
  · by_cases hyi : y = i
    · simp only [if_pos hyi]
      simp only [List.mem_singleton] at hx
      subst hx
      exact hbG'
    · simp only [if_neg hyi]
      exact hRg y hy x hx
  · by_cases hyi : y = i
    · subst hyi
      simp only [if_true] at hx
      simp only [if_neg (Ne.symm hyz)]
      intro hxz
      rcases hG' x hx with h | h
      · exact hgg y z hy hz hyz x h hxz
      · have := (hd z hz).lt x hxz; omega
    · simp only [if_neg hyi] at hx
      by_cases hzi : z = i
      · subst hzi
        simp only [if_true]
        intro hxz
        rcases hG' x hxz with h | h
        · exact hgg y z hy hz hyz x hx h
        · have := (hd y hy).lt x hx; omega
      · simp only [if_neg hzi]
        exact hgg y z hy hz hyz x hx

theorem DecR.raw (h : DecR w0 w r N A C g R gs) (hd : ∀ i, i < N → (g i).1.d.length ≤ 48 ∧ ∀ k ∈ (g i).1.d, k < 48) : RawP w r ((List.range N).map g) R ((List.range N).flatMap gs) := by
  obtain ⟨m, ⟨T, hr⟩, hrow, hdd, hbr, hbR, hbg, hrR, hrg, hRg, hgg⟩ := h
  have hmem : ∀ b, b ∈ (List.range N).flatMap gs → ∃ i, i < N ∧ b ∈ gs i := fun b hb => by
    obtain ⟨i, hi, hb⟩ := List.mem_flatMap.1 hb
    exact ⟨i, List.mem_range.1 hi, hb⟩
  refine ⟨⟨T, A, C, by rw [List.length_map, List.length_range]; exact hr, by rw [List.length_map, List.length_range]; exact hrow⟩, fun x hx => ?_, fun b hb hbD => ?_, fun b hb => ?_, hrR, fun hb => ?_⟩
  · obtain ⟨i, hi, rfl⟩ := List.mem_map.1 hx
    have hi := List.mem_range.1 hi
    have h1 := hdd i hi
    exact ⟨h1.le, (hd i hi).1, (hd i hi).2, gs i, h1.rd, fun b hb => List.mem_flatMap.2 ⟨i, List.mem_range.2 hi, hb⟩⟩
  · obtain ⟨i, hi, h1⟩ := hmem b hbD
    exact hRg i hi b hb h1
  · obtain ⟨i, hi, h1⟩ := hmem b hb
    exact (hdd i hi).lt b h1
  · obtain ⟨i, hi, h1⟩ := hmem r hb
    exact hrg i hi h1
end

theorem rdec_run {w : World} {a : Option Addr} {l c : Nat} {ws : List Int} {F : List Nat} (hin : Rd w a l 1 (u64s ws) F) (hlc : l ≤ c) (h64 : ∀ i, 0 ≤ wAt ws i ∧ wAt ws i < 18446744073709551616) {K : Value → World → Prop}
    (hbad : ∀ w', ¬ decOK ws → Mod [] w w' → K (.tuple #[.pointer none, .int .i64 101]) w')
    (hok : ∀ w' p, decOK ws → Mod [] w w' → K (.tuple #[.pointer (some ⟨p, 0, none⟩), .int .i64 0]) w') : CallsR Try.prog F_janusref18_Decode #[.slice a l c] w K := by
  have hwl := hin.u64
  apply R_janusref18_Decode_ok
  simp only [R_janusref18_Decode, spl_decide, spl_bne]
  refine ⟨fun hl => hbad w (fun h => by have := h.1.1; omega) (Mod.refl _ _), fun hl => ?_⟩
  obtain ⟨ad, e1, hcell0, hadb⟩ := u64s_wf hin (k := 0) (by omega)
  subst e1
  rw [add_zero] at hcell0
  simp only [nilK_some]
  refine ⟨⟨by omega, by omega⟩, _, hcell0, fun hbig => hbad w (fun h => by have := h.1.2.1; omega) (Mod.refl _ _), fun h32 => ⟨⟨by omega, by omega⟩, _, hcell0, ?_⟩⟩
  obtain ⟨h00, h01⟩ := h64 0
  obtain ⟨N, hN⟩ : ∃ N : Nat, wAt ws 0 = N := ⟨(wAt ws 0).toNat, by omega⟩
  have hdN : dN ws = N := by unfold dN; omega
  rw [hN] at h32 hcell0 ⊢
  rw [w64 (n := (N : Int)) (by omega) (by omega), w64 (n := 4 * (N : Int)) (by omega) (by omega), w64 (n := 1 + 4 * (N : Int)) (by omega) (by omega), w64 (by omega) (by omega)]
  refine ⟨fun hne => hbad w (fun h => by have := h.1.2.2; omega) (Mod.refl _ _), fun heq => ?_⟩
  have hl : l = 1 + 4 * N + 48 := by omega
  refine (Den.Sep.nil (Den.Mod.refl [] w)).new fun b8 w1 s1 m1 hb8 => ?_
  have hc1 : w1.cell? ad = some (.int .u64 (N : Int)) := by rw [m1.cell hadb]; exact hcell0
  refine ⟨⟨by omega, by omega⟩, _, hc1, ?_⟩
  rw [w64 (n := (N : Int)) (by omega) (by omega)]
  obtain ⟨gI, hgI⟩ : ∃ gI : Nat → E18 × Hd, ∀ i, gI i = (⟨dF ws i, 0, []⟩, (none, 0)) := ⟨_, fun _ => rfl⟩
  refine ⟨fun m i w' => ∃ (k : Nat) (A : Option Addr) (C : Nat) (G : List Nat), i = k ∧ k ≤ N ∧ m = N - k ∧ (∀ j, j < k → okFile ws j) ∧ Den.Sep w w' [sl A k C 6 (rows e6 ((List.range k).map gI)) G, blk b8 (.cells #[.slice A k C] 55 (0, 0))],
    ⟨N, 0, none, 0, [], rfl, by omega, by omega, fun j hj => by omega, s1.push (sl none 0 0 6 _ []) (Mod.refl [] w1) (by show SlB _ _ _ _ _ _ _; simpa using SlB.nil w1 6) (by intro x hx; cases hx)⟩, ?_⟩
  clear hc1 hcell0 s1 m1
  rintro m i - w2 ⟨k, A, C, G, rfl, hk, rfl, hfile, s2⟩
  refine ⟨fun hlt => ?_, fun hge => ?_⟩
  · have hkN : k < N := by omega
    rw [w64 (n := 4 * (k : Int)) (by omega) (by omega), w64 (n := 1 + 4 * (k : Int)) (by omega) (by omega), w64 (n := 5 + 4 * (k : Int)) (by omega) (by omega)]
    refine slK_rd (hin.keep (s2.mod.at0 hin.lt)) hlc (L := 1 + 4 * k) (H := 5 + 4 * k) (.inl (by congr 1 <;> omega)) (.inl (by congr 1 <;> omega)) (by omega) (by omega) fun a3 G3 hr3 hG3 => ?_
    have e4 : 5 + 4 * k - (1 + 4 * k) = 4 := by omega
    obtain ⟨ad3, e3, -, -, hc3⟩ := hr3.at (by omega)
    subst e3
    have cell : ∀ j, j < 4 → w2.cell? (Addr.add ad3 j) = some (.int .u64 (wAt ws (1 + 4 * k + j))) := fun j hj => by
      rw [hc3 j ?_, u64s_at (by omega) (by omega)]
      rw [List.length_take, List.length_drop, u64s_length]
      omega
    have x0 := cell 0 (by omega)
    have x1 := cell 1 (by omega)
    have x2 := cell 2 (by omega)
    have x3 := cell 3 (by omega)
    rw [add_zero, Nat.add_zero] at x0
    rw [show 1 + 4 * k + 1 = 2 + 4 * k by omega] at x1
    rw [show 1 + 4 * k + 2 = 3 + 4 * k by omega] at x2
    rw [show 1 + 4 * k + 3 = 4 + 4 * k by omega] at x3
    clear cell
    have bad : ¬ okFile ws k → K (.tuple #[.pointer none, .int .i64 101]) w2 := fun h => hbad w2 (fun h' => h (h'.2.1 k (by omega))) s2.mod
    simp only [nilK_some]
    refine ⟨⟨by omega, by omega⟩, _, x0, fun h => bad fun h' => by have := h'.1; omega, fun y0 => ⟨⟨by omega, by omega⟩, _, x0, fun h => bad fun h' => by have := h'.2.1; omega, fun y1 => ⟨⟨by omega, by omega⟩, _, x1, fun h => bad fun h' => by have := h'.2.2.1; omega, fun y2 => ⟨⟨by omega, by omega⟩, _, x2, fun h => bad fun h' => by have := h'.2.2.2.1; omega, fun y3 => ⟨⟨by omega, by omega⟩, _, x3, fun h => bad fun h' => by have := h'.2.2.2.2; omega, fun y4 => ?_⟩⟩⟩⟩⟩
    have hokk : okFile ws k := ⟨by omega, by omega, by omega, by omega, by omega⟩
    have hb3 : ad3.block < w2.heap.size := cell_lt x0
    rw [drK_eq]
    have s3 := s2.mod0 ((Mod.refl [] w2).drew)
    have d0 : w2.drew.cell? ad3 = _ := x0
    have d1 : w2.drew.cell? (Addr.add ad3 1) = _ := x1
    have d2 : w2.drew.cell? (Addr.add ad3 2) = _ := x2
    have d3 : w2.drew.cell? (Addr.add ad3 3) = _ := x3
    have hb3 : ad3.block < w2.drew.heap.size := hb3
    have hadG : ad3.block < w.heap.size := by
      obtain ⟨-, h⟩ := hr3
      have : ad3.block ∈ F := hG3 _ (by
        rcases h with h | ⟨_, h1, h2, -⟩
        · omega
        · cases h1; rw [h2]; simp)
      exact hin.lt _ this
    generalize w2.drew = w3 at s3 d0 d1 d2 d3 hb3 ⊢
    have hb8lt : b8 < w3.heap.size := lt_of_get (s3.nth 1 rfl : w3.heap[b8]? = some _)
    have hB : ∀ y ∈ [b8, ad3.block], y < w3.heap.size := fun y hy => by
      simp only [List.mem_cons, List.not_mem_nil, or_false] at hy
      rcases hy with rfl | rfl
      · exact hb8lt
      · exact hb3
    refine ⟨[b8, ad3.block], by simp, _, _, _, s3.cell 1 rfl rfl, ⟨by omega, by omega⟩, by simp, _, d0, ⟨by omega, by omega⟩, by simp [add_block], _, d1, ⟨by omega, by omega⟩, by simp [add_block], _, d2, ⟨by omega, by omega⟩, by simp [add_block], _, d3, ?_⟩
    have g0 := h64 (1 + 4 * k)
    have g1 := h64 (2 + 4 * k)
    have g2 := h64 (3 + 4 * k)
    rw [w64 (by omega) (by omega), w64 (by omega) (by omega), w64 (by omega) (by omega), newK_eq]
    refine ⟨((Mod.refl [] w3).alloc _).at0 hB, ?_⟩
    have e5 : (Obj.cells #[Value.int .i64 (wAt ws (1 + 4 * k)), .int .i64 (wAt ws (2 + 4 * k)), .int .i64 (wAt ws (3 + 4 * k)), .bool (wAt ws (4 + 4 * k) == 1), .int .i64 0, .slice none 0 0] 80 (0, 0)) = .cells (e6 (gI k)).toArray 80 (0, 0) := by rw [hgI]; rfl
    rw [e5]
    have hs3 : SlB w3 A k C 6 (rows e6 ((List.range k).map gI)) G := s3.nth 0 rfl
    refine grow_K slT_janusref18_F (by decide) hs3 (us := e6 (gI k)) (n := 1) rfl (e6_cell _) (by omega) (by omega) fun A4 C4 w4 G4 hs4 m4 o4 => ⟨_, _, _, rfl, ?_⟩
    have s4 := s3.step 0 rfl (sl A4 (k + 1) C4 6 (rows e6 ((List.range (k + 1)).map gI)) G4) (by
      show SlB _ _ _ _ _ _ _
      rw [List.range_succ, List.map_append, rows_app]
      simpa [rows_one] using hs4) m4 o4
    refine s4.st0 1 rfl rfl fun w5 s5 m5 => ⟨N - (k + 1), by omega, k + 1, A4, C4, G4, by rw [w64 (by omega) (by omega)]; omega, by omega, rfl, fun j hj => ?_, s5⟩
    rcases Nat.lt_or_ge j k with h | h
    · exact hfile j h
    · obtain rfl : j = k := by omega
      exact hokk
  obtain rfl : k = N := by omega
  rw [w64 (n := 4 * (k : Int)) (by omega) (by omega), w64 (n := 1 + 4 * (k : Int)) (by omega) (by omega)]
  refine slK_rd hin hlc (L := 1 + 4 * k) (H := l) (.inl (by congr 1 <;> omega)) (.inr ⟨rfl, rfl⟩) (by omega) (Nat.le_refl _) fun a3 G3 hr3 hG3 => ?_
  have e48 : l - (1 + 4 * k) = 48 := by omega
  obtain ⟨ad3, e3, -, hb3, hc3⟩ := hr3.at (by omega)
  subst e3
  have cell : ∀ {w'}, Mod [] w w' → ∀ j, j < 48 → w'.cell? (Addr.add ad3 j) = some (.int .u64 (dD ws j)) := fun {w'} hm j hj => by
    rw [hm.cell (by rw [add_block]; exact hb3), hc3 j ?_, u64s_at (by omega) (by omega)]
    · unfold dD
      rw [hdN]
    · rw [List.length_take, List.length_drop, u64s_length]
      omega
  clear hc3 hr3
  have wk : IntKind.u64.wrap (k : Int) = (k : Int) := wu64 (by omega) (by omega)
  rw [wk]
  have hD0 : ∀ j, 0 ≤ dD ws j := fun j => (h64 _).1
  -- the state ahead of the places
  have q2 : DecR w w2 b8 k A C gI G (fun _ => []) := by
    have hbG := s2.bey 0 rfl
    refine ⟨s2.mod, ⟨55, s2.nth 1 rfl⟩, s2.nth 0 rfl, fun i hi => ?_, s2.bey 1 rfl b8 (by simp [blk]), s2.bey 0 rfl, (fun i hi x hx => by cases hx), fun hm => s2.dj 0 1 (by decide) rfl rfl b8 hm (by simp [blk]), (fun i hi hx => by cases hx), (fun i hi b hb hx => by cases hx), (fun i j hi hj hij b hb => by cases hb)⟩
    rw [hgI]
    exact SlB.nil w2 2
  refine ⟨fun m i w' => ∃ (j : Nat) (g : Nat → E18 × Hd) (R : List Nat) (gs : Nat → List Nat), i = j ∧ j ≤ 48 ∧ m = 48 - j ∧ (∀ y, y < j → dD ws y ≤ (k : Int)) ∧ (∀ y, y < k → (g y).1.x = dF ws y ∧ (g y).1.d = plc (tk ws j) y) ∧ DecR w w' b8 k A C g R gs,
    ⟨48, 0, gI, G, _, rfl, by omega, by omega, fun y hy => by omega, fun y hy => by rw [hgI]; exact ⟨rfl, (tk_zero ws y).symm⟩, q2⟩, ?_⟩
  clear q2 s2
  rintro m i - w3 ⟨j, g, R, gs, rfl, hj, rfl, hle, hg, q3⟩
  simp only [nilK_some]
  rw [e48]
  refine ⟨fun hlt => ?_, fun hge => ?_⟩
  · have hj48 : j < 48 := by omega
    refine ⟨fun w' => ∃ (g : Nat → E18 × Hd) (R : List Nat) (gs : Nat → List Nat), dD ws j ≤ (k : Int) ∧ (∀ y, y < k → (g y).1.x = dF ws y ∧ (g y).1.d = plc (tk ws (j + 1)) y) ∧ DecR w w' b8 k A C g R gs,
      fun _ w' ⟨g, R, gs, h1, h2, h3⟩ => ⟨48 - (j + 1), by omega, j + 1, g, R, gs, by rw [w64 (by omega) (by omega)]; omega, by omega, rfl, fun y hy => ?_, h2, h3⟩, ?_⟩
    · rcases Nat.lt_or_ge y j with h | h
      · exact hle y h
      · obtain rfl : y = j := by omega
        exact h1
    have cj := cell q3.m j hj48
    simp only [Int.toNat_natCast]
    refine ⟨⟨by omega, by omega⟩, _, cj, fun hbig => hbad w3 (fun h => by have := h.2.2.1 j hj48; omega) q3.m, fun hsm => ⟨⟨by omega, by omega⟩, _, cj, fun hpos => ?_, fun hz => ?_⟩⟩
    · refine ⟨⟨by omega, by omega⟩, _, cj, ?_⟩
      obtain ⟨v, hv⟩ : ∃ v : Nat, dD ws j = ((v + 1 : Nat) : Int) := ⟨(dD ws j).toNat - 1, by omega⟩
      have hdk : dK ws j = some v := by
        unfold dK
        rw [if_neg (by omega)]
        congr 1
        omega
      have hvk : v < k := by omega
      have ev : IntKind.i64.wrap (IntKind.i64.wrap (dD ws j) - 1) = (v : Int) := by
        rw [w64 (n := dD ws j) (by omega) (by omega), w64 (by omega) (by omega)]
        omega
      rw [ev, drK_eq]
      have q4 := q3.mod ((Mod.refl [] w3).drew)
      generalize w3.drew = w4 at q4 ⊢
      obtain ⟨T4, hr4⟩ := q4.hd
      have hcr : w4.cell? ⟨b8, 0, none⟩ = some (.slice A k C) := by rw [cell_get hr4]; rfl
      obtain ⟨adr, x, eA, hx, hRr, hadr, hcx⟩ := q4.row.rd.row e6_len (by decide) hvk
      subst eA
      have hx : x = g v := by
        rw [List.getElem?_map, List.getElem?_range hvk] at hx
        exact (Option.some.inj hx).symm
      subst hx
      have hr8 : b8 < w4.heap.size := lt_of_get hr4
      simp only [nilK_some, Int.toNat_natCast]
      have hB : ∀ y ∈ [b8, adr.block], y < w4.heap.size := fun y hy => by
        simp only [List.mem_cons, List.not_mem_nil, or_false] at hy
        rcases hy with rfl | rfl
        · exact hr8
        · exact hadr
      refine ⟨[b8, adr.block], by simp, _, _, _, hcr, by simp, _, _, _, hcr, ⟨by omega, by omega⟩, by simp [add_block], _, _, _, hcx 5 (by omega), by decide, by decide, ?_⟩
      have et : Int.tdiv (j : Int) 6 = ((j / 6 : Nat) : Int) := by rw [Int.tdiv_eq_ediv_of_nonneg (by omega)]; omega
      have em : Int.tmod (j : Int) 6 = ((j % 6 : Nat) : Int) := by rw [Int.tmod_eq_emod_of_nonneg (by omega)]; omega
      rw [et, em, w64 (n := ((j / 6 : Nat) : Int)) (by omega) (by omega), w64 (by omega) (by omega), Int.add_comm, newK_eq]
      refine ⟨((Mod.refl [] w4).alloc _).at0 hB, ?_⟩
      obtain ⟨hgx, hgd⟩ := hg v hvk
      have hdl : (g v).1.d.length ≤ 48 := by rw [hgd]; have := plc_len_le (tk ws j) v; rwa [tk_len] at this
      have hsd := q4.d v hvk
      refine grow_K slT_A2_int (by decide) hsd (us := pr2 j) (n := 1) rfl (pr2_cell j) (by omega) (by omega) fun A5 C5 w5 G5 hs5 m5 o5 => ⟨_, _, _, rfl, m5.at hB fun y hy hyg => ?_, ⟨by omega, by omega⟩, ?_⟩
      · simp only [List.mem_cons, List.not_mem_nil, or_false] at hy
        rcases hy with rfl | rfl
        · exact q4.rg v hvk hyg
        · exact q4.Rg v hvk _ (by rw [hRr]; simp) hyg
      · rw [← rows_one (f := pr2), ← rows_app] at hs5
        refine q4.push hvk rfl hs5 m5 o5 fun w6 gs6 q6 => ⟨_, R, gs6, by omega, fun y hy => ?_, q6⟩
        rw [tk_some hj48 hdk]
        by_cases hyv : y = v
        · subst hyv
          simp only [if_true]
          exact ⟨hgx, by rw [hgd]⟩
        · simp only [if_neg hyv]
          exact hg y hy
    · have hdk : dK ws j = none := by
        unfold dK
        rw [if_pos]
        have := hD0 j
        omega
      refine ⟨g, R, gs, by omega, fun y hy => ?_, q3⟩
      rw [tk_none hj48 hdk]
      exact hg y hy
  · obtain rfl : j = 48 := by omega
    rw [tk_48] at hg
    have hraw := q3.raw fun i hi => by
      rw [(hg i hi).2]
      refine ⟨?_, fun y hy => ?_⟩
      · have := plc_len_le (dT ws) i; rwa [dT_len] at this
      · have := plc_lt hy; rwa [dT_len] at this
    have hchk : ∀ y, y < 48 → dD ws y ≤ dN ws := fun y hy => by rw [hdN]; exact hle y hy
    have q3br := q3.br
    refine rsort_run (t := dT ws) (ob := dF ws) hraw (dT_len ws) (fun q hq => hg q (List.mem_range.1 hq)) List.nodup_range (fun q hq => List.mem_range.2 (by have := dT_key (fun i => (h64 i).1) hchk hq; omega)) (by simp; omega) fun w4 F4 h4 hF4 m4 => ⟨rfl, ?_⟩
    have m4' : Mod [] w w4 := q3.m.trans m4 fun x hx hlt => by simp only [List.mem_singleton] at hx; omega
    refine rencode_run h4 (dT_len ws) fun A5 C5 w5 hw5 => ⟨_, _, _, rfl, ?_⟩
    have m5' := m4'.trans' hw5.mod
    obtain ⟨G5, hs5, -, -⟩ := hw5
    refine words_rd hs5.rd (hin.keep (m5'.at0 hin.lt)) (by rw [enc_len]; have := dd_len (dT ws); rw [dT_len] at this; omega) fun w6 m6 => ⟨_, rfl, ?_⟩
    have m6' := m5'.trans' m6
    rw [spl_decide]
    have hhead : okHead ws := ⟨by omega, by omega, by omega⟩
    exact ⟨fun he => hok w6 b8 ⟨hhead, fun i hi => hfile i (by omega), hchk, he⟩ m6', fun hne => hbad w6 (fun h => hne h.2.2.2) m6'⟩

end Go.Proofs
