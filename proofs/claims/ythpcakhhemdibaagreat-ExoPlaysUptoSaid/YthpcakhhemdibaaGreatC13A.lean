/-
  'Words' of the reference compares two rows.
  exo: the examples; a kernel that is none.
-/
import Derived.Test.YthpcakhhemdibaaGreatDenC
import Derived.Test.YthpcakhhemdibaaGreatRes
import Derived.Test.YthpcakhhemdibaaGreatP13A
set_option linter.unusedVariables false
set_option linter.unusedSimpArgs false
namespace Go.Proofs
open Go Go.Den

theorem words_rd {w : World} {a a2 : Option Addr} {l l2 c c2 : Nat} {xs ys : List Int} {F G : List Nat} (hx : Rd w a l 1 (u64s xs) F) (hy : Rd w a2 l2 1 (u64s ys) G) (hl : l ≤ 9223372036854775807) {K : Value → World → Prop}
    (h : ∀ w', Mod [] w w' → K (.bool (decide (xs = ys))) w') : CallsR Tryz.prog F_janusref01_Words #[.slice a l c, .slice a2 l2 c2] w K := by
  apply R_janusref01_Words_ok
  have e1 := hx.u64
  have e2 := hy.u64
  simp only [R_janusref01_Words, spl_bne, spl_decide, drK_eq]
  refine ⟨fun hne => ?_, fun heq => ?_⟩
  · have : decide (xs = ys) = false := by
      simp only [decide_eq_false_iff_not]
      rintro rfl
      omega
    rw [← this]
    exact h w (Mod.refl _ _)
  · have hll : l = l2 := by omega
    subst hll
    refine ⟨fun m i w1 => ∃ k : Nat, i = k ∧ k ≤ l ∧ m = l - k ∧ xs.take k = ys.take k ∧ Mod [] w w1, ⟨l, 0, by simp, by simp, by simp, by simp, Mod.refl _ _⟩, ?_⟩
    rintro m i - w1 ⟨k, rfl, hk, rfl, ht, hm⟩
    refine ⟨fun hlt => ?_, fun hge => ?_⟩
    · have hkl : k < l := by omega
      obtain ⟨ad, x, rfl, hx1, c1, -, -⟩ := (hx.mod0 hm.drew).u64at hkl
      obtain ⟨ad2, y, rfl, hy1, c2, -, -⟩ := (hy.mod0 hm.drew).u64at hkl
      simp only [nilK_some, Int.toNat_natCast]
      refine ⟨⟨by omega, by omega⟩, _, c1, ⟨by omega, by omega⟩, _, c2, fun hne => ?_, fun heq => ?_⟩
      · have : decide (xs = ys) = false := by
          simp only [decide_eq_false_iff_not]
          rintro rfl
          rw [hx1] at hy1
          exact hne (Option.some.inj hy1)
        rw [← this]
        exact h _ hm.drew
      · refine ⟨l - (k + 1), by omega, k + 1, by rw [w64 (by omega) (by omega)]; omega, by omega, rfl, ?_, hm.drew⟩
        have p1 := (List.getElem?_eq_some_iff.1 hx1).2
        have p2 := (List.getElem?_eq_some_iff.1 hy1).2
        rw [List.take_succ_eq_append_getElem (by omega), List.take_succ_eq_append_getElem (by omega), ht, p1, p2, heq]
    · have hkl : k = l := by omega
      subst hkl
      have : decide (xs = ys) = true := by
        simp only [decide_eq_true_eq]
        rw [List.take_of_length_le (by omega), List.take_of_length_le (by omega)] at ht
        exact ht
      rw [← this]
      exact h _ hm

end Go.Proofs

set_option linter.unusedSimpArgs false
namespace Go.Proofs
open Go Go.Den

def aw0 : S13 := ⟨init9 3, init12 13, [1], fun _ => []⟩
def aw1 : S13 := rawS13 aw0 1 [0]
def aw2 : S13 := rawS13 aw1 1 [10, 1, 3, 9]
theorem awE0 : rawV13 aw0 1 [0] = ([1], 0) := by kernel_rfl
theorem awE1 : rawV13 aw1 1 [10, 1, 3, 9] = ([], 0) := by kernel_rfl
theorem awE2 : rawV13 aw2 1 [9, 1, 3] = ([9], 0) := by kernel_rfl
theorem awE3 : rawV13 aw2 1 [99] = ([], 101) := by kernel_rfl
theorem awE4 : rawV13 aw2 2 [0] = ([], 101) := by kernel_rfl
theorem awS2 : rawS13 aw2 1 [9, 1, 3] = aw2 := by kernel_rfl
theorem awS3 : rawS13 aw2 1 [99] = aw2 := by kernel_rfl
theorem awS4 : rawS13 aw2 2 [0] = aw2 := by kernel_rfl
theorem awL : (sees13 aw2 1).length = 37 := by kernel_rfl
theorem awF : (pageW13 aw2.m.m 0).length = 32 := by kernel_rfl
theorem awB : (look12 aw2.d 12).length = 32 := by kernel_rfl

/-- A raw call, the kernel among parts: its answer is a part. -/
theorem raw_sep {w0 w : World} {k : Nat} {s : S13} {F : List Nat} {l : List Part} (h : Den.Sep w0 w (kxPart k s F :: l)) (env : Int) {cs : List Int} {n : Nat} {T : TypeId} (hn : cs.length = n) (hn2 : n ≤ 1000) (hcs : ∀ x ∈ cs, 0 ≤ x ∧ x < 18446744073709551616) {K : Value → World → Prop}
    (hK : ∀ w' F' a c G, Den.Sep w0 w' (sl a (rawV13 s env cs).1.length c 1 (u64s (rawV13 s env cs).1) G :: kxPart k (rawS13 s env cs) F' :: l) → K (.tuple #[.slice a (rawV13 s env cs).1.length c, .int .i64 (rawV13 s env cs).2]) w') :
    newK w (.cells (u64s cs).toArray T) fun b w1 => CallsR Tryz.prog F_exo_Kernel_Raw #[.pointer (some ⟨k, 0, none⟩), .int .i64 env, .slice (some ⟨b, 0, none⟩) n n] w1 K := by
  rw [newK_eq]
  have hs := SlB.new w (u64s cs) T (l := n) (sz := 1) (by rw [u64s_length, hn, Nat.mul_one])
  have h1 := h.mod0 ((Mod.refl [] w).alloc (.cells (u64s cs).toArray T))
  refine x_raw (h1.nth 0 rfl) env hs.rd (Nat.le_refl _) (by omega) hcs fun w' F' a c G z1 z2 z3 hs' hG hD => ?_
  have h2 := h1.step 0 rfl (kxPart k (rawS13 s env cs) F') z1 z2 z3
  refine hK w' F' a c G ?_
  refine Den.Sep.of_prts h2.mod ((h2.prts).cons (p := sl a (rawV13 s env cs).1.length c 1 (u64s (rawV13 s env cs).1) G) hs' fun x hx hx2 => ?_) fun x hx => ?_
  · obtain ⟨i, q, hq, hxq⟩ := mem_PF.1 hx2
    rcases i with _ | i
    · cases hq
      exact hD x hx hxq
    · have h5 := hG x hx
      have h6 := (h1.nth (i + 1) (p := q) (by simpa using hq) : q.P _)
      have := q.lt h6 x hxq
      omega
  · obtain ⟨i, q, hq, hxq⟩ := mem_PF.1 hx
    rcases i with _ | i
    · cases hq
      have := hG x hxq
      have := h1.mod.size
      omega
    · exact h2.bey i (by simpa using hq) x hxq

theorem sep_swap {w0 w : World} {p q : Part} {l : List Part} (h : Den.Sep w0 w (p :: q :: l)) : Den.Sep w0 w (q :: p :: l) := by
  refine Den.Sep.of_prts h.mod ((h.prts).re (fun i => if i = 0 then 1 else if i = 1 then 0 else i) ?_ ?_) fun x hx => ?_
  · intro i y hy
    rcases i with _ | _ | i
    · exact hy
    · exact hy
    · exact hy
  · intro i _ j _ hij
    by_cases h1 : i = 0 <;> by_cases h2 : i = 1 <;> by_cases h3 : j = 0 <;> by_cases h4 : j = 1 <;> simp [h1, h2, h3, h4] <;> omega
  · obtain ⟨i, y, hy, hxy⟩ := mem_PF.1 hx
    rcases i with _ | _ | i
    · exact h.bey 1 hy x hxy
    · exact h.bey 0 hy x hxy
    · exact h.bey (i + 2) hy x hxy

theorem awake13_run (w : World) {K : Value → World → Prop} (hK : ∀ w', Mod [] w w' → K (.bool true) w') : CallsR Tryz.prog F_januslaw13_awake #[] w K := by
  apply R_januslaw13_awake_ok
  simp only [R_januslaw13_awake]
  refine x_new 3 13 w (fun w' h _ => absurd h (by omega)) fun m n k F w1 hm hn _ _ _ _ h1 m1 b1 => ⟨_, rfl, ?_⟩
  obtain rfl : m = 3 := by omega
  obtain rfl : n = 13 := by omega
  simp only [Option.isNone_some, spl_false]
  have s1 := (Den.Sep.nil (Den.Mod.refl [] w)).push (kxPart k (init13 3 13) F) m1 h1 b1
  refine x_create (s1.nth 0 rfl) 1 fun w2 F2 h2 m2 o2 => ⟨_, rfl, ?_⟩
  have e0 : ({ init13 3 13 with e := if V10.in12 1 ∧ (1 : Int) ∉ (init13 3 13).e then putL (init13 3 13).e 1 else (init13 3 13).e } : S13) = aw0 := by kernel_rfl
  rw [e0] at h2
  have s2 : Den.Sep w w2 [kxPart k aw0 F2] := s1.step 0 rfl (kxPart k aw0 F2) h2 m2 o2
  refine raw_sep (cs := [0]) (n := 1) s2 1 rfl (by omega) (by decide) fun w3 F3 a3 c3 G3 s3 => ⟨_, _, _, _, rfl, ?_⟩
  rw [awE0] at s3 ⊢
  have s3 : Den.Sep w w3 [kxPart k aw1 F3, sl a3 1 c3 1 (u64s [1]) G3] := sep_swap s3
  refine raw_sep (cs := [10, 1, 3, 9]) (n := 4) s3 1 rfl (by omega) (by decide) fun w4 F4 a4 c4 G4 s4 => ⟨_, _, _, _, rfl, ?_⟩
  rw [awE1] at s4 ⊢
  have s4 : Den.Sep w w4 [kxPart k aw2 F4, sl a3 1 c3 1 (u64s [1]) G3] := Den.Sep.pop s4
  refine raw_sep (cs := [9, 1, 3]) (n := 3) s4 1 rfl (by omega) (by decide) fun w5 F5 a5 c5 G5 s5 => ⟨_, _, _, _, rfl, ?_⟩
  rw [awE2, awS2] at s5
  rw [awE2]
  have s5 : Den.Sep w w5 [kxPart k aw2 F5, sl a5 1 c5 1 (u64s [9]) G5, sl a3 1 c3 1 (u64s [1]) G3] := sep_swap s5
  refine raw_sep (cs := [99]) (n := 1) s5 1 rfl (by omega) (by decide) fun w6 F6 a6 c6 G6 s6 => ⟨_, _, _, _, rfl, ?_⟩
  rw [awE3, awS3] at s6
  rw [awE3]
  have s6 : Den.Sep w w6 [kxPart k aw2 F6, sl a5 1 c5 1 (u64s [9]) G5, sl a3 1 c3 1 (u64s [1]) G3] := Den.Sep.pop s6
  refine raw_sep (cs := [0]) (n := 1) s6 2 rfl (by omega) (by decide) fun w7 F7 a7 c7 G7 s7 => ⟨_, _, _, _, rfl, ?_⟩
  rw [awE4, awS4] at s7
  rw [awE4]
  have s7 : Den.Sep w w7 [kxPart k aw2 F7, sl a5 1 c5 1 (u64s [9]) G5, sl a3 1 c3 1 (u64s [1]) G3] := Den.Sep.pop s7
  refine x_sees (s7.nth 0 rfl) 1 fun w8 F8 a8 c8 G8 h8 m8 o8 _ _ _ => ⟨_, _, _, rfl, ?_⟩
  have s8 : Den.Sep w w8 [kxPart k aw2 F8, sl a5 1 c5 1 (u64s [9]) G5, sl a3 1 c3 1 (u64s [1]) G3] := s7.step 0 rfl (kxPart k aw2 F8) h8 m8 o8
  refine spl_t rfl ?_
  rw [newK_eq]
  have sn9 := SlB.new w8 (u64s [1]) 42 (l := 1) (sz := 1) rfl
  have s9 := s8.mod0 ((Mod.refl [] w8).alloc (.cells (u64s [1]).toArray 42))
  refine words_rd (s9.nth 2 rfl : SlB _ a3 1 c3 1 (u64s [1]) G3).rd sn9.rd (by omega) fun w10 m10 => ⟨_, rfl, spl_t (by decide) (spl_t rfl (spl_t rfl ?_))⟩
  have s10 := s9.mod0 m10
  rw [newK_eq]
  have sn11 := SlB.new w10 (u64s [9]) 42 (l := 1) (sz := 1) rfl
  have s11 := s10.mod0 ((Mod.refl [] w10).alloc (.cells (u64s [9]).toArray 42))
  refine words_rd (s11.nth 1 rfl : SlB _ a5 1 c5 1 (u64s [9]) G5).rd sn11.rd (by omega) fun w12 m12 => ⟨_, rfl, spl_t (by decide) (spl_t rfl (spl_t rfl (spl_t rfl (spl_t (by rw [awL]; rfl) ?_))))⟩
  have s12 := s11.mod0 m12
  refine x_frame (s12.nth 0 rfl) 0 fun w13 a13 c13 G13 _ _ m13 => ⟨_, _, _, rfl, spl_t (by rw [awF]; rfl) ?_⟩
  have s13 := s12.mod0 m13
  refine x_block (s13.nth 0 rfl) 12 fun w14 F14 a14 c14 G14 h14 m14 o14 _ _ _ => ⟨_, _, _, rfl, ?_⟩
  have s14 := s13.step 0 rfl (kxPart k aw2 F14) h14 m14 o14
  rw [awB]
  exact hK w14 s14.mod

end Go.Proofs
