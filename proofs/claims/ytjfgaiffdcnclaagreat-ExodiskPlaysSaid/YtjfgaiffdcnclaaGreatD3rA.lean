/-
  janusref03: the reference's disk in the heap: new, put; its rows.
  'Words' of the reference compares two rows.
  'Ints' of the reference compares two rows.
-/
import Derived.Test.YtjfgaiffdcnclaaGreatKeysA
import Derived.Test.YtjfgaiffdcnclaaGreatDenC
import Derived.Test.YtjfgaiffdcnclaaGreatRes
set_option linter.unusedVariables false
set_option linter.unusedSimpArgs false
namespace Go.Proofs
open Go Go.Den

/-- The reference's disk at block 'p'. -/
def DiskR (w : World) (p : Nat) (bs : List (List Int)) (F : List Nat) : Prop :=
  ∃ (T : TypeId) (a : Option Addr) (c : Nat) (g u : Int) (Fr : List Nat), w.heap[p]? = some (.cells #[.slice a bs.length c, .int .i64 g, .int .i64 u] T (0, 0)) ∧ RwP w a bs.length c bs Fr ∧ p ∉ Fr ∧ F = p :: Fr ∧ All32 bs ∧ bs.length ≤ 1024

section
variable {w w' : World} {p : Nat} {bs : List (List Int)} {F : List Nat}
theorem DiskR.keep (h : DiskR w p bs F) (hk : ∀ b ∈ F, w'.heap[b]? = w.heap[b]?) : DiskR w' p bs F := by
  obtain ⟨T, a, c, g, u, Fr, h1, h2, h3, rfl, h4⟩ := h
  exact ⟨T, a, c, g, u, Fr, (hk p (by simp)).trans h1, h2.keep fun b hb => hk b (by simp [hb]), h3, rfl, h4⟩
theorem DiskR.lt (h : DiskR w p bs F) : ∀ b ∈ F, b < w.heap.size := by
  obtain ⟨T, a, c, g, u, Fr, h1, h2, h3, rfl, h4⟩ := h
  intro b hb
  rcases List.mem_cons.1 hb with rfl | hb
  · exact lt_of_get h1
  · exact h2.lt b hb
theorem DiskR.all (h : DiskR w p bs F) : All32 bs ∧ bs.length ≤ 1024 := by
  obtain ⟨T, a, c, g, u, Fr, h1, h2, h3, rfl, h4⟩ := h
  exact h4
/-- The disk's rows, as they are read. -/
theorem DiskR.ptr (h : DiskR w p bs F) : ∃ (a : Option Addr) (c : Nat), w.cell? ⟨p, 0, none⟩ = some (.slice a bs.length c) ∧ ∀ (k : Nat) (b : List Int), bs[k]? = some b → ∃ (ad : Addr) (a2 : Option Addr) (c2 : Nat) (G : List Nat), a = some ad ∧ w.cell? (Addr.add ad k) = some (.slice a2 b.length c2) ∧ SlB w a2 b.length c2 1 (u64s b) G ∧ ∀ x ∈ G, x ∈ F := by
  obtain ⟨T, a, c, g, u, Fr, h1, h2, h3, rfl, h4⟩ := h
  refine ⟨a, c, by rw [cell_get h1]; rfl, fun k b hb => ?_⟩
  obtain ⟨ad, a2, c2, G, g1, g2, g3, g4⟩ := h2.row hb
  exact ⟨ad, a2, c2, G, g1, g2, g3, fun x hx => by simp [g4 x hx]⟩

theorem ref_put (h : DiskR w p bs F) (block : Int) {a : Option Addr} {l c : Nat} {ws : List Int} {G : List Nat} (hw : Rd w a l 1 (u64s ws) G) (hG : ∀ b ∈ G, b ∉ F) {K : Value → World → Prop}
    (h0 : block < 0 ∨ (bs.length : Int) ≤ block ∨ ws.length ≠ 32 → K (.int .i64 101) w)
    (h1 : ∀ (k : Nat) (w' : World) (F' : List Nat), block = k → k < bs.length → ws.length = 32 → DiskR w' p (bs.set k ws) F' → Mod F w w' → Own w F F' → K (.int .i64 0) w') :
    CallsR Tryz.prog F_janusref03_Disk_Put #[.pointer (some ⟨p, 0, none⟩), .int .i64 block, .slice a l c] w K := by
  apply R_janusref03_Disk_Put_ok
  have hl := hw.u64
  obtain ⟨T, ar, cr, g, u, Fr, hp, hr, hpF, rfl, h32, hle⟩ := h
  simp only [R_janusref03_Disk_Put, spl_decide, spl_bne, nilK_some, addr_add, cell_get hp]
  refine ⟨fun h => h0 (.inl h), fun hge => ⟨_, _, _, rfl, fun h => h0 (.inr (.inl h)), fun hlt => ⟨fun h => h0 (.inr (.inr (by omega))), fun heq => ⟨_, rfl, ?_⟩⟩⟩⟩
  obtain ⟨k, rfl⟩ := nat_of (by omega : 0 ≤ block)
  have hk : k < bs.length := by omega
  have hl32 : l = 32 := by omega
  subst hl32
  refine stK_of hp (by simp) ?_
  simp only [splice_cons, splice_nil, Nat.zero_add]
  generalize hw1 : w.upd p (.cells _ T (0, 0)) = w1
  have hp1 : w1.heap[p]? = some (.cells #[.slice ar bs.length cr, .int .i64 g, .int .i64 (IntKind.i64.wrap (u + 1))] T (0, 0)) := by rw [← hw1, upd_same hp]; simp
  have hm1 : Mod [p] w w1 := by rw [← hw1]; exact (Mod.refl _ _).upd (.inl (by simp)) _
  have hr1 : RwP w1 ar bs.length cr bs Fr := hr.keep fun b hb => hm1.keep b (hr.lt b hb) (by rintro hh; simp only [List.mem_singleton] at hh; subst hh; exact hpF hb)
  have hw1' : Rd w1 a 32 1 (u64s ws) G := hw.mod hm1 fun b hb hh => by simp only [List.mem_singleton] at hh; subst hh; exact hG _ hb (by simp)
  rw [drK_eq]
  have hd : Mod [] w1 w1.drew := (Mod.refl [] w1).drew
  have hr2 := hr1.keep (hd.at0 hr1.lt)
  have hp2 := hd.get hp1 (by simp)
  have hw2 := hw1'.mod0 hd
  have hm2 : Mod [p] w w1.drew := hm1.drew
  generalize w1.drew = w2 at hr2 hp2 hw2 hm2 ⊢
  refine ⟨[p], by simp, ar, bs.length, cr, by rw [cell_get hp2]; rfl, fresh_K hw2 (by omega) slT_u64 (by decide) fun A C w3 G3 hs3 hG3 hm3 => ⟨_, _, _, rfl, fun x hx => ?_, ?_⟩⟩
  · simp only [List.mem_singleton] at hx; subst hx; exact hm3.keep _ (lt_of_get hp2) (by simp)
  have hr3 := hr2.keep (hm3.at0 hr2.lt)
  have hp3 := hm3.get hp2 (by simp)
  obtain ⟨ad, a2, c2, G2, rfl, -, -, -⟩ := hr3.row (List.getElem?_eq_getElem hk)
  rw [nilK_some]
  refine ⟨⟨by omega, by omega⟩, ?_⟩
  rw [Int.toNat_natCast]
  have hsz2 := hm2.size
  have key := @RwP.set w3 (some ad) bs.length cr bs Fr hr3 k hk A C ws G3
  rw [hl] at key
  refine key hs3 (fun x hx hx' => by have := hG3 x hx; have := hr2.lt x hx'; omega) rfl fun w4 hr4 hm4 => ?_
  refine h1 k w4 (p :: (Fr ++ G3)) rfl hk hl ⟨T, _, cr, g, _, Fr ++ G3, hm4.get (by rw [List.length_set]; exact hp3) hpF, by rw [List.length_set]; exact hr4, fun hh => ?_, rfl, h32.set k hl, by rw [List.length_set]; exact hle⟩ ?_ fun x hx => ?_
  · rcases List.mem_append.1 hh with hh | hh
    · exact hpF hh
    · have := hG3 p hh; have := lt_of_get hp2; omega
  · exact ((hm2.mono fun x hx => by simp only [List.mem_singleton] at hx; simp [hx]).trans' hm3.of0).trans' (hm4.mono fun x hx => by simp [hx])
  · rcases List.mem_cons.1 hx with rfl | hx
    · left; simp
    · rcases List.mem_append.1 hx with hx | hx
      · left; simp [hx]
      · right; have := hG3 x hx; omega
end

theorem ref_new (n : Int) (w : World) {K : Value → World → Prop} (h0 : n < 1 ∨ 1024 < n → K (.pointer none) w)
    (h1 : ∀ (k p : Nat) (F : List Nat) (w' : World), n = k → 1 ≤ k → k ≤ 1024 → DiskR w' p (List.replicate k (List.replicate 32 0)) F → Mod [] w w' → Beyond w.heap.size F → K (.pointer (some ⟨p, 0, none⟩)) w') :
    CallsR Tryz.prog F_janusref03_New #[.int .i64 n] w K := by
  apply R_janusref03_New_ok
  simp only [R_janusref03_New, spl_decide]
  refine ⟨fun h => h0 (.inl h), fun hge => ⟨fun h => h0 (.inr h), fun hle => ?_⟩⟩
  obtain ⟨N, rfl⟩ := nat_of (by omega : 0 ≤ n)
  have s0 := (Sep.nil (Mod.refl [] w)).push (rwPart none 0 0 [] []) (Mod.refl [] w) (RwP.nil w) (by intro x hx; cases hx)
  refine s0.new fun b w1 s1 m1 hb => ?_
  refine ⟨fun m i wi => ∃ (k : Nat) (a : Option Addr) (c : Nat) (Fr : List Nat), i = k ∧ k ≤ N ∧ m = N - k ∧ Sep w wi [blk b (.cells #[.slice a k c, .int .i64 0, .int .i64 0] _ (0, 0)), rwPart a k c (List.replicate k (List.replicate 32 0)) Fr], ⟨N, 0, none, 0, [], rfl, by omega, rfl, s1⟩, ?_⟩
  rintro m i - w4 ⟨k, a, c, Fr, rfl, hk, rfl, s4⟩
  refine ⟨fun hlt => ?_, fun hge' => ?_⟩
  · rw [drK_eq]
    have s5 := s4.mod0 ((Mod.refl [] w4).drew)
    generalize w4.drew = w5 at s5 ⊢
    have hb5 : w5.heap[b]? = some _ := s5.nth 0 rfl
    refine ⟨[b], by simp, a, k, c, s5.cell 0 rfl rfl, makeSlice_K slT_u64 (l := 32) (c := 32) (Nat.le_refl _) (by omega) (by omega) fun w6 hs6 m6 => ⟨_, _, _, rfl, keepB1 (m6.keep b (lt_of_get hb5) (by simp)), ?_⟩⟩
    rw [zrow_one rfl, Nat.mul_one, ← u64s_rep] at hs6
    have s6 := s5.push (sl (some ⟨w5.heap.size, 0, none⟩) 32 32 1 (u64s (List.replicate 32 0)) [w5.heap.size]) m6 hs6 (by intro x hx; have hx : x ∈ [w5.heap.size] := hx; simp only [List.mem_singleton] at hx; omega)
    refine s6.new fun b7 w7 s7 m7 hb7 => ⟨keepB1 ((m6.trans' m7).keep b (lt_of_get hb5) (by simp)), ?_⟩
    have h7 : RwP w7 a k c (List.replicate k (List.replicate 32 0)) Fr := s7.nth 3 rfl
    have hrow7 : SlB w7 (some ⟨w5.heap.size, 0, none⟩) 32 32 1 (u64s (List.replicate 32 0)) [w5.heap.size] := s7.nth 1 rfl
    have hx7 : SlB w7 (some ⟨b7, 0, none⟩) 1 1 1 [.slice (some ⟨w5.heap.size, 0, none⟩) 32 32] [b7] := SlB.of (s7.nth 0 rfl) rfl
    refine h7.push (b := List.replicate 32 (0 : Int)) (G := [w5.heap.size]) (a2 := some ⟨w5.heap.size, 0, none⟩) (c2 := 32) (by rw [List.length_replicate]; exact hrow7) (fun x hx hx' => s7.dj 1 3 (by decide) rfl rfl x hx hx') (by rw [List.length_replicate]; exact hx7) slT_Sl_u64 (by decide) (by omega) fun A C w8 F' h8 m8 o8 => ⟨_, _, _, rfl, ?_⟩
    have m58 : Mod Fr w5 w8 := ((m6.trans' m7).of0).trans' m8
    have m57 := (m6.trans' m7).size
    rw [← List.replicate_succ'] at h8
    have s8 := s5.step 1 rfl (rwPart A (k + 1) C (List.replicate (k + 1) (List.replicate 32 0)) F') h8 m58 (fun x hx => by
      rcases o8 x hx with hh | hh | hh
      · exact .inl hh
      · right; simp only [List.mem_singleton] at hh; omega
      · right; omega)
    refine s8.st 0 rfl (by simp) fun w9 s9 m9 => ⟨N - (k + 1), by omega, k + 1, A, C, F', by rw [w64 (by omega) (by omega)]; omega, by omega, rfl, ?_⟩
    simpa using s9
  · obtain rfl : k = N := by omega
    have g0 : w4.heap[b]? = some _ := s4.nth 0 rfl
    have g1 : RwP w4 a k c (List.replicate k (List.replicate 32 0)) Fr := s4.nth 1 rfl
    refine h1 k b (b :: Fr) w4 rfl (by omega) (by omega) ⟨_, a, c, 0, 0, Fr, by rw [List.length_replicate]; exact g0, by rw [List.length_replicate]; exact g1, fun hh => s4.dj 0 1 (by decide) rfl rfl b (by simp [blk]) hh, rfl, All32.rep k, by simp; omega⟩ s4.mod fun x hx => ?_
    rcases List.mem_cons.1 hx with rfl | hx
    · exact s4.bey 0 rfl x (by simp [blk])
    · exact s4.bey 1 rfl x hx

def diskPart (p : Nat) (bs : List (List Int)) (F : List Nat) : Part := ⟨F, fun w => DiskP w p bs F, fun h k => h.keep k, fun h => h.lt⟩
def diskrPart (p : Nat) (bs : List (List Int)) (F : List Nat) : Part := ⟨F, fun w => DiskR w p bs F, fun h k => h.keep k, fun h => h.lt⟩

/-- What 'Block' answers: as many words as are asked for, at most a hundred, each one more than the last. -/
def blockOf (n v : Int) : List Int := (List.range (min n 100).toNat).map fun i : Nat => IntKind.u64.wrap (v + (i : Int))
theorem blockOf_length (n v : Int) : (blockOf n v).length = (min n 100).toNat := by simp [blockOf]
theorem blockOf_32 (v : Int) : (blockOf 32 v).length = 32 := by rw [blockOf_length]; rfl
theorem blockOf_get {n v : Int} {i : Nat} (h : i < (min n 100).toNat) : (blockOf n v)[i]? = some (IntKind.u64.wrap (v + (i : Int))) := by simp [blockOf, h]

theorem block_run (n v : Int) (w : World) {K : Value → World → Prop} (h : ∀ (w' : World) (a : Option Addr) (c : Nat) (G : List Nat), SlB w' a (blockOf n v).length c 1 (u64s (blockOf n v)) G → Beyond w.heap.size G → Mod [] w w' → K (.slice a (blockOf n v).length c) w') :
    CallsR Tryz.prog F_januslaw03_Block #[.int .i64 n, .int .u64 v] w K := by
  apply R_januslaw03_Block_ok
  simp only [R_januslaw03_Block, spl_decide]
  have fin : ∀ (k : Nat) (w1 : World) (a : Option Addr) (c : Nat) (G : List Nat), k = (min n 100).toNat → SlB w1 a k c 1 (u64s ((List.range k).map fun i : Nat => IntKind.u64.wrap (v + (i : Int)))) G → Beyond w.heap.size G → Mod [] w w1 → K (.slice a k c) w1 := by
    intro k w1 a c G hk hs hG hm
    have e : (List.range k).map (fun i : Nat => IntKind.u64.wrap (v + (i : Int))) = blockOf n v := by rw [hk]; rfl
    rw [e] at hs
    have el : k = (blockOf n v).length := by rw [blockOf_length]; exact hk
    rw [el] at hs ⊢
    exact h w1 a c G hs hG hm
  refine ⟨fun m a l c i w1 => ∃ G, i = (l : Int) ∧ l ≤ (min n 100).toNat ∧ m = (min n 100).toNat - l ∧ SlB w1 a l c 1 (u64s ((List.range l).map fun i : Nat => IntKind.u64.wrap (v + (i : Int)))) G ∧ Beyond w.heap.size G ∧ Mod [] w w1,
    ⟨(min n 100).toNat, [], by simp, by simp, by simp, SlB.nil w 1, by simp [Beyond], Mod.refl _ _⟩, ?_⟩
  rintro m a l c i - w1 ⟨G, rfl, hl, rfl, hs, hG, hm⟩
  refine ⟨fun h1 => ⟨fun h2 => ?_, fun h2 => fin _ _ _ _ _ (by omega) hs hG hm⟩, fun h1 => fin _ _ _ _ _ (by omega) hs hG hm⟩
  rw [newK_eq]
  refine push_K slT_u64 (by decide) hs hG hm (us := [.int .u64 (IntKind.u64.wrap (v + (IntKind.u64.wrap (l : Int))))]) rfl (by simp [isCell]) (by omega) (by omega) fun A2 C2 w2 G2 hs2 hG2 hm2 _ _ => ⟨_, _, _, rfl, (min n 100).toNat - (l + 1), by omega, G2, by rw [w64 (by omega) (by omega)]; omega, by omega, rfl, ?_, hG2, hm2⟩
  rw [List.range_succ, List.map_append]
  simpa [u64s, wu64 (show (0 : Int) ≤ (l : Int) by omega) (by omega)] using hs2

end Go.Proofs

set_option linter.unusedSimpArgs false
namespace Go.Proofs
open Go Go.Den

theorem words_rd {w : World} {a a2 : Option Addr} {l l2 c c2 : Nat} {xs ys : List Int} {F G : List Nat} (hx : Rd w a l 1 (u64s xs) F) (hy : Rd w a2 l2 1 (u64s ys) G) (hl : l ≤ 9223372036854775807) {K : Value → World → Prop}
    (h : ∀ w', Mod [] w w' → K (.bool (decide (xs = ys))) w') : CallsR Tryz.prog F_janusref01_Words #[.slice a l c, .slice a2 l2 c2] w K := by
  apply R_janusref01_Words_ok
  have e1 := hx.u64
  have e2 := hy.u64
  simp only [R_janusref01_Words, spl_bne, spl_decide, drK_eq]
  refine ⟨fun hne => ?_, fun heq => ?_⟩
  · have : decide (xs = ys) = false := by
      simp only [decide_eq_false_iff_not]
      rintro rfl
      omega
    rw [← this]
    exact h w (Mod.refl _ _)
  · have hll : l = l2 := by omega
    subst hll
    refine ⟨fun m i w1 => ∃ k : Nat, i = k ∧ k ≤ l ∧ m = l - k ∧ xs.take k = ys.take k ∧ Mod [] w w1, ⟨l, 0, by simp, by simp, by simp, by simp, Mod.refl _ _⟩, ?_⟩
    rintro m i - w1 ⟨k, rfl, hk, rfl, ht, hm⟩
    refine ⟨fun hlt => ?_, fun hge => ?_⟩
    · have hkl : k < l := by omega
      obtain ⟨ad, x, rfl, hx1, c1, -, -⟩ := (hx.mod0 hm.drew).u64at hkl
      obtain ⟨ad2, y, rfl, hy1, c2, -, -⟩ := (hy.mod0 hm.drew).u64at hkl
      simp only [nilK_some, Int.toNat_natCast]
      refine ⟨⟨by omega, by omega⟩, _, c1, ⟨by omega, by omega⟩, _, c2, fun hne => ?_, fun heq => ?_⟩
      · have : decide (xs = ys) = false := by
          simp only [decide_eq_false_iff_not]
          rintro rfl
          rw [hx1] at hy1
          exact hne (Option.some.inj hy1)
        rw [← this]
        exact h _ hm.drew
      · refine ⟨l - (k + 1), by omega, k + 1, by rw [w64 (by omega) (by omega)]; omega, by omega, rfl, ?_, hm.drew⟩
        have p1 := (List.getElem?_eq_some_iff.1 hx1).2
        have p2 := (List.getElem?_eq_some_iff.1 hy1).2
        rw [List.take_succ_eq_append_getElem (by omega), List.take_succ_eq_append_getElem (by omega), ht, p1, p2, heq]
    · have hkl : k = l := by omega
      subst hkl
      have : decide (xs = ys) = true := by
        simp only [decide_eq_true_eq]
        rw [List.take_of_length_le (by omega), List.take_of_length_le (by omega)] at ht
        exact ht
      rw [← this]
      exact h _ hm

end Go.Proofs

set_option linter.unusedSimpArgs false
namespace Go.Proofs
open Go Go.Den

theorem ints_rd {w : World} {a a2 : Option Addr} {l l2 c c2 : Nat} {xs ys : List Int} {F G : List Nat} (hx : Rd w a l 1 (i64s xs) F) (hy : Rd w a2 l2 1 (i64s ys) G) (hl : l ≤ 9223372036854775807) {K : Value → World → Prop}
    (h : ∀ w', Mod [] w w' → K (.bool (decide (xs = ys))) w') : CallsR Tryz.prog F_janusref01_Ints #[.slice a l c, .slice a2 l2 c2] w K := by
  apply R_janusref01_Ints_ok
  have e1 := hx.i64
  have e2 := hy.i64
  simp only [R_janusref01_Ints, spl_bne, spl_decide, drK_eq]
  refine ⟨fun hne => ?_, fun heq => ?_⟩
  · have : decide (xs = ys) = false := by
      simp only [decide_eq_false_iff_not]
      rintro rfl
      omega
    rw [← this]
    exact h w (Mod.refl _ _)
  · have hll : l = l2 := by omega
    subst hll
    refine ⟨fun m i w1 => ∃ k : Nat, i = k ∧ k ≤ l ∧ m = l - k ∧ xs.take k = ys.take k ∧ Mod [] w w1, ⟨l, 0, by simp, by simp, by simp, by simp, Mod.refl _ _⟩, ?_⟩
    rintro m i - w1 ⟨k, rfl, hk, rfl, ht, hm⟩
    refine ⟨fun hlt => ?_, fun hge => ?_⟩
    · have hkl : k < l := by omega
      obtain ⟨ad, x, rfl, hx1, c1, -, -⟩ := (hx.mod0 hm.drew).i64at hkl
      obtain ⟨ad2, y, rfl, hy1, c2, -, -⟩ := (hy.mod0 hm.drew).i64at hkl
      simp only [nilK_some, Int.toNat_natCast]
      refine ⟨⟨by omega, by omega⟩, _, c1, ⟨by omega, by omega⟩, _, c2, fun hne => ?_, fun heq => ?_⟩
      · have : decide (xs = ys) = false := by
          simp only [decide_eq_false_iff_not]
          rintro rfl
          rw [hx1] at hy1
          exact hne (Option.some.inj hy1)
        rw [← this]
        exact h _ hm.drew
      · refine ⟨l - (k + 1), by omega, k + 1, by rw [w64 (by omega) (by omega)]; omega, by omega, rfl, ?_, hm.drew⟩
        have p1 := (List.getElem?_eq_some_iff.1 hx1).2
        have p2 := (List.getElem?_eq_some_iff.1 hy1).2
        rw [List.take_succ_eq_append_getElem (by omega), List.take_succ_eq_append_getElem (by omega), ht, p1, p2, heq]
    · have hkl : k = l := by omega
      subst hkl
      have : decide (xs = ys) = true := by
        simp only [decide_eq_true_eq]
        rw [List.take_of_length_le (by omega), List.take_of_length_le (by omega)] at ht
        exact ht
      rw [← this]
      exact h _ hm

end Go.Proofs
