/-
  Layer 3: contracts of 'Words', 'Block', the disk that is none, and 'awake'.
-/
import Derived.Test.YtihonlejlognhaaC03b
set_option linter.unusedSimpArgs false
namespace Go.Proofs
open Go Go.Den

theorem words_eq {w : World} {a a2 : Option Addr} {l l2 c c2 : Nat} {xs ys : List Int} {F G : List Nat} (hx : SlB w a l c 1 (u64s xs) F) (hy : SlB w a2 l2 c2 1 (u64s ys) G) (hl : l ≤ 4611686018427387904) {K : Value → World → Prop}
    (h : ∀ w', Mod [] w w' → K (.bool (decide (xs = ys))) w') : CallsR Try.prog F_janusref01_Words #[.slice a l c, .slice a2 l2 c2] w K := by
  apply R_janusref01_Words_ok
  have e1 : xs.length = l := by have := hx.length; simpa [u64s] using this
  have e2 : ys.length = l2 := by have := hy.length; simpa [u64s] using this
  simp only [R_janusref01_Words, spl_bne, spl_decide, drK_eq]
  refine ⟨fun hne => ?_, fun heq => ?_⟩
  · have : decide (xs = ys) = false := by
      simp only [decide_eq_false_iff_not]
      rintro rfl
      omega
    rw [← this]
    exact h w (Mod.refl _ _)
  · have hll : l = l2 := by omega
    subst hll
    refine ⟨fun m i w1 => ∃ k : Nat, i = k ∧ k ≤ l ∧ m = l - k ∧ xs.take k = ys.take k ∧ Mod [] w w1, ⟨l, 0, by simp, by simp, by simp, by simp, Mod.refl _ _⟩, ?_⟩
    rintro m i - w1 ⟨k, rfl, hk, rfl, ht, hm⟩
    refine ⟨fun hlt => ?_, fun hge => ?_⟩
    · have hkl : k < l := by omega
      obtain ⟨b, o, rfl, rfl⟩ := hx.isNone (by omega)
      obtain ⟨b2, o2, rfl, rfl⟩ := hy.isNone (by omega)
      have hx1 := hx.mod hm.drew (by simp)
      have hy1 := hy.mod hm.drew (by simp)
      have c1 := hx1.cell (i := k) (by simp [u64s]; omega)
      have c2 := hy1.cell (i := k) (by simp [u64s]; omega)
      simp only [u64s, List.getElem?_map, List.getElem?_eq_getElem (show k < xs.length by omega), Option.map_some] at c1
      simp only [u64s, List.getElem?_map, List.getElem?_eq_getElem (show k < ys.length by omega), Option.map_some] at c2
      simp only [nilK_some, Int.toNat_natCast]
      refine ⟨⟨by omega, by omega⟩, _, c1, ⟨by omega, by omega⟩, _, c2, fun hne => ?_, fun heq => ?_⟩
      · have : decide (xs = ys) = false := by
          simp only [decide_eq_false_iff_not]
          rintro rfl
          exact hne rfl
        rw [← this]
        exact h _ hm.drew
      · refine ⟨l - (k + 1), by omega, k + 1, by rw [w64 (by omega) (by omega)]; omega, by omega, rfl, ?_, hm.drew⟩
        rw [List.take_succ_eq_append_getElem (by omega), List.take_succ_eq_append_getElem (by omega), ht, heq]
    · have hkl : k = l := by omega
      subst hkl
      have : decide (xs = ys) = true := by
        simp only [decide_eq_true_eq]
        rw [List.take_of_length_le (by omega), List.take_of_length_le (by omega)] at ht
        exact ht
      rw [← this]
      exact h _ hm

/-- What 'Block' answers: as many words as are asked for, at most a hundred, each one more than the last. -/
def blockOf (n v : Int) : List Int := (List.range (min n 100).toNat).map fun i : Nat => IntKind.u64.wrap (v + (i : Int))
theorem blockOf_length (n v : Int) : (blockOf n v).length = (min n 100).toNat := by simp [blockOf]
theorem blockOf_32 (v : Int) : (blockOf 32 v).length = 32 := by rw [blockOf_length]; rfl
theorem blockOf_31 (v : Int) : (blockOf 31 v).length = 31 := by rw [blockOf_length]; rfl

theorem block_run (n v : Int) (w : World) {K : Value → World → Prop} (h : ∀ (w' : World) (a : Option Addr) (c : Nat) (G : List Nat), SlB w' a (blockOf n v).length c 1 (u64s (blockOf n v)) G → (∀ b ∈ G, w.heap.size ≤ b) → Mod [] w w' → K (.slice a (blockOf n v).length c) w') :
    CallsR Try.prog F_januslaw03_Block #[.int .i64 n, .int .u64 v] w K := by
  apply R_januslaw03_Block_ok
  simp only [R_januslaw03_Block, spl_decide]
  have fin : ∀ (k : Nat) (w1 : World) (a : Option Addr) (c : Nat) (G : List Nat), k = (min n 100).toNat → SlB w1 a k c 1 (u64s ((List.range k).map fun i : Nat => IntKind.u64.wrap (v + (i : Int)))) G → (∀ b ∈ G, w.heap.size ≤ b) → Mod [] w w1 → K (.slice a k c) w1 := by
    intro k w1 a c G hk hs hG hm
    have e : (List.range k).map (fun i : Nat => IntKind.u64.wrap (v + (i : Int))) = blockOf n v := by rw [hk]; rfl
    rw [e] at hs
    have el : k = (blockOf n v).length := by rw [blockOf_length]; exact hk
    rw [el] at hs ⊢
    exact h w1 a c G hs hG hm
  refine ⟨fun m a l c i w1 => ∃ G, i = (l : Int) ∧ l ≤ (min n 100).toNat ∧ m = (min n 100).toNat - l ∧ SlB w1 a l c 1 (u64s ((List.range l).map fun i : Nat => IntKind.u64.wrap (v + (i : Int)))) G ∧ (∀ b ∈ G, w.heap.size ≤ b) ∧ Mod [] w w1,
    ⟨(min n 100).toNat, [], by simp, by simp, by simp, SlB.nil w 1, by simp, Mod.refl _ _⟩, ?_⟩
  rintro m a l c i - w1 ⟨G, rfl, hl, rfl, hs, hG, hm⟩
  refine ⟨fun h1 => ⟨fun h2 => ?_, fun h2 => fin _ _ _ _ _ (by omega) hs hG hm⟩, fun h1 => fin _ _ _ _ _ (by omega) hs hG hm⟩
  rw [newK_eq]
  have hs1 := hs.alloc (.cells #[.int .u64 (IntKind.u64.wrap (v + (IntKind.u64.wrap (l : Int))))] 22)
  have hn := SlB.new w1 [.int .u64 (IntKind.u64.wrap (v + (IntKind.u64.wrap (l : Int))))] 22 (l := 1) (sz := 1) rfl
  obtain ⟨a', c', w', G', hr, hs2, hm2, ho⟩ := append_run slT_u64 (by decide) hs1 hn (by intro u hu; simp at hu; subst hu; rfl) (by omega) (by omega) 29
  refine ⟨_, _, hr, _, _, _, rfl, (min n 100).toNat - (l + 1), by omega, G', by rw [w64 (by omega) (by omega)]; omega, by omega, rfl, ?_, ?_, ?_⟩
  · rw [List.range_succ, List.map_append]
    simpa [u64s, wu64 (show (0 : Int) ≤ (l : Int) by omega) (by omega)] using hs2
  · intro b hb
    rcases ho b hb with h | h
    · exact hG b h
    · have := hm.size; simp only [alloc_size] at h; omega
  · exact (hm.alloc _).trans hm2 fun b hb h => absurd (hG b hb) (by omega)

theorem none_get (block : Int) {w : World} {K : Value → World → Prop} (h : K (.tuple #[.slice none 0 0, .int .i64 101]) w) : CallsR Try.prog F_blocks_Disk_Get #[.pointer none, .int .i64 block] w K := by
  apply R_blocks_Disk_Get_ok
  refine none_at block ⟨_, _, _, rfl, ?_⟩
  simpa using h
theorem none_put (block : Int) (a : Option Addr) (l c : Nat) {w : World} {K : Value → World → Prop} (h : K (.int .i64 101) w) : CallsR Try.prog F_blocks_Disk_Put #[.pointer none, .int .i64 block, .slice a l c] w K := by
  apply R_blocks_Disk_Put_ok
  refine none_at block ⟨_, _, _, rfl, ?_⟩
  simpa using h
theorem none_len {w : World} {K : Value → World → Prop} (h : K (.int .i64 0) w) : CallsR Try.prog F_blocks_Disk_Len #[.pointer none] w K := by
  apply R_blocks_Disk_Len_ok
  simpa [R_blocks_Disk_Len] using h
theorem none_moves {w : World} {K : Value → World → Prop} (h : K (.tuple #[.int .i64 0, .int .i64 0]) w) : CallsR Try.prog F_blocks_Disk_Moves #[.pointer none] w K := by
  apply R_blocks_Disk_Moves_ok
  simpa [R_blocks_Disk_Moves] using h

end Go.Proofs
