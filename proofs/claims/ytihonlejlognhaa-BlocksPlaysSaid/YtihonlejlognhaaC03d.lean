/-
  Layer 3: 'awake' answers true; the walks of 'BlocksOwn' and 'BlocksNone'.
-/
import Derived.Test.YtihonlejlognhaaC03c
import Derived.Test.YtihonlejlognhaaDen9
set_option linter.unusedSimpArgs false
namespace Go.Proofs
open Go Go.Den

theorem u64s_get (l : List Int) (i : Nat) : (u64s l)[i]? = (l[i]?).map (.int .u64) := by simp [u64s]
theorem blockOf_get {n v : Int} {i : Nat} (h : i < (min n 100).toNat) : (blockOf n v)[i]? = some (IntKind.u64.wrap (v + (i : Int))) := by simp [blockOf, h]

theorem awake_run (w : World) {K : Value → World → Prop} (h : ∀ w', Mod [] w w' → K (.bool true) w') : CallsR Try.prog F_januslaw03_awake #[] w K := by
  apply R_januslaw03_awake_ok
  simp only [R_januslaw03_awake]
  refine disk_new 2 w (fun h => by omega) (fun k p F w1 hk _ _ hd hm hF => ?_)
  obtain rfl : k = 2 := by omega
  refine ⟨_, rfl, ?_⟩
  simp only [Option.isNone_some, spl_false]
  refine block_run 32 5 w1 fun w2 a c G hs hG hm2 => ⟨_, _, _, rfl, ?_⟩
  have hlt := hd.lt
  have hd2 := hd.keep (w' := w2) fun b hb => hm2.keep b (hlt b hb) (by simp)
  rw [blockOf_32] at hs ⊢
  refine disk_put hd2 (by omega) 1 hs (fun b hb hF' => absurd (hG b hb) (by have := hlt b hF'; omega)) (fun h => by simp [blockOf_32] at h) (fun k w3 hk _ _ hd3 hm3 => ?_)
  obtain rfl : k = 1 := by omega
  refine ⟨_, rfl, ?_⟩
  have m13 : Mod [] w w3 := (hm.trans hm2 (by simp)).trans hm3 fun b hb hlt => absurd (hF b hb) (by omega)
  refine disk_get hd3 (by omega) 1 (fun h => by simp at h) (fun k b w4 a4 c4 G4 hk hb hs4 hG4 hd4 hm4 => ⟨_, _, _, _, rfl, ?_⟩)
  obtain rfl : k = 1 := by omega
  obtain rfl : b = blockOf 32 5 := by simpa using hb.symm
  have m14 : Mod [] w w4 := m13.trans hm4 fun b hb hlt => absurd (hF b hb) (by omega)
  refine disk_get hd4 (by omega) 2 (fun _ => ?_) (fun k b w5 a5 c5 G5 hk hb => by
    obtain rfl : k = 2 := by omega
    simp at hb)
  refine ⟨_, _, _, _, rfl, disk_moves hd4 ⟨_, _, rfl, ?_⟩⟩
  have hsd := hs4.mod (S := []) (Mod.refl [] w4).drew (by simp)
  obtain ⟨b, o, rfl, rfl⟩ := hsd.isNone (by omega)
  have c0 := hsd.cell (i := 0) (by simp [u64s, blockOf_32])
  rw [u64s_get, blockOf_get (by decide)] at c0
  simp only [addr_add, Nat.add_zero, Option.map_some] at c0
  simp only [nilK_some, spl_beq]
  refine ⟨fun _ => ⟨fun _ => ⟨⟨by omega, by omega⟩, _, c0, ⟨fun _ => ⟨fun _ => ⟨fun _ => ⟨fun _ => ⟨fun _ => ?_, fun h => by simp at h⟩, fun h => by simp at h⟩, fun h => by simp at h⟩, fun h => by simp at h⟩, fun h => absurd (by decide) h⟩⟩, fun h => by simp at h⟩, fun h => by simp at h⟩
  refine block_run 31 0 _ fun w6 a6 c6 G6 hs6 hG6 hm6 => ⟨_, _, _, rfl, ?_⟩
  have hlt4 := hd4.lt
  have hd6 := hd4.keep (w' := w6) fun b hb => (Mod.refl [] w4).drew.trans hm6 (by simp) |>.keep b (hlt4 b hb) (by simp)
  refine disk_put hd6 (by omega) 0 hs6 (fun b hb hF' => absurd (hG6 b hb) (by have := hlt4 b hF'; simp only [Nat.not_le]; exact this)) (fun _ => ⟨_, rfl, ?_⟩) (fun k w7 hk _ h32 => by rw [blockOf_31] at h32; omega)
  exact h _ ((m14.drew).trans hm6 (by simp))

theorem own_run (w : World) (v : Int) (hv : (Lit.int .u64 v).wf = true) : CallsR Try.prog F_januslaw03_BlocksOwn #[.int .u64 v] w fun r w' => r = .bool true ∧ Mod [] w w' := by
  apply R_januslaw03_BlocksOwn_ok
  simp only [R_januslaw03_BlocksOwn]
  have hv := u64_bounds hv
  have hw : IntKind.u64.wrap v = v := wu64 hv.1 hv.2
  refine disk_new 1 w (fun h => by omega) (fun k p F w1 hk _ _ hd hm hF => ?_)
  obtain rfl : k = 1 := by omega
  refine ⟨_, rfl, ?_⟩
  simp only [Option.isNone_some, spl_false]
  refine block_run 32 v w1 fun w2 a c G hs hG hm2 => ⟨_, _, _, rfl, ?_⟩
  have hlt := hd.lt
  have hd2 := hd.keep (w' := w2) fun b hb => hm2.keep b (hlt b hb) (by simp)
  rw [blockOf_32] at hs ⊢
  have hGF : ∀ b ∈ G, b ∉ F := fun b hb hF' => absurd (hG b hb) (by have := hlt b hF'; omega)
  refine disk_put hd2 (by omega) 0 hs hGF (fun h => by simp [blockOf_32] at h) (fun k w3 hk _ _ hd3 hm3 => ?_)
  obtain rfl : k = 0 := by omega
  refine ⟨_, rfl, ?_⟩
  have m13 : Mod [] w w3 := (hm.trans hm2 (by simp)).trans hm3 fun b hb hlt => absurd (hF b hb) (by omega)
  have hs3 := hs.mod hm3 hGF
  obtain ⟨b, o, rfl, rfl⟩ := hs3.isNone (by omega)
  have c0 := hs3.cell (i := 0) (by simp [u64s, blockOf_32])
  rw [u64s_get, blockOf_get (by decide)] at c0
  simp only [addr_add, Nat.add_zero, Option.map_some] at c0
  simp only [nilK_some, spl_bne]
  refine ⟨fun h => absurd rfl h, fun _ => ⟨⟨by omega, by omega⟩, _, c0, ⟨by omega, by omega⟩, ?_⟩⟩
  obtain ⟨arr, T, hb, hcap, _⟩ := hs3.block
  have hle3 := hs3.le
  refine stK_of hb (by simp; omega) ?_
  generalize hw4 : w3.upd _ _ = w4
  have hbF : b ∉ F := hGF b (by simp)
  have hd4 : DiskP w4 p _ _ _ F := hd3.keep (w' := w4) fun x hx => by rw [← hw4]; exact upd_ne _ (by rintro rfl; exact hbF hx)
  have hbw : w.heap.size ≤ b := Nat.le_trans hm.size (hG b (by simp))
  have m14 : Mod [] w w4 := by rw [← hw4]; exact m13.upd (.inr hbw) _
  refine disk_get hd4 (by omega) 0 (fun h => by simp at h) (fun k b5 w5 a5 c5 G5 hk hb5 hs5 hG5 hd5 hm5 => ⟨_, _, _, _, rfl, ?_⟩)
  obtain rfl : k = 0 := by omega
  obtain rfl : b5 = blockOf 32 v := by simpa using hb5.symm
  have m15 : Mod [] w w5 := m14.trans hm5 fun b hb hlt => absurd (hF b hb) (by omega)
  obtain ⟨b2, o2, rfl, rfl⟩ := hs5.isNone (by omega)
  have d0 := hs5.cell (i := 0) (by simp [u64s, blockOf_32])
  rw [u64s_get, blockOf_get (by decide)] at d0
  have d1 := hs5.cell (i := 1) (by simp [u64s, blockOf_32])
  rw [u64s_get, blockOf_get (by decide)] at d1
  simp only [addr_add, Nat.add_zero, Option.map_some] at d0 d1
  simp only [nilK_some, addr_add]
  refine ⟨fun h => absurd rfl h, fun _ => ⟨⟨by omega, by omega⟩, _, d0, fun h => absurd (by simpa using hw) h, fun _ => ⟨⟨by omega, by omega⟩, _, d1, ⟨by omega, by omega⟩, ?_⟩⟩⟩
  obtain ⟨arr5, T5, hb5', hcap5, _⟩ := hs5.block
  have hle5 := hs5.le
  refine stK_of hb5' (by simp; omega) ?_
  generalize hw6 : w5.upd _ _ = w6
  have hlt4 := hd4.lt
  have hd6 : DiskP w6 p _ _ _ F := hd5.keep (w' := w6) fun x hx => by
    rw [← hw6]
    exact upd_ne _ (fun he => absurd (hG5 x (by simp [he])) (by have := hlt4 x hx; omega))
  have m16 : Mod [] w w6 := by
    rw [← hw6]
    exact m15.upd (.inr (Nat.le_trans m14.size (hG5 b2 (by simp)))) _
  refine disk_get hd6 (by omega) 0 (fun h => by simp at h) (fun k b7 w7 a7 c7 G7 hk hb7 hs7 hG7 hd7 hm7 => ⟨_, _, _, _, rfl, ?_⟩)
  obtain rfl : k = 0 := by omega
  obtain rfl : b7 = blockOf 32 v := by simpa using hb7.symm
  have m17 : Mod [] w w7 := m16.trans hm7 fun b hb hlt => absurd (hF b hb) (by omega)
  refine block_run 32 v w7 fun w8 a8 c8 G8 hs8 hG8 hm8 => ⟨_, _, _, rfl, ?_⟩
  refine words_eq (hs7.mod hm8 (by simp)) hs8 (by omega) fun w9 hm9 => ⟨_, rfl, ?_⟩
  simp only [decide_true, spl_true]
  refine awake_run w9 fun w10 hm10 => ⟨_, rfl, rfl, ?_⟩
  exact ((m17.trans' hm8).trans' hm9).trans' hm10

theorem none_run (w : World) (p : Bool) (b n v : Int) (_ : (Lit.int .i64 b).wf = true) (_ : (Lit.int .i64 n).wf = true) (_ : (Lit.int .u64 v).wf = true) : CallsR Try.prog F_januslaw03_BlocksNone #[.agg #[.bool p, .int .i64 b, .int .i64 n, .int .u64 v]] w fun r w' => r = .bool true ∧ Mod [] w w' := by
  apply R_januslaw03_BlocksNone_ok
  simp only [R_januslaw03_BlocksNone, newK_eq, drK_eq]
  have hb := alloc_new w (.cells #[.bool p, .int .i64 b, .int .i64 n, .int .u64 v] 24)
  refine ⟨b, by rw [cell_get hb]; rfl, none_get _ ⟨_, _, _, _, rfl, none_moves ⟨_, _, rfl, [w.heap.size], ?_⟩⟩⟩
  simp only [spl_beq, World.cell?_drew]
  refine ⟨fun _ => ⟨by simp, b, by rw [cell_get hb]; rfl, by simp, v, by rw [cell_get hb]; rfl, ?_⟩, fun h => absurd rfl h⟩
  refine block_run 32 v _ fun w2 a c G hs hG hm2 => ⟨_, _, _, rfl, ?_, none_put _ _ _ _ ⟨_, rfl, ?_, fun _ => none_len ⟨_, rfl, ?_, fun _ => ⟨fun _ => ⟨fun _ => ?_, fun h => absurd rfl h⟩, fun h => absurd rfl h⟩, fun h => absurd rfl h⟩, fun h => absurd rfl h⟩⟩
  · intro x hx
    simp only [List.mem_singleton] at hx
    subst hx
    exact hm2.keep _ (lt_of_get hb) (by simp)
  · intro x hx
    simp only [List.mem_singleton] at hx
    subst hx
    exact hm2.keep _ (lt_of_get hb) (by simp)
  · intro x hx
    simp only [List.mem_singleton] at hx
    subst hx
    exact hm2.keep _ (lt_of_get hb) (by simp)
  · refine awake_run w2 fun w3 hm3 => ⟨_, rfl, ?_, rfl, ?_⟩
    · intro x hx
      simp only [List.mem_singleton] at hx
      subst hx
      exact (hm2.trans' hm3).keep _ (lt_of_get hb) (by simp)
    · exact (((Mod.refl [] w).alloc _).drew.trans' hm2).trans' hm3

end Go.Proofs
