/-
  Layer 4: the walk of 'DeviceConsoles', where each text is of at most 1048576 bytes.
-/
import Derived.Test.YtfiamglndglbeaaC04b
set_option linter.unusedSimpArgs false
namespace Go.Proofs
open Go Go.Den

def Q4small (cs : List Value) : Prop := ∃ (f0 : Bool) (f1 : Int) (f2 : ByteArray), cs = [.bool f0, .int .i64 f1, .string f2] ∧ f2.size ≤ 1048576

/-- The two consoles hold the same. -/
def Both4 (w w' : World) (p q top : Nat) : Prop :=
  ∃ (inp out : ByteArray) (F : List Nat), ConsP w' p inp out F ∧ ConsR w' q inp out ∧ q ∉ F ∧ (∀ b ∈ F, w.heap.size ≤ b) ∧ out.size ≤ top * 1048576 ∧ Mod [] w w'

theorem consoles_run (w : World) (inp : ByteArray) (_ : inp.size ≤ maxLen) (a : Option Addr) (l c : Nat) (hl : SlIn w 3 Q4small a l c) : CallsR Try.prog F_januslaw04_DeviceConsoles #[.string inp, .slice a l c] w fun r w' => r = .bool true ∧ Mod [] w w' := by
  apply R_januslaw04_DeviceConsoles_ok
  simp only [R_januslaw04_DeviceConsoles, newK_eq]
  have fin : ∀ (w' : World), Mod [] w w' → CallsR Try.prog F_januslaw04_awake #[] w' fun v w'' => ∃ r : Bool, v = .bool r ∧ Value.bool r = .bool true ∧ Mod [] w w'' := fun w' h => awake_run _ fun w2 h2 => ⟨true, rfl, rfl, h.trans' h2⟩
  have hmax : IntKind.i64.max = 9223372036854775807 := by decide
  have hle := hl.le
  refine dev_new _ w fun p F w1 hc1 hm1 hF => ⟨_, rfl, ?_⟩
  simp only [Option.isNone_some, spl_false, spl_decide, spl_bne, drK_eq]
  have l1 := hc1.lt
  have hx := alloc_new w1 (.cells #[.string inp, .string ByteArray.empty] 27)
  have hc0 := hc1.keep (w' := w1.alloc (.cells #[.string inp, .string ByteArray.empty] 27)) fun b hb => alloc_old _ (l1 b hb)
  have hm0 := hm1.alloc (.cells #[.string inp, .string ByteArray.empty] 27)
  obtain ⟨q, hq⟩ : ∃ q, q = w1.heap.size := ⟨_, rfl⟩
  rw [← hq] at hx ⊢
  have hqF : q ∉ F := fun h => absurd (l1 q h) (by omega)
  have hqw : w.heap.size ≤ q := hq ▸ hm1.size
  clear hq
  refine ⟨fun w' => Mod [] w w', fun _ w' h => fin w' h, fun m i w' => ∃ k : Nat, i = k ∧ k ≤ l ∧ k ≤ 200 ∧ m = l - k ∧ Both4 w w' p q k, ⟨l, 0, rfl, by omega, by omega, rfl, inp, _, F, hc0, ⟨_, hx⟩, hqF, hF, by decide, hm0⟩, ?_⟩
  rintro m i - w2 ⟨k, rfl, hk, hk200, rfl, ip, out, F2, hp2, hq2, hqF2, hF2, hout, hm2⟩
  refine ⟨fun hlt => ⟨fun hlt2 => ?_, fun _ => hm2⟩, fun _ => hm2⟩
  obtain ⟨ad, cs, rfl, hadlt, ⟨dp, dn, ds, rfl, hds⟩, -, hcell⟩ := hl.at (i := k) (by omega)
  have hcw : ∀ {w' : World}, Mod [] w w' → ∀ j, j < 3 → w'.cell? (Addr.add (Addr.add ad (k * 3)) j) = [Value.bool dp, .int .i64 dn, .string ds][j]? := fun hm j hj => by
    rw [hm.cell (a := Addr.add (Addr.add ad (k * 3)) j) (by rw [add_block, add_block]; exact hadlt)]
    exact hcell j hj
  have kF : ∀ {u u' : World}, Mod [] w u → Mod F2 u u' → Mod [] w u' := fun h h' => h.trans h' fun b hb hlt => absurd (hF2 b hb) (by omega)
  have kq : ∀ {u u' : World}, Mod [] w u → Mod [q] u u' → Mod [] w u' := fun h h' => h.trans h' fun b hb hlt => by simp at hb; omega
  have l2 := hp2.lt
  have qlt : q < w2.heap.size := hq2.elim fun _ h => lt_of_get h
  refine ⟨fun w' => Both4 w w' p q (k + 1), ?_, ?_⟩
  · rintro - w3 ⟨ip, out, F3, hp3, ⟨T, hq3⟩, hqF3, hF3, hout3, hm3⟩
    refine ⟨[q], by simp, ip, by rw [World.cell?_drew, cell_get hq3]; rfl, ?_⟩
    have hp4 := hp3.keep (w' := w3.drew) fun _ _ => rfl
    refine cons_left hp4 ⟨_, rfl, fun _ _ => rfl, fun h => absurd rfl h, fun _ => ⟨by simp, out, by rw [World.cell?_drew, cell_get hq3]; rfl, cons_out hp4 ⟨_, rfl, fun _ _ => rfl, spl_f (by rw [tl_eq rfl]; rfl) ?_⟩⟩⟩
    exact ⟨l - (k + 1), by omega, k + 1, by rw [w64 (by omega) (by omega)]; omega, by omega, by omega, rfl, ip, out, F3, hp4, ⟨T, hq3⟩, hqF3, hF3, hout3, hm3.drew⟩
  · refine ⟨⟨by omega, by omega⟩, dp, hcw hm2 0 (by omega), spl_of (fun _ => ?_) (fun _ => ?_)⟩
    · refine ⟨⟨by omega, by omega⟩, ds, hcw hm2 2 (by omega), cons_put hp2 ds (by omega) fun w3 F3 hp3 hm3 ho3 => ⟨rfl, ?_⟩⟩
      obtain ⟨T, hq2⟩ := hq2
      have hq3 := hm3.get hq2 hqF2
      have hm3' := kF hm2 hm3
      refine ⟨out, by rw [World.cell?_drew, cell_get hq3]; rfl, ⟨by omega, by omega⟩, ds, hcw hm3'.drew 2 (by omega), by rw [hmax]; omega, stK_of (w := w3.drew) hq3 (by simp) ?_⟩
      have hqF3 : q ∉ F3 := fun h => by
        rcases ho3 q h with h | h
        · exact hqF2 h
        · omega
      refine ⟨ip, out ++ ds, F3, hp3.keep fun b hb => upd_ne _ (by rintro rfl; exact hqF3 hb), ⟨T, by rw [upd_same (w := w3.drew) hq3]; simp⟩, hqF3, ?_, by rw [ByteArray.size_append]; omega, hm3'.drew.upd (.inr hqw) _⟩
      intro b hb
      rcases ho3 b hb with h | h
      · exact hF2 b h
      · have := hm2.size; omega
    · refine ⟨[ad.block], ⟨by omega, by omega⟩, by simp [add_block], dn, hcw hm2.drew 1 (by omega), ⟨by omega, by omega⟩, by simp [add_block], dn, hcw hm2.drew 1 (by omega), ?_⟩
      refine cons_get (hp2.keep (w' := w2.drew) fun _ _ => rfl) dn fun w3 hp3 hm3 => ⟨_, rfl, ?_, ref_cget (inp := ip) (out := out) ?_ dn fun w4 hq4 hm4 => ⟨_, rfl, ?_, spl_f (by rw [tl_eq rfl]; rfl) ?_⟩⟩
      · intro b hb
        simp only [List.mem_singleton] at hb
        subst hb
        exact hm3.keep _ (Nat.lt_of_lt_of_le hadlt hm2.size) fun h => absurd (hF2 _ h) (by omega)
      · obtain ⟨T, hq2⟩ := hq2
        exact ⟨T, hm3.get (w := w2.drew) hq2 hqF2⟩
      · intro b hb
        simp only [List.mem_singleton] at hb
        subst hb
        exact (hm4.keep _ (Nat.lt_of_lt_of_le (Nat.lt_of_lt_of_le hadlt hm2.size) hm3.size) (by simp; omega)).trans (hm3.keep _ (Nat.lt_of_lt_of_le hadlt hm2.size) fun h => absurd (hF2 _ h) (by omega))
      · have l3 := hp3.lt
        exact ⟨_, out, F2, hp3.keep fun b hb => hm4.keep b (l3 b hb) (by simp; rintro rfl; exact hqF2 hb), hq4, hqF2, hF2, Nat.le_trans hout (Nat.mul_le_mul_right _ (Nat.le_succ k)), kq (kF hm2.drew hm3) hm4⟩

end Go.Proofs
