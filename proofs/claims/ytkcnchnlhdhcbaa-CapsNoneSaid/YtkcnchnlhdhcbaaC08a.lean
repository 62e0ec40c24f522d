/-
  Layer 8: what all its statements use: New, frame, awake.
-/
import Derived.Test.YtkcnchnlhdhcbaaPCaps7
import Derived.Test.YtkcnchnlhdhcbaaRInts
set_option linter.unusedSimpArgs false
namespace Go.Proofs
open Go Go.Den

theorem pnew_gen {T : TypeId} {arr : Array Value} (he : arr = (((List.replicate 780 (none : Option Nat)).map ptrTo ++ []).toArray)) {w : World} {K : Value → World → Prop} (hK : ∀ p F w', CP w' p ⟨[], 0⟩ F → Mod [] w w' → Beyond w.heap.size F → K (.pointer (some ⟨p, 0, none⟩)) w') :
    newK w (.cells arr T) fun b w2 => K (.pointer (some ⟨b, 0, none⟩)) w2 := by
  refine (Sep.nil (Mod.refl [] w)).new fun b w1 s1 m1 hb => ?_
  have h1 : w1.heap[b]? = some _ := s1.nth 0 rfl
  have hno : ∀ i q : Nat, (List.replicate 780 (none : Option Nat))[i]? ≠ some (some q) := fun i q h => by
    have := List.eq_of_mem_replicate (List.mem_of_getElem? h)
    cases this
  refine hK b [b] w1 ⟨W8.nil, List.replicate 780 none, ⟨⟨T, by rw [h1, he]⟩, fun i q hi => absurd hi (hno i q), fun i _ => rfl, fun i j q hi => absurd hi (hno i q), fun i => hno i b, ?_⟩, List.length_replicate⟩ m1 (by intro z hz; simp only [List.mem_singleton] at hz; omega)
  rw [List.filterMap_eq_nil_iff.2 fun a ha => by rw [List.eq_of_mem_replicate ha]; rfl]
theorem pnew_run {w : World} {K : Value → World → Prop} (hK : ∀ p F w', CP w' p ⟨[], 0⟩ F → Mod [] w w' → Beyond w.heap.size F → K (.pointer (some ⟨p, 0, none⟩)) w') : CallsR Try.prog F_caps_New #[] w K := by
  apply R_caps_New_ok
  unfold R_caps_New
  exact pnew_gen (by kernel_rfl) hK

theorem frame_run (i r : Int) {w : World} {K : Value → World → Prop} (hK : ∀ w', Mod [] w w' → K (.agg #[.int .i64 1, .int .i64 i, .int .i64 1, .int .i64 r]) w') : CallsR Try.prog F_januslaw08_frame #[.int .i64 i, .int .i64 r] w K := by
  apply R_januslaw08_frame_ok
  simp only [R_januslaw08_frame]
  refine (Sep.nil (Mod.refl [] w)).new fun b w1 s1 m1 hb => s1.st0 0 rfl rfl fun w2 s2 m2 => ⟨_, _, _, _, ⟨s2.cell 0 rfl rfl, s2.cell 0 rfl rfl, s2.cell 0 rfl rfl, s2.cell 0 rfl rfl⟩, hK w2 s2.mod⟩

def aw1 : S8 := ⟨[⟨1, 0, 1, 1, ⟨1, 5, 1, 7⟩⟩], 1⟩
def aw2 : S8 := ⟨[⟨1, 0, 1, 1, ⟨1, 5, 1, 7⟩⟩, ⟨2, 1, 2, 1, ⟨1, 5, 1, 1⟩⟩], 2⟩
def aw3 : S8 := ⟨[⟨1, 0, 1, 1, ⟨1, 5, 1, 7⟩⟩], 2⟩
theorem aw_add : addS8 ⟨[], 0⟩ 1 ⟨1, 5, 1, 7⟩ = aw1 ∧ addV8 ⟨[], 0⟩ 1 ⟨1, 5, 1, 7⟩ = (1, 0) := ⟨by kernel_rfl, by kernel_rfl⟩
theorem aw_give : giveS8 aw1 1 1 2 1 = aw2 ∧ giveV8 aw1 1 1 2 1 = (1, 0) := ⟨by kernel_rfl, by kernel_rfl⟩
theorem aw_give2 : giveS8 aw2 2 1 3 1 = aw2 ∧ giveV8 aw2 2 1 3 1 = (0, 104) := ⟨by kernel_rfl, by kernel_rfl⟩
theorem aw_has : has8 aw2.L 2 1 5 1 = true ∧ has8 aw2.L 2 1 5 2 = false := ⟨by kernel_rfl, by kernel_rfl⟩
theorem aw_holders : holders8 aw2.L 1 5 = [1, 2] := by kernel_rfl
theorem aw_revoke : revokeS8 aw2 1 1 = aw3 ∧ revokeV8 aw2 1 1 = (1, 0) := ⟨by kernel_rfl, by kernel_rfl⟩
theorem aw_drop : dropV8 aw3 1 1 = (true, 0) := by kernel_rfl

theorem awake_run {w : World} {K : Value → World → Prop} (hK : ∀ w', Mod [] w w' → K (.bool true) w') : CallsR Try.prog F_januslaw08_awake #[] w K := by
  apply R_januslaw08_awake_ok
  simp only [R_januslaw08_awake]
  refine pnew_run fun p F1 w1 h1 m1 b1 => ⟨_, rfl, spl_f rfl ?_⟩
  have s1 := (Sep.nil (Mod.refl [] w)).push (cpPart p _ F1) m1 h1 b1
  refine frame_run 5 7 fun w2 m2 => ⟨_, _, _, _, rfl, ?_⟩
  have s2 := s1.mod0 m2
  refine padd_run (s2.nth 0 rfl : CP w2 p _ F1) 1 ⟨1, 5, 1, 7⟩ fun w3 F3 h3 m3 o3 => ⟨_, _, rfl, ?_⟩
  rw [aw_add.1] at h3
  have s3 := s2.step 0 rfl (cpPart p _ F3) h3 m3 o3
  refine pgive_run (s3.nth 0 rfl : CP w3 p _ F3) 1 1 2 1 fun w4 F4 h4 m4 o4 => ⟨_, _, rfl, ?_⟩
  rw [aw_give.1] at h4
  have s4 := s3.step 0 rfl (cpPart p _ F4) h4 m4 o4
  refine pgive_run (s4.nth 0 rfl : CP w4 p _ F4) 2 1 3 1 fun w5 F5 h5 m5 o5 => ⟨_, _, rfl, ?_⟩
  rw [aw_give2.1] at h5
  have s5 := s4.step 0 rfl (cpPart p _ F5) h5 m5 o5
  refine phas_run (s5.nth 0 rfl : CP w5 p _ F5) 2 1 5 1 (by decide) fun w6 m6 => ⟨_, rfl, ?_⟩
  have s6 := s5.mod0 m6
  refine phas_run (s6.nth 0 rfl : CP w6 p _ F5) 2 1 5 2 (by decide) fun w7 m7 => ⟨_, rfl, ?_⟩
  have s7 := s6.mod0 m7
  refine pholders_run (s7.nth 0 rfl : CP w7 p _ F5) 1 5 (by decide) fun w8 a8 c8 G8 hs8 hG8 m8 => ⟨_, _, _, rfl, ?_⟩
  have s8 := s7.push (sl a8 _ c8 1 _ G8) m8 hs8 hG8
  refine prevoke_run (s8.nth 1 rfl : CP w8 p _ F5) 1 1 fun w9 F9 h9 m9 o9 => ⟨_, _, rfl, ?_⟩
  rw [aw_revoke.1] at h9
  have s9 := s8.step 1 rfl (cpPart p _ F9) h9 m9 o9
  refine pdrop_run (s9.nth 1 rfl : CP w9 p _ F9) 1 1 fun w10 F10 h10 m10 o10 => ⟨_, _, rfl, ?_⟩
  have s10 := s9.step 1 rfl (cpPart p _ F10) h10 m10 o10
  have hs10 : SlB w10 a8 _ c8 1 _ G8 := s10.nth 0 rfl
  rw [aw_add.2, aw_give.2, aw_give2.2, aw_has.1, aw_has.2, aw_revoke.2, aw_drop]
  refine spl_t rfl (spl_t rfl (spl_t rfl (spl_t rfl (spl_t rfl (spl_t rfl (spl_f rfl ?_))))))
  refine s10.new fun b w11 s11 m11 hb => ?_
  have hx11 : SlB w11 a8 _ c8 1 _ G8 := s11.nth 1 rfl
  have hy11 : SlB w11 (some ⟨b, 0, none⟩) 2 2 1 (i64s [1, 2]) [b] := SlB.of (vs := i64s [1, 2]) (s11.nth 0 rfl) rfl
  refine ints_rd hx11.rd hy11.rd (by rw [aw_holders]; decide) fun w12 m12 => ⟨_, rfl, ?_⟩
  rw [aw_holders]
  exact spl_t rfl (spl_t rfl (spl_t rfl (spl_t rfl (hK w12 (s11.mod0 m12).mod))))

theorem fin_run {w0 w : World} (h : Mod [] w0 w) : CallsR Try.prog F_januslaw08_awake #[] w fun v w' => ∃ r : Bool, v = .bool r ∧ (Value.bool r = .bool true ∧ Mod [] w0 w') :=
  awake_run fun w' m => ⟨true, rfl, rfl, h.trans' m⟩

end Go.Proofs
