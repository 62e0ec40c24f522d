/-
  exo: a call that answers an error changes nothing that anybody sees: the walk.
-/
import Derived.Test.YthpcakhhemdibaaGreatC13D
import Derived.Test.YthpcakhhemdibaaGreatC13S
set_option linter.unusedVariables false
set_option linter.unusedSimpArgs false
namespace Go.Proofs
open Go Go.Den

def frs13 (s : S13) (j : Nat) : List Int := (List.range j).flatMap fun i => pageW13 s.m.m (i : Nat)
def bls13 (s : S13) (j : Nat) : List Int := (List.range j).flatMap fun i => look12 s.d (i : Nat)
theorem frs_le {s : S13} (h : All32 s.m.m) (j : Nat) : (frs13 s j).length ≤ 32 * j := flat_le (fun i => pageW_le h _) j
theorem bls_le {s : S13} (h : T12 s.d) (j : Nat) : (bls13 s j).length ≤ 32 * j := flat_le (fun i => look12_le h _) j
/-- A frame's words and a block's words come on. -/
theorem fb_step {w0 w : World} {s : S13} {k j i : Nat} {F Gf Gb : List Nat} {t : List Part} {fA bA : Option Addr} {fL fC bL bC : Nat} (hi : t[i]? = some (kxPart k s F)) (hj : j < 1000) (h : Den.Sep w0 w (sl fA fL fC 1 (u64s (frs13 s j)) Gf :: sl bA bL bC 1 (u64s (bls13 s j)) Gb :: t)) {K : Option Addr → Nat → Nat → Option Addr → Nat → Nat → World → Prop}
    (hK : ∀ w' fA fL fC Gf bA bL bC Gb F', Den.Sep w0 w' (sl fA fL fC 1 (u64s (frs13 s (j + 1))) Gf :: sl bA bL bC 1 (u64s (bls13 s (j + 1))) Gb :: t.set i (kxPart k s F')) → K fA fL fC bA bL bC w') :
    CallsR Tryz.prog F_exo_Kernel_Frame #[.pointer (some ⟨k, 0, none⟩), .int .i64 (j : Int)] w fun v w2 => ∃ rA : Option Addr, ∃ rL : Nat, ∃ rC : Nat, v = .slice rA rL rC ∧ runK ((Builtin.append_ #[27, 27] 27 #[.slice fA fL fC, .slice rA rL rC]).run Tryz.prog w2) fun v w3 => ∃ xA : Option Addr, ∃ xL : Nat, ∃ xC : Nat, v = .slice xA xL xC ∧
      CallsR Tryz.prog F_exo_Kernel_Block #[.pointer (some ⟨k, 0, none⟩), .int .i64 (j : Int)] w3 fun v w4 => ∃ rA : Option Addr, ∃ rL : Nat, ∃ rC : Nat, v = .slice rA rL rC ∧ runK ((Builtin.append_ #[27, 27] 27 #[.slice bA bL bC, .slice rA rL rC]).run Tryz.prog w4) fun v w5 => ∃ yA : Option Addr, ∃ yL : Nat, ∃ yC : Nat, v = .slice yA yL yC ∧ K xA xL xC yA yL yC w5 := by
  have hk0 : KX w k s F := h.nth (i + 2) (by simpa using hi)
  obtain ⟨hall, hT12⟩ := hk0.all
  have hfl := (h.nth 0 rfl : SlB w fA fL fC 1 (u64s (frs13 s j)) Gf).u64
  have hbl := (h.nth 1 rfl : SlB w bA bL bC 1 (u64s (bls13 s j)) Gb).u64
  have hf1 := frs_le hall j
  have hb1 := bls_le hT12 j
  have hpl := pageW_le hall (j : Int)
  have hll := look12_le hT12 (j : Int)
  refine x_frame hk0 _ fun w2 a2 c2 G2 hs2 _ m2 => ⟨_, _, _, rfl, ?_⟩
  have s2 := h.mod0 m2
  refine grow_rd_K slT_u64 (by decide) (s2.nth 0 rfl : SlB w2 fA fL fC 1 (u64s (frs13 s j)) Gf) hs2.rd (u64s_cell _) (by omega) (by omega) fun A3 C3 w3 G3 hs3 m3 o3 => ⟨_, _, _, rfl, ?_⟩
  have ef : frs13 s (j + 1) = frs13 s j ++ pageW13 s.m.m (j : Int) := flat_succ _ _
  have eb : bls13 s (j + 1) = bls13 s j ++ look12 s.d (j : Int) := flat_succ _ _
  rw [← u64s_append, ← ef] at hs3
  have s3 := s2.step 0 rfl (sl A3 _ C3 1 (u64s (frs13 s (j + 1))) G3) hs3 m3 o3
  have hk3 : KX w3 k s F := s3.nth (i + 2) (by simpa using hi)
  refine x_block hk3 _ fun w4 F4 a4 c4 G4 z1 z2 z3 hs4 hG4 hD4 => ⟨_, _, _, rfl, ?_⟩
  have s4 := s3.step (i + 2) (by simpa using hi) (kxPart k s F4) z1 z2 z3
  have s4 : Den.Sep w0 w4 (sl A3 _ C3 1 (u64s (frs13 s (j + 1))) G3 :: sl bA bL bC 1 (u64s (bls13 s j)) Gb :: t.set i (kxPart k s F4)) := s4
  refine grow_rd_K slT_u64 (by decide) (s4.nth 1 rfl : SlB w4 bA bL bC 1 (u64s (bls13 s j)) Gb) hs4.rd (u64s_cell _) (by omega) (by omega) fun A5 C5 w5 G5 hs5 m5 o5 => ⟨_, _, _, rfl, ?_⟩
  rw [← u64s_append, ← eb] at hs5
  exact hK w5 _ _ _ _ _ _ _ _ _ (s4.step 1 rfl (sl A5 _ C5 1 (u64s (bls13 s (j + 1))) G5) hs5 m5 o5)

end Go.Proofs
