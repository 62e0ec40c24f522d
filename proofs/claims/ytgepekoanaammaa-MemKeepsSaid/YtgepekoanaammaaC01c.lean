/-
  Layer 1: the walk of 'MemKeeps'.
-/
import Derived.Test.YtgepekoanaammaaC01b
set_option linter.unusedSimpArgs false
namespace Go.Proofs
open Go Go.Den

theorem ibits_or_zero : ibits .or .u64 0 0 = 0 := by decide

theorem keeps_run (w : World) (ak af aw av : Int) (_ : (Lit.int .i64 ak).wf = true) (_ : (Lit.int .i64 af).wf = true) (_ : (Lit.int .i64 aw).wf = true) (_ : (Lit.int .u64 av).wf = true)
    (bk bf bw bv : Int) (_ : (Lit.int .i64 bk).wf = true) (_ : (Lit.int .i64 bf).wf = true) (_ : (Lit.int .i64 bw).wf = true) (_ : (Lit.int .u64 bv).wf = true) :
    CallsR Try.prog F_januslaw01_MemKeeps #[.agg #[.int .i64 ak, .int .i64 af, .int .i64 aw, .int .u64 av], .agg #[.int .i64 bk, .int .i64 bf, .int .i64 bw, .int .u64 bv]] w fun r w' => r = .bool true ∧ Mod [] w w' := by
  apply R_januslaw01_MemKeeps_ok
  simp only [R_januslaw01_MemKeeps, newK_eq]
  have h9 := alloc_get (.cells #[.int .i64 bk, .int .i64 bf, .int .i64 bw, .int .u64 bv] 24) (alloc_new w (.cells #[.int .i64 ak, .int .i64 af, .int .i64 aw, .int .u64 av] 24))
  have h11 := alloc_new (w.alloc (.cells #[.int .i64 ak, .int .i64 af, .int .i64 aw, .int .u64 av] 24)) (.cells #[.int .i64 bk, .int .i64 bf, .int .i64 bw, .int .u64 bv] 24)
  have m01 : Mod [] w _ := ((Mod.refl [] w).alloc (.cells #[.int .i64 ak, .int .i64 af, .int .i64 aw, .int .u64 av] 24)).alloc (.cells #[.int .i64 bk, .int .i64 bf, .int .i64 bw, .int .u64 bv] 24)
  generalize hw1 : (w.alloc (.cells #[.int .i64 ak, .int .i64 af, .int .i64 aw, .int .u64 av] 24)).alloc (.cells #[.int .i64 bk, .int .i64 bf, .int .i64 bw, .int .u64 bv] 24) = w1 at *
  generalize hb11 : (w.alloc (.cells #[.int .i64 ak, .int .i64 af, .int .i64 aw, .int .u64 av] 24)).heap.size = b11 at *
  generalize hb9 : w.heap.size = b9 at h9 ⊢
  clear hw1 hb11 hb9
  have rd9 : ∀ {w' : World}, Mod [] w1 w' → w'.heap[b9]? = some (.cells #[.int .i64 ak, .int .i64 af, .int .i64 aw, .int .u64 av] 24) := fun h => h.get h9 (by simp)
  have rd11 : ∀ {w' : World}, Mod [] w1 w' → w'.heap[b11]? = some (.cells #[.int .i64 bk, .int .i64 bf, .int .i64 bw, .int .u64 bv] 24) := fun h => h.get h11 (by simp)
  have fin : ∀ {w' : World}, Mod [] w1 w' → CallsR Try.prog F_januslaw01_awake #[] w' fun v w'' => ∃ r : Bool, v = .bool r ∧ Value.bool r = .bool true ∧ Mod [] w w'' := fun h => awake_run _ fun w2 h2 => ⟨true, rfl, rfl, (m01.trans' h).trans' h2⟩
  refine mem_new 4 w1 (fun h => by omega) (fun k p F w2 hk _ _ hd hm2 hF => ⟨_, rfl, ?_⟩)
  obtain rfl : k = 4 := by omega
  simp only [Option.isNone_some, spl_false, spl_bne]
  have kF : ∀ {u u' : World}, Mod [] w1 u → Mod F u u' → Mod [] w1 u' := fun h h' => h.trans h' fun b hb hlt => absurd (hF b hb) (by omega)
  refine ⟨af, by rw [cell_get (rd9 hm2)]; rfl, aw, by rw [cell_get (rd9 hm2)]; rfl, av, by rw [cell_get (rd9 hm2)]; rfl, ?_⟩
  refine mem_write hd af aw av (fun _ => ⟨_, rfl, fun _ => fin hm2, fun h => absurd h (by decide)⟩) (fun ka ja b0 w3 hka hja hja32 hb0 hd3 hm3 => ⟨_, rfl, fun h => absurd rfl h, fun _ => ?_⟩)
  have hm3 := kF hm2 hm3
  have a0 := hd.all
  have hb0l := a0.get hb0
  have hka4 : ka < 4 := by have := (List.getElem?_eq_some_iff.1 hb0).1; simpa using this
  have z0 : ∀ i k x, wordAt (List.replicate 4 (List.replicate 32 (0 : Int))) i k = some x → x = 0 := by
    intro i k x h
    simp only [wordAt, List.getElem?_replicate] at h
    split at h
    · simp only [Option.bind_some, List.getElem?_replicate] at h
      split at h
      · exact (Option.some.inj h).symm
      · cases h
    · cases h
  refine ⟨bf, by rw [cell_get (rd11 hm3)]; rfl, bw, by rw [cell_get (rd11 hm3)]; rfl, bv, by rw [cell_get (rd11 hm3)]; rfl, ?_⟩
  refine mem_write hd3 bf bw bv (fun _ => ⟨_, rfl, fun _ => fin hm3, fun h => absurd h (by decide)⟩) (fun kb jb b1 w4 hkb hjb hjb32 hb1 hd4 hm4 => ⟨_, rfl, fun h => absurd rfl h, fun _ => ?_⟩)
  have hm4 := kF hm3 hm4
  have a3 := hd3.all
  have hkb4 : kb < 4 := by have := (List.getElem?_eq_some_iff.1 hb1).1; simpa using this
  -- every word of the frames
  have hword : ∀ i k, wordAt (((List.replicate 4 (List.replicate 32 (0 : Int))).set ka (b0.set ja av)).set kb (b1.set jb bv)) i k = if i = kb ∧ k = jb then some bv else if i = ka ∧ k = ja then some av else wordAt (List.replicate 4 (List.replicate 32 (0 : Int))) i k := by
    intro i k
    rw [wordAt_set a3 bv hb1 hjb32, wordAt_set a0 av hb0 hja32]
  generalize hbs : ((List.replicate 4 (List.replicate 32 (0 : Int))).set ka (b0.set ja av)).set kb (b1.set jb bv) = bs at hd4 hword
  have hbl : bs.length = 4 := by rw [← hbs]; simp
  refine ⟨af, by rw [cell_get (rd9 hm4)]; rfl, aw, by rw [cell_get (rd9 hm4)]; rfl, ?_⟩
  refine mem_read hd4 af aw (fun h => by omega) (fun k1 j1 c1 x hk1 hj1 _ hc1 hx => ⟨_, _, rfl, bf, by rw [cell_get (rd11 hm4)]; rfl, bw, by rw [cell_get (rd11 hm4)]; rfl, mem_read hd4 bf bw (fun h => by omega) (fun k2 j2 c2 y hk2 hj2 _ hc2 hy => ⟨_, _, rfl, ?_⟩)⟩)
  obtain rfl : k1 = ka := by omega
  obtain rfl : j1 = ja := by omega
  obtain rfl : k2 = kb := by omega
  obtain rfl : j2 = jb := by omega
  have wx := (hword k1 j1).symm.trans (wordAt_of hc1 hx)
  have wy := (hword k2 j2).symm.trans (wordAt_of hc2 hy)
  rw [if_pos ⟨rfl, rfl⟩] at wy
  obtain rfl : bv = y := Option.some.inj wy
  refine ⟨fun w' => MemP w' p bs F ∧ Mod [] w1 w', ?_, af, by rw [cell_get (rd9 hm4)]; rfl, bf, by rw [cell_get (rd11 hm4)]; rfl, fun hne => ?_, fun heq => ?_⟩
  · rintro - w5 ⟨hd5, hm5⟩
    refine ⟨fun m sum i w' => ∃ k : Nat, i = k ∧ k ≤ 4 ∧ m = 4 - k ∧ sum = 0 ∧ MemP w' p bs F ∧ Mod [] w1 w', ⟨4, 0, rfl, by omega, rfl, rfl, hd5, hm5⟩, ?_⟩
    rintro m sum i - w6 ⟨k, rfl, hk, rfl, rfl, hd6, hm6⟩
    refine spl_of (fun h => ?_) (fun _ => ?_)
    · have hk4 : k < 4 := by have := of_decide_eq_true h; omega
      refine mem_page hd6 k (fun h => by omega) (fun k' b a G w7 hkk hb hs hG hm7 => ⟨_, _, _, rfl, ?_⟩)
      obtain rfl : k' = k := by omega
      have l6 := hd6.lt
      refine ⟨fun m sum i w' => ∃ j : Nat, i = j ∧ j ≤ 32 ∧ m = 32 - j ∧ sum = 0 ∧ Mod [] w7 w', ⟨32, 0, rfl, by omega, rfl, rfl, Mod.refl _ _⟩, ?_⟩
      rintro m sum i - w8 ⟨j, rfl, hj, rfl, rfl, hm8⟩
      refine spl_of (fun h => ?_) (fun _ => ?_)
      · have hj32 : j < 32 := by have := of_decide_eq_true h; omega
        have m8 := (hm6.trans' hm7).trans' hm8
        have hbl' := hd6.all.get hb
        have hs8 := hs.mod hm8 (by simp)
        obtain ⟨ba, o, rfl, rfl⟩ := hs8.isNone (by omega)
        have hxj : b[j]? = some b[j] := List.getElem?_eq_getElem (by omega)
        have cc := hs8.cell (i := j) (by rw [u64s_length]; omega)
        rw [u64s_get, hxj, Option.map_some] at cc
        have wz := (hword k' j).symm.trans (wordAt_of hb hxj)
        have zero : ¬ (k' = k1 ∧ j = j1) → ¬ (k' = k2 ∧ j = j2) → b[j] = 0 := fun h1 h2 => by
          rw [if_neg h2, if_neg h1] at wz
          exact z0 _ _ _ wz
        simp only [nilK_some, spl_bne]
        have leaf : ¬ (k' = k1 ∧ j = j1) → ¬ (k' = k2 ∧ j = j2) → (0 ≤ (j : Int) ∧ (j : Int) < ((32 : Nat) : Int)) ∧ ∃ x71 : Int, w8.cell? (Addr.add ⟨ba, o, none⟩ (j : Int).toNat) = some (.int .u64 x71) ∧ ibits .or .u64 0 x71 = 0 ∧ Mod [] w7 w8 := fun h1 h2 => ⟨⟨by omega, by omega⟩, _, cc, by rw [zero h1 h2]; exact ibits_or_zero, hm8⟩
        refine ⟨fun sum w' => sum = 0 ∧ Mod [] w7 w', ?_, af, by rw [cell_get (rd9 m8)]; rfl, fun h1 => ⟨bf, by rw [cell_get (rd11 m8)]; rfl, fun h2 => leaf (by omega) (by omega), fun h2 => ⟨bw, by rw [cell_get (rd11 m8)]; rfl, fun h3 => leaf (by omega) (by omega), fun _ => ⟨rfl, hm8⟩⟩⟩, fun h1 => ⟨aw, by rw [cell_get (rd9 m8)]; rfl, fun h2 => ⟨bf, by rw [cell_get (rd11 m8)]; rfl, fun h3 => leaf (by omega) (by omega), fun h3 => ⟨bw, by rw [cell_get (rd11 m8)]; rfl, fun h4 => leaf (by omega) (by omega), fun _ => ⟨rfl, hm8⟩⟩⟩, fun _ => ⟨rfl, hm8⟩⟩⟩
        rintro sum - w9 ⟨rfl, hm9⟩
        exact ⟨32 - (j + 1), by omega, j + 1, by rw [w64 (by omega) (by omega)]; omega, by omega, rfl, rfl, hm9⟩
      · exact ⟨4 - (k' + 1), by omega, k' + 1, by rw [w64 (by omega) (by omega)]; omega, by omega, rfl, rfl, hd6.keep fun x hx => (hm7.trans' hm8).keep x (l6 x hx) (by simp), (hm6.trans' hm7).trans' hm8⟩
    · refine spl_t rfl (spl_t rfl ⟨bv, by rw [cell_get (rd11 hm6)]; rfl, spl_t (by simp) (spl_t rfl (fin hm6))⟩)
  · refine ⟨av, by rw [cell_get (rd9 hm4)]; rfl, fun h => absurd ?_ h, fun _ => ⟨hd4, hm4⟩⟩
    rw [if_neg (by omega), if_pos ⟨rfl, rfl⟩] at wx
    exact (Option.some.inj wx).symm
  · refine ⟨aw, by rw [cell_get (rd9 hm4)]; rfl, bw, by rw [cell_get (rd11 hm4)]; rfl, fun hne => ⟨av, by rw [cell_get (rd9 hm4)]; rfl, fun h => absurd ?_ h, fun _ => ⟨hd4, hm4⟩⟩, fun _ => ⟨hd4, hm4⟩⟩
    rw [if_neg (by omega), if_pos ⟨rfl, rfl⟩] at wx
    exact (Option.some.inj wx).symm

end Go.Proofs
