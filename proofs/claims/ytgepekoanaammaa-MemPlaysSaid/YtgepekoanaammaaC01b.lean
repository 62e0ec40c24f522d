/-
  Layer 1: 'awake' answers true; the walks of 'MemNone', 'MemOwn', 'MemCopies', 'MemKeeps'.
-/
import Derived.Test.YtgepekoanaammaaC01a
import Derived.Test.YtgepekoanaammaaDen9
set_option linter.unusedSimpArgs false
namespace Go.Proofs
open Go Go.Den

theorem awake_run (w : World) {K : Value → World → Prop} (h : ∀ w', Mod [] w w' → K (.bool true) w') : CallsR Try.prog F_januslaw01_awake #[] w K := by
  apply R_januslaw01_awake_ok
  simp only [R_januslaw01_awake]
  refine mem_new 2 w (fun h => by omega) (fun k p F w1 hk _ _ hd hm hF => ⟨_, rfl, ?_⟩)
  obtain rfl : k = 2 := by omega
  simp only [Option.isNone_some, spl_false]
  have kF : ∀ {u u' : World}, Mod [] w u → Mod F u u' → Mod [] w u' := fun h h' => h.trans h' fun b hb hlt => absurd (hF b hb) (by omega)
  refine mem_write hd 1 31 7 (fun h => by simp at h) (fun k j b w2 hk hj _ hb hd2 hm2 => ⟨_, rfl, ?_⟩)
  obtain rfl : k = 1 := by omega
  obtain rfl : j = 31 := by omega
  obtain rfl : b = List.replicate 32 0 := by simpa using hb.symm
  refine mem_copy hd2 0 1 (fun h => by simp at h) (fun t f b w3 ht hf _ hb hd3 hm3 => ⟨_, rfl, ?_⟩)
  obtain rfl : t = 0 := by omega
  obtain rfl : f = 1 := by omega
  obtain rfl : b = (List.replicate 32 0).set 31 7 := by simpa using hb.symm
  refine mem_read hd3 0 31 (fun h => by simp at h) (fun k j b x hk hj _ hb hx => ⟨_, _, rfl, ?_⟩)
  obtain rfl : k = 0 := by omega
  obtain rfl : j = 31 := by omega
  obtain rfl : b = (List.replicate 32 0).set 31 7 := by simpa using hb.symm
  obtain rfl : x = 7 := by simpa using hx.symm
  refine mem_read hd3 2 0 (fun _ => ⟨_, _, rfl, ?_⟩) (fun k j b x hk hj _ hb hx => ?_)
  · refine spl_t rfl (spl_t rfl (spl_t rfl (spl_t rfl (spl_t rfl (mem_frames hd3 ⟨_, rfl, spl_t rfl (mem_page hd3 1 (fun h => by simp at h) fun k b a G w4 hk hb hs hG hm4 => ⟨_, _, _, rfl, ?_⟩)⟩)))))
    exact h _ ((kF (kF hm hm2) hm3).trans' hm4)
  · obtain rfl : k = 2 := by omega
    simp at hb

theorem none_run (w : World) (k f wd v : Int) (_ : (Lit.int .i64 k).wf = true) (_ : (Lit.int .i64 f).wf = true) (_ : (Lit.int .i64 wd).wf = true) (_ : (Lit.int .u64 v).wf = true) :
    CallsR Try.prog F_januslaw01_MemNone #[.agg #[.int .i64 k, .int .i64 f, .int .i64 wd, .int .u64 v]] w fun r w' => r = .bool true ∧ Mod [] w w' := by
  apply R_januslaw01_MemNone_ok
  simp only [R_januslaw01_MemNone, newK_eq]
  have hb := alloc_new w (.cells #[.int .i64 k, .int .i64 f, .int .i64 wd, .int .u64 v] 24)
  have e1 : (w.alloc (.cells #[.int .i64 k, .int .i64 f, .int .i64 wd, .int .u64 v] 24)).cell? ⟨w.heap.size, 1, none⟩ = some (.int .i64 f) := by rw [cell_get hb]; rfl
  have e2 : (w.alloc (.cells #[.int .i64 k, .int .i64 f, .int .i64 wd, .int .u64 v] 24)).cell? ⟨w.heap.size, 2, none⟩ = some (.int .i64 wd) := by rw [cell_get hb]; rfl
  have e3 : (w.alloc (.cells #[.int .i64 k, .int .i64 f, .int .i64 wd, .int .u64 v] 24)).cell? ⟨w.heap.size, 3, none⟩ = some (.int .u64 v) := by rw [cell_get hb]; rfl
  refine ⟨f, e1, wd, e2, none_read f wd ⟨_, _, rfl, spl_t rfl ⟨f, e1, wd, e2, v, e3, none_write f wd v ⟨_, rfl, spl_t rfl ⟨f, e1, wd, e2, none_copy f wd ⟨_, rfl, spl_t rfl ⟨f, e1, none_zero f ⟨_, rfl, spl_t rfl (none_frames ⟨_, rfl, spl_t rfl ⟨f, e1, none_page f ⟨_, _, _, rfl, spl_t rfl ?_⟩⟩⟩)⟩⟩⟩⟩⟩⟩⟩⟩
  exact awake_run _ fun w' hm => ⟨_, rfl, rfl, ((Mod.refl [] w).alloc _).trans' hm⟩

theorem own_run (w : World) (v : Int) (_ : (Lit.int .u64 v).wf = true) : CallsR Try.prog F_januslaw01_MemOwn #[.int .u64 v] w fun r w' => r = .bool true ∧ Mod [] w w' := by
  apply R_januslaw01_MemOwn_ok
  simp only [R_januslaw01_MemOwn]
  refine mem_new 1 w (fun h => by omega) (fun k p F w1 hk _ _ hd hm hF => ⟨_, rfl, ?_⟩)
  obtain rfl : k = 1 := by omega
  simp only [Option.isNone_some, spl_false]
  have l1 := hd.lt
  refine mem_page hd 0 (fun h => by simp at h) (fun k b a G w2 hk hb hs hG hm2 => ⟨_, _, _, rfl, spl_f rfl ?_⟩)
  obtain rfl : k = 0 := by omega
  obtain rfl : b = List.replicate 32 0 := by simpa using hb.symm
  obtain ⟨b, o, rfl, rfl⟩ := hs.isNone (by omega)
  obtain ⟨arr, T, hbk, hcap, _⟩ := hs.block
  simp only [nilK_some, addr_add]
  refine ⟨⟨by omega, by omega⟩, stK_of hbk (by simp; omega) ?_⟩
  generalize hw3 : w2.upd _ _ = w3
  have hbF : b ∉ F := fun h => absurd (hG b (by simp)) (by have := l1 b h; omega)
  have hd3 := hd.keep (w' := w3) fun x hx => by
    rw [← hw3, upd_ne _ (by rintro rfl; exact hbF hx)]
    exact hm2.keep x (l1 x hx) (by simp)
  have hm3 : Mod [] w w3 := by rw [← hw3]; exact (hm.trans' hm2).upd (.inr (Nat.le_trans hm.size (hG b (by simp)))) _
  refine mem_read hd3 0 3 (fun h => by simp at h) (fun k j b x hk hj _ hb hx => ⟨_, _, rfl, ?_⟩)
  obtain rfl : k = 0 := by omega
  obtain rfl : j = 3 := by omega
  obtain rfl : b = List.replicate 32 0 := by simpa using hb.symm
  obtain rfl : x = 0 := by simpa using hx.symm
  exact spl_t rfl (spl_t rfl (awake_run _ fun w' hm => ⟨_, rfl, rfl, hm3.trans' hm⟩))

/-- A word of the frames. -/
def wordAt (bs : List (List Int)) (i k : Nat) : Option Int := (bs[i]?).bind fun b => b[k]?
theorem wordAt_of {bs : List (List Int)} {i k : Nat} {b : List Int} {x : Int} (h : bs[i]? = some b) (h' : b[k]? = some x) : wordAt bs i k = some x := by simp [wordAt, h, h']
theorem wordAt_set {bs : List (List Int)} (hb32 : All32 bs) {t j : Nat} {b : List Int} (v : Int) (hb : bs[t]? = some b) (hj : j < 32) (i k : Nat) : wordAt (bs.set t (b.set j v)) i k = if i = t ∧ k = j then some v else wordAt bs i k := by
  have hl := hb32.get hb
  have ht := (List.getElem?_eq_some_iff.1 hb).1
  unfold wordAt
  rw [List.getElem?_set]
  by_cases h1 : t = i
  · subst h1
    rw [if_pos rfl, if_pos ht, hb, Option.bind_some, Option.bind_some, List.getElem?_set]
    by_cases h2 : j = k
    · subst h2
      rw [if_pos rfl, if_pos (by omega), if_pos ⟨rfl, rfl⟩]
    · rw [if_neg h2, if_neg (by omega)]
  · rw [if_neg h1, if_neg (by omega)]

theorem copies_run (w : World) (a : Option Addr) (l c : Nat) (hl : SlIn w 1 Q_u64 a l c) (v : Int) (_ : (Lit.int .u64 v).wf = true) :
    CallsR Try.prog F_januslaw01_MemCopies #[.slice a l c, .int .u64 v] w fun r w' => r = .bool true ∧ Mod [] w w' := by
  apply R_januslaw01_MemCopies_ok
  simp only [R_januslaw01_MemCopies]
  have hle := hl.le
  refine mem_new 2 w (fun h => by omega) (fun k p F w1 hk _ _ hd hm hF => ⟨_, rfl, ?_⟩)
  obtain rfl : k = 2 := by omega
  simp only [Option.isNone_some, spl_false, spl_decide]
  have kF : ∀ {u u' : World}, Mod [] w u → Mod F u u' → Mod [] w u' := fun h h' => h.trans h' fun b hb hlt => absurd (hF b hb) (by omega)
  refine ⟨fun w' => ∃ b0, MemP w' p [b0, List.replicate 32 0] F ∧ Mod [] w w' ∧ b0[5]? = some (if 5 < l then (match (a.bind fun ad => w.cell? (Addr.add ad 5)) with | some (.int .u64 x) => x | _ => 0) else 0), ?_,
    fun m i w' => ∃ (k : Nat) (b0 : List Int), i = k ∧ k ≤ l ∧ k ≤ 32 ∧ m = l - k ∧ MemP w' p [b0, List.replicate 32 0] F ∧ Mod [] w w' ∧ b0[5]? = some (if 5 < k then (match (a.bind fun ad => w.cell? (Addr.add ad 5)) with | some (.int .u64 x) => x | _ => 0) else 0), ⟨l, 0, List.replicate 32 0, rfl, by omega, by omega, rfl, hd, hm, by simp⟩, ?_⟩
  · rintro - w2 ⟨b0, hd2, hm2, h5⟩
    have h32 : b0.length = 32 := hd2.all b0 (by simp)
    refine mem_copy hd2 1 0 (fun h => by simp at h) (fun t f b w3 ht hf _ hb hd3 hm3 => ⟨_, rfl, spl_f rfl ?_⟩)
    obtain rfl : t = 1 := by omega
    obtain rfl : f = 0 := by omega
    obtain rfl : b = b0 := by simpa using hb.symm
    have hd3 : MemP w3 p [b, b] F := hd3
    have l3 := hd3.lt
    have hm3 := kF hm2 hm3
    refine mem_page hd3 0 (fun h => by simp at h) (fun k b1 a1 G1 w4 hk hb1 hs1 hG1 hm4 => ⟨_, _, _, rfl, ?_⟩)
    obtain rfl : k = 0 := by omega
    obtain rfl : b1 = b := by simpa using hb1.symm
    have hd4 := hd3.keep (w' := w4) fun x hx => hm4.keep x (l3 x hx) (by simp)
    have l4 := hd4.lt
    refine mem_page hd4 1 (fun h => by simp at h) (fun k b2 a2 G2 w5 hk hb2 hs2 hG2 hm5 => ⟨_, _, _, rfl, ?_⟩)
    obtain rfl : k = 1 := by omega
    obtain rfl : b2 = b1 := by simpa using hb2.symm
    refine words_eq (hs1.mod hm5 (by simp)) hs2 (by omega) fun w6 hm6 => ⟨_, rfl, spl_t (by simp) ?_⟩
    have hd6 := hd4.keep (w' := w6) fun x hx => (hm5.trans' hm6).keep x (l4 x hx) (by simp)
    have hm6 := ((hm3.trans' hm4).trans' hm5).trans' hm6
    refine mem_write hd6 0 5 v (fun h => by simp at h) (fun k j b3 w7 hk hj _ hb3 hd7 hm7 => ⟨_, rfl, spl_f rfl ?_⟩)
    obtain rfl : k = 0 := by omega
    obtain rfl : j = 5 := by omega
    obtain rfl : b3 = b2 := by simpa using hb3.symm
    have hd7 : MemP w7 p [b3.set 5 v, b3] F := hd7
    have hm7 := kF hm6 hm7
    refine ⟨fun was w' => MemP w' p [b3.set 5 v, b3] F ∧ Mod [] w w' ∧ b3[5]? = some was, ?_, ?_⟩
    · rintro was - w8 ⟨hd8, hm8, hwas⟩
      refine mem_read hd8 1 5 (fun h => by simp at h) (fun k j b4 x4 hk hj _ hb4 hx4 => ⟨_, _, rfl, ?_⟩)
      obtain rfl : k = 1 := by omega
      obtain rfl : j = 5 := by omega
      obtain rfl : b4 = b3 := by simpa using hb4.symm
      obtain rfl : x4 = was := by rw [hx4] at hwas; exact Option.some.inj hwas
      refine mem_read hd8 0 5 (fun h => by simp at h) (fun k j b5 x5 hk hj _ hb5 hx5 => ⟨_, _, rfl, ?_⟩)
      obtain rfl : k = 0 := by omega
      obtain rfl : j = 5 := by omega
      obtain rfl : b5 = b4.set 5 v := by simpa using hb5.symm
      obtain rfl : x5 = v := by
        rw [List.getElem?_set] at hx5
        simpa [h32] using hx5.symm
      refine mem_zero hd8 0 (fun h => by simp at h) (fun k w9 hk _ hd9 hm9 => ⟨_, rfl, ?_⟩)
      obtain rfl : k = 0 := by omega
      have hm9 := kF hm8 hm9
      refine mem_read hd9 1 5 (fun h => by simp at h) (fun k j b6 x6 hk hj _ hb6 hx6 => ⟨_, _, rfl, ?_⟩)
      obtain rfl : k = 1 := by omega
      obtain rfl : j = 5 := by omega
      obtain rfl : b6 = b4 := by simpa using hb6.symm
      obtain rfl : x6 = x4 := by rw [hx6] at hx4; exact Option.some.inj hx4
      exact spl_t (by simp) (spl_t (by simp) (spl_t rfl (spl_t (by simp) (awake_run _ fun w' hm => ⟨_, rfl, rfl, hm9.trans' hm⟩))))
    · refine ⟨fun h5l => ?_, fun h5l => ⟨hd7, hm7, ?_⟩⟩
      · obtain ⟨ad, cs, rfl, hadlt, ⟨x, rfl, hx⟩, -, hcell⟩ := hl.at (i := 5) (by omega)
        have e0 : w.cell? (Addr.add ad 5) = some (.int .u64 x) := hcell 0 (by omega)
        refine ⟨⟨by omega, by omega⟩, x, ?_, hd7, hm7, ?_⟩
        · rw [hm7.cell (a := Addr.add ad 5) (by rw [add_block]; exact hadlt)]; exact e0
        · rw [h5, if_pos (by omega)]
          simp [e0]
      · rw [h5, if_neg (by omega)]
  · rintro m i - w2 ⟨k, b0, rfl, hk, hk32, rfl, hd2, hm2, h5⟩
    have fin : ¬ (k < l ∧ k < 32) → ∃ b0, MemP w2 p [b0, List.replicate 32 0] F ∧ Mod [] w w2 ∧ b0[5]? = some (if 5 < l then (match (a.bind fun ad => w.cell? (Addr.add ad 5)) with | some (.int .u64 x) => x | _ => 0) else 0) := fun h => by
      refine ⟨b0, hd2, hm2, ?_⟩
      by_cases h1 : 5 < l
      · rw [if_pos h1]; rw [if_pos (by omega)] at h5; exact h5
      · rw [if_neg h1]; rw [if_neg (by omega)] at h5; exact h5
    refine ⟨fun hlt => ⟨fun hlt2 => ?_, fun h => fin (by omega)⟩, fun h => fin (by omega)⟩
    have h32 : b0.length = 32 := hd2.all b0 (by simp)
    obtain ⟨ad, cs, rfl, hadlt, ⟨x, rfl, hx⟩, -, hcell⟩ := hl.at (i := k) (by omega)
    have e0 : w.cell? (Addr.add ad k) = some (.int .u64 x) := by have := hcell 0 (by omega); rw [Nat.mul_one] at this; exact this
    refine ⟨⟨by omega, by omega⟩, x, ?_, ?_⟩
    · exact (hm2.cell (a := Addr.add ad k) (by rw [add_block]; exact hadlt)).trans e0
    refine mem_write hd2 0 k x (fun h => by simp at h; omega) (fun k0 j b3 w7 hk0 hj hj32 hb3 hd7 hm7 => ⟨_, rfl, spl_f rfl ?_⟩)
    obtain rfl : k0 = 0 := by omega
    obtain rfl : j = k := by omega
    obtain rfl : b3 = b0 := by simpa using hb3.symm
    refine ⟨l - (j + 1), by omega, j + 1, b3.set j x, by rw [w64 (by omega) (by omega)]; omega, by omega, by omega, rfl, hd7, kF hm2 hm7, ?_⟩
    rw [List.getElem?_set]
    by_cases h1 : j = 5
    · subst h1
      rw [if_pos rfl, if_pos (by omega), if_pos (by omega)]
      simp [e0]
    · rw [if_neg h1, h5]
      by_cases h2 : 5 < j
      · rw [if_pos h2, if_pos (by omega)]
      · rw [if_neg h2, if_neg (by omega)]

end Go.Proofs
