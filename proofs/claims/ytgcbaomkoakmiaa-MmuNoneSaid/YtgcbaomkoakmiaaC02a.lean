/-
  Layer 2: contracts of the program's page table, and of the reference's.
-/
import Derived.Test.YtgcbaomkoakmiaaU64
import Derived.Test.YtgcbaomkoakmiaaRes
set_option linter.unusedSimpArgs false
namespace Go.Proofs
open Go Go.Den

/-- A table: of each page number, nothing or frame and right. -/
abbrev Tb := Int → Option (Int × Bool)
def tput (t : Tb) (k : Int) (x : Int × Bool) : Tb := fun j => if k = j then some x else t j
def tdel (t : Tb) (k : Int) : Tb := fun j => if k = j then none else t j
def TbOk (t : Tb) : Prop := ∀ k x, t k = some x → 0 ≤ k ∧ k < 4
def pv (x : Int × Bool) : Value := .agg #[.int .i64 x.1, .bool x.2]
def pz (x : Option (Int × Bool)) : Int × Bool := x.getD (0, false)
def tMapE (k f : Int) : Int := if k < 0 ∨ 4 ≤ k ∨ f < 0 then 101 else 0
def tMap (t : Tb) (k : Int) (x : Int × Bool) : Tb := if k < 0 ∨ 4 ≤ k ∨ x.1 < 0 then t else tput t k x
def tUnE (t : Tb) (k : Int) : Int := if k < 0 ∨ 4 ≤ k then 101 else if t k = none then 102 else 0
def use3 (x : Int × Bool) (addr : Int) (wr : Bool) : Int × Int × Int := if wr = true ∧ x.2 = false then (0, 0, 103) else (x.1, addr % 32, 0)
def walk3 (t : Tb) (addr : Int) (wr : Bool) : Int × Int × Int := if 128 ≤ addr then (0, 0, 102) else match t (addr / 32) with
  | none => (0, 0, 102)
  | some x => use3 x addr wr

theorem TbOk.none {t : Tb} (h : TbOk t) {k : Int} (hk : k < 0 ∨ 4 ≤ k) : t k = none := by
  cases ht : t k with
  | none => rfl
  | some x => have := h k x ht; omega
theorem TbOk.map {t : Tb} (h : TbOk t) (k : Int) (x : Int × Bool) : TbOk (tMap t k x) := by
  unfold tMap
  split
  · exact h
  · rename_i hk
    intro j y hj
    unfold tput at hj
    split at hj
    · omega
    · exact h j y hj
theorem TbOk.del {t : Tb} (h : TbOk t) (k : Int) : TbOk (tdel t k) := by
  intro j y hj
  unfold tdel at hj
  split at hj
  · cases hj
  · exact h j y hj
theorem tdel_none {t : Tb} {k : Int} (h : t k = none) : tdel t k = t := by
  funext j
  unfold tdel
  split
  · rename_i e; rw [← e, h]
  · rfl

/-- The program's table at block 'p'. -/
def TblP (w : World) (p : Nat) (t : Tb) (F : List Nat) : Prop :=
  ∃ (m : Nat) (kv : KV) (T : TypeId), w.heap[p]? = some (.cells #[.map (some m)] T (0, 0)) ∧ MapP w m kv ∧ (∀ k, mlook kv k = (t k).map pv) ∧ p ≠ m ∧ F = [p, m] ∧ TbOk t

theorem TblP.keep {w w' : World} {p : Nat} {t : Tb} {F : List Nat} (h : TblP w p t F) (hk : ∀ b ∈ F, w'.heap[b]? = w.heap[b]?) : TblP w' p t F := by
  obtain ⟨m, kv, T, h1, h2, h3, h4, rfl, h6⟩ := h
  exact ⟨m, kv, T, (hk p (by simp)).trans h1, h2.keep (hk m (by simp)), h3, h4, rfl, h6⟩
theorem TblP.lt {w : World} {p : Nat} {t : Tb} {F : List Nat} (h : TblP w p t F) : ∀ b ∈ F, b < w.heap.size := by
  obtain ⟨m, kv, T, h1, h2, h3, h4, rfl, h6⟩ := h
  intro b hb
  simp only [List.mem_cons, List.not_mem_nil, or_false] at hb
  rcases hb with rfl | rfl
  · exact lt_of_get h1
  · exact h2.lt
theorem TblP.ok {w : World} {p : Nat} {t : Tb} {F : List Nat} (h : TblP w p t F) : TbOk t := by
  obtain ⟨m, kv, T, h1, h2, h3, h4, rfl, h6⟩ := h
  exact h6

theorem mmu_new (w : World) {K : Value → World → Prop} (h : ∀ (p : Nat) (F : List Nat) (w' : World), TblP w' p (fun _ => none) F → Mod [] w w' → Beyond w.heap.size F → K (.pointer (some ⟨p, 0, none⟩)) w') : CallsR Try.prog F_mmu_New #[] w K := by
  apply R_mmu_New_ok
  simp only [R_mmu_New, newK_eq]
  have m1 := MapP.new w
  have e1 := alloc_size w (.map #[] 0)
  have hm : Mod [] w (w.alloc (.map #[] 0)) := (Mod.refl _ _).alloc _
  generalize w.alloc (.map #[] 0) = w1 at m1 e1 hm ⊢
  exact h _ [w1.heap.size, w.heap.size] _ ⟨w.heap.size, [], _, alloc_new w1 _, m1.keep (alloc_old _ (by omega)), fun k => rfl, by omega, rfl, fun k x h => by cases h⟩ (hm.alloc _) (by intro b hb; simp at hb; omega)

theorem mmu_page (n : Int) {w : World} {K : Value → World → Prop} (h : K (.bool (decide (0 ≤ n ∧ n < 4))) w) : CallsR Try.prog F_mmu_page #[.int .i64 n] w K := by
  apply R_mmu_page_ok
  simp only [R_mmu_page, spl_decide]
  refine ⟨fun h1 => ?_, fun h1 => ?_⟩
  · rw [show decide (n < 4) = decide (0 ≤ n ∧ n < 4) by simp; omega]; exact h
  · rw [show false = decide (0 ≤ n ∧ n < 4) by simp; omega]; exact h

theorem mmu_map {w : World} {p : Nat} {t : Tb} {F : List Nat} (h : TblP w p t F) (k f : Int) (b : Bool) {K : Value → World → Prop} (hK : ∀ w', TblP w' p (tMap t k (f, b)) F → Mod F w w' → K (.int .i64 (tMapE k f)) w') :
    CallsR Try.prog F_mmu_Table_Map #[.pointer (some ⟨p, 0, none⟩), .int .i64 k, .agg #[.int .i64 f, .bool b]] w K := by
  apply R_mmu_Table_Map_ok
  simp only [R_mmu_Table_Map, newK_eq, Option.isNone_some, spl_false, spl_decide, nilK_some, drK_eq]
  generalize hbn : w.heap.size = bn
  have hm1 : Mod [] w (w.alloc (.cells #[.int .i64 f, .bool b] 24)) := (Mod.refl _ _).alloc _
  have hb := alloc_new w (.cells #[.int .i64 f, .bool b] 24)
  rw [hbn] at hb
  have h1 := h.keep (hm1.at0 h.lt)
  generalize w.alloc (.cells #[.int .i64 f, .bool b] 24) = w1 at hm1 hb h1 ⊢
  have bad : (k < 0 ∨ 4 ≤ k ∨ f < 0) → K (.int .i64 101) w1 := fun hbad => by
    have := hK w1 (by unfold tMap; rw [if_pos hbad]; exact h1) hm1.of0
    rwa [tMapE, if_pos hbad] at this
  refine mmu_page k ⟨_, rfl, ?_⟩
  rw [spl_decide]
  refine ⟨fun hk => ⟨f, by rw [cell_get hb]; rfl, fun hf => bad (by omega), fun hf => ?_⟩, fun hk => bad (by omega)⟩
  have hgood : ¬ (k < 0 ∨ 4 ≤ k ∨ f < 0) := by omega
  obtain ⟨m, kv, T, hp, hmap, hkv, hpm, rfl, hok⟩ := h1
  have hbd : w1.drew.heap[bn]? = some _ := hb
  refine ⟨some m, by rw [World.cell?_drew, cell_get hp]; rfl, f, b, ⟨by rw [cell_get hbd]; rfl, by rw [cell_get hbd]; rfl⟩, ?_⟩
  refine mapUpdate_K mapT_api_Page (hmap.keep (w' := w1.drew) rfl) fun w2 hmap2 hm2 => ?_
  have := hK w2 ⟨m, _, T, hm2.get hp (by simpa using hpm), hmap2, fun j => ?_, hpm, rfl, hok.map k (f, b)⟩ ((hm1.of0.drew).trans' (hm2.mono (by simp)))
  · rwa [tMapE, if_neg hgood] at this
  · unfold tMap
    rw [if_neg hgood, mlook_mput]
    unfold tput
    split
    · rfl
    · exact hkv j

theorem mmu_at {w : World} {p : Nat} {t : Tb} {F : List Nat} (h : TblP w p t F) (k : Int) {K : Value → World → Prop} (hK : ∀ w', Mod [] w w' → K (.tuple #[.agg #[.int .i64 (pz (t k)).1, .bool (pz (t k)).2], .bool (t k).isSome]) w') :
    CallsR Try.prog F_mmu_Table_At #[.pointer (some ⟨p, 0, none⟩), .int .i64 k] w K := by
  apply R_mmu_Table_At_ok
  simp only [R_mmu_Table_At, newK_eq, Option.isNone_some, spl_false, nilK_some]
  generalize hbn : w.heap.size = bn
  have hm1 : Mod [] w (w.alloc (.cells #[.int .i64 0, .bool false] 24)) := (Mod.refl _ _).alloc _
  have hb := alloc_new w (.cells #[.int .i64 0, .bool false] 24)
  rw [hbn] at hb
  have h1 := h.keep (hm1.at0 h.lt)
  generalize w.alloc (.cells #[.int .i64 0, .bool false] 24) = w1 at hm1 hb h1 ⊢
  obtain ⟨m, kv, T, hp, hmap, hkv, hpm, rfl, hok⟩ := h1
  refine ⟨some m, by rw [cell_get hp]; rfl, ?_⟩
  refine lookup_K mapT_api_Page hmap ?_
  obtain ⟨x, hx⟩ : ∃ x, x = pz (t k) := ⟨_, rfl⟩
  rw [hkv k]
  refine ⟨x.1, x.2, (t k).isSome, by rw [hx]; cases t k <;> rfl, ?_⟩
  refine stK_of (alloc_new _ _) (by simp) ?_
  simp only [splice_cons, splice_nil]
  have hb2 : (w1.alloc (.cells #[.int .i64 0, .bool false] 24)).heap[bn]? = some _ := alloc_get _ hb
  have hbnw := lt_of_get hb
  have hm2 : Mod [] w ((w1.alloc (.cells #[.int .i64 0, .bool false] 24)).upd w1.heap.size (.cells ((#[.int .i64 0, .bool false] : Array Value).setIfInBounds 0 (.int .i64 x.1) |>.setIfInBounds (0 + 1) (.bool x.2)) 24 (0, 0))) := (hm1.alloc _).upd (.inr hm1.size) _
  have hc2 := upd_same (x := .cells ((#[.int .i64 0, .bool false] : Array Value).setIfInBounds 0 (.int .i64 x.1) |>.setIfInBounds (0 + 1) (.bool x.2)) 24 (0, 0)) (alloc_new w1 (.cells #[.int .i64 0, .bool false] 24))
  have hb3 := (upd_ne (.cells ((#[.int .i64 0, .bool false] : Array Value).setIfInBounds 0 (.int .i64 x.1) |>.setIfInBounds (0 + 1) (.bool x.2)) 24 (0, 0)) (show w1.heap.size ≠ bn by omega)).trans hb2
  generalize (w1.alloc (.cells #[.int .i64 0, .bool false] 24)).upd _ _ = w2 at hm2 hc2 hb3 ⊢
  refine ⟨x.1, x.2, ⟨by rw [cell_get hc2]; rfl, by rw [cell_get hc2]; rfl⟩, ?_⟩
  refine stK_of hb3 (by simp) ?_
  simp only [splice_cons, splice_nil]
  exact ⟨x.1, x.2, ⟨by rw [cell_get (upd_same hb3)]; rfl, by rw [cell_get (upd_same hb3)]; rfl⟩, by rw [hx]; exact hK _ (hm2.upd (.inr (by omega)) _)⟩

theorem mmu_unmap {w : World} {p : Nat} {t : Tb} {F : List Nat} (h : TblP w p t F) (k : Int) {K : Value → World → Prop} (hK : ∀ w', TblP w' p (tdel t k) F → Mod F w w' → K (.int .i64 (tUnE t k)) w') :
    CallsR Try.prog F_mmu_Table_Unmap #[.pointer (some ⟨p, 0, none⟩), .int .i64 k] w K := by
  apply R_mmu_Table_Unmap_ok
  simp only [R_mmu_Table_Unmap, newK_eq, Option.isNone_some, spl_false, nilK_some]
  refine mmu_page k ⟨_, rfl, ?_⟩
  rw [spl_decide]
  have hok := h.ok
  refine ⟨fun hk => ?_, fun hk => ?_⟩
  · have h1 := h
    obtain ⟨m, kv, T, hp, hmap, hkv, hpm, rfl, -⟩ := h1
    refine ⟨some m, by rw [cell_get hp]; rfl, ?_⟩
    refine lookup_K mapT_api_Page hmap ?_
    rw [hkv k]
    refine ⟨(pz (t k)).1, (pz (t k)).2, (t k).isSome, by cases t k <;> rfl, ?_⟩
    refine stK_of (alloc_new _ _) (by simp) ?_
    have hm2 : ∀ o o', Mod [] w ((w.alloc o).upd w.heap.size o') := fun o o' => ((Mod.refl [] w).alloc _).upd (.inr (Nat.le_refl _)) _
    generalize hw2 : (w.alloc _).upd _ _ = w2
    have hm2 : Mod [] w w2 := by rw [← hw2]; exact hm2 _ _
    clear hw2
    have h2 := h.keep (hm2.at0 h.lt)
    cases ht : t k with
    | none =>
      refine spl_f rfl ?_
      have := hK w2 (by rw [tdel_none ht]; exact h2) hm2.of0
      rwa [tUnE, if_neg (by omega), if_pos ht] at this
    | some x =>
      refine spl_t rfl ?_
      obtain ⟨m', kv', T', hp', hmap', hkv', hpm', hF, -⟩ := h2
      simp only [List.cons.injEq, and_true, true_and] at hF
      subst hF
      refine ⟨some m, by rw [cell_get hp']; rfl, ?_⟩
      refine delete_K mapT_api_Page hmap' fun w3 hmap3 hm3 => ⟨rfl, ?_⟩
      have := hK w3 ⟨m, _, T', hm3.get hp' (by simpa using hpm), hmap3, fun j => ?_, hpm, rfl, hok.del k⟩ (hm2.of0.trans' (hm3.mono (by simp)))
      · rwa [tUnE, if_neg (by omega), if_neg (by simp [ht])] at this
      · obtain ⟨es, c, _, _, hnd⟩ := hmap'
        rw [mlook_mdel hnd]
        unfold tdel
        split
        · rfl
        · exact hkv' j
  · have hbad : k < 0 ∨ 4 ≤ k := by omega
    have := hK w (by rw [tdel_none (hok.none hbad)]; exact h) (Mod.refl _ _)
    rwa [tUnE, if_pos hbad] at this

theorem pg {addr : Int} (h0 : 0 ≤ addr) (h : addr < 128) : IntKind.i64.wrap (IntKind.u64.wrap (Int.tdiv addr 32)) = addr / 32 := by
  rw [Int.tdiv_eq_ediv_of_nonneg h0, wu64 (by omega) (by omega), w64 (by omega) (by omega)]
theorem pw {addr : Int} (h0 : 0 ≤ addr) (h : addr < 128) : IntKind.i64.wrap (Int.tmod addr 32) = addr % 32 := by
  rw [Int.tmod_eq_emod_of_nonneg h0, w64 (by omega) (by omega)]

theorem mmu_use (x : Int × Bool) {addr : Int} (h0 : 0 ≤ addr) (ha : addr < 128) (wr : Bool) {w : World} {K : Value → World → Prop} (hK : ∀ w', Mod [] w w' → K (.tuple #[.int .i64 (use3 x addr wr).1, .int .i64 (use3 x addr wr).2.1, .int .i64 (use3 x addr wr).2.2]) w') :
    CallsR Try.prog F_mmu_use #[.agg #[.int .i64 x.1, .bool x.2], .int .u64 addr, .bool wr] w K := by
  apply R_mmu_use_ok
  simp only [R_mmu_use, newK_eq]
  have hm1 : Mod [] w (w.alloc (.cells #[.int .i64 x.1, .bool x.2] 24)) := (Mod.refl _ _).alloc _
  have hb := alloc_new w (.cells #[.int .i64 x.1, .bool x.2] 24)
  generalize w.alloc (.cells #[.int .i64 x.1, .bool x.2] 24) = w1 at hm1 hb ⊢
  have c0 : w1.cell? ⟨w.heap.size, 0, none⟩ = some (.int .i64 x.1) := by rw [cell_get hb]; rfl
  have c1 : w1.cell? ⟨w.heap.size, 1, none⟩ = some (.bool x.2) := by rw [cell_get hb]; rfl
  have := hK w1 hm1
  refine ⟨fun w' => w' = w1 ∧ ¬ (wr = true ∧ x.2 = false), ?_, ?_⟩
  · rintro - w' ⟨rfl, hn⟩
    rw [use3, if_neg hn] at this
    rw [pw h0 ha]
    exact ⟨_, c0, by decide, this⟩
  · cases wr with
    | false => exact ⟨fun h => (by cases h), fun _ => ⟨rfl, by simp⟩⟩
    | true =>
      rw [spl_true]
      refine ⟨x.2, c1, ?_⟩
      cases hx : x.2 with
      | true => exact spl_t rfl ⟨rfl, by simp⟩
      | false =>
        rw [use3, if_pos ⟨rfl, hx⟩] at this
        exact spl_f rfl this

theorem mmu_walk {w : World} {p : Nat} {t : Tb} {F : List Nat} (h : TblP w p t F) {addr : Int} (h0 : 0 ≤ addr) (wr : Bool) {K : Value → World → Prop} (hK : ∀ w', Mod [] w w' → K (.tuple #[.int .i64 (walk3 t addr wr).1, .int .i64 (walk3 t addr wr).2.1, .int .i64 (walk3 t addr wr).2.2]) w') :
    CallsR Try.prog F_mmu_Table_Walk #[.pointer (some ⟨p, 0, none⟩), .int .u64 addr, .bool wr] w K := by
  apply R_mmu_Table_Walk_ok
  simp only [R_mmu_Table_Walk, spl_decide]
  refine ⟨fun hge => ?_, fun hlt => ⟨by decide, ?_⟩⟩
  · have := hK w (Mod.refl _ _)
    rwa [walk3, if_pos (show 128 ≤ addr from hge)] at this
  · have hlt' : addr < 128 := by omega
    rw [pg h0 hlt']
    refine mmu_at h (addr / 32) fun w1 hm1 => ⟨_, _, _, rfl, ?_⟩
    rw [newK_eq]
    refine stK_of (alloc_new _ _) (by simp) ?_
    simp only [splice_cons, splice_nil]
    have hm2 : ∀ o o', Mod [] w ((w1.alloc o).upd w1.heap.size o') := fun o o' => (hm1.alloc _).upd (.inr hm1.size) _
    have hb := upd_same (x := .cells ((#[.int .i64 0, .bool false] : Array Value).setIfInBounds 0 (.int .i64 (pz (t (addr / 32))).1) |>.setIfInBounds (0 + 1) (.bool (pz (t (addr / 32))).2)) 24 (0, 0)) (alloc_new w1 (.cells #[.int .i64 0, .bool false] 24))
    have hm2 := hm2 (.cells #[.int .i64 0, .bool false] 24) (.cells ((#[.int .i64 0, .bool false] : Array Value).setIfInBounds 0 (.int .i64 (pz (t (addr / 32))).1) |>.setIfInBounds (0 + 1) (.bool (pz (t (addr / 32))).2)) 24 (0, 0))
    generalize (w1.alloc _).upd _ _ = w2 at hb hm2 ⊢
    unfold walk3 at hK
    rw [if_neg (by omega)] at hK
    cases ht : t (addr / 32) with
    | none =>
      rw [ht] at hK
      exact spl_f rfl (hK w2 hm2)
    | some x =>
      rw [ht] at hK hb
      refine spl_t rfl ⟨x.1, x.2, ⟨by rw [cell_get hb]; rfl, by rw [cell_get hb]; rfl⟩, ?_⟩
      exact mmu_use x h0 hlt' wr fun w3 hm3 => ⟨_, _, _, rfl, hK w3 (hm2.trans' hm3)⟩

/-- The frames of a table. -/
def tFrames (t : Tb) (n : Nat) : List Int := (List.range n).filterMap fun k : Nat => (t (k : Int)).map (·.1)
theorem tFrames_succ (t : Tb) (n : Nat) : tFrames t (n + 1) = tFrames t n ++ (match t (n : Int) with | none => [] | some x => [x.1]) := by
  unfold tFrames
  rw [List.range_succ, List.filterMap_append]
  cases h : t (n : Int) <;> simp [h]
theorem tFrames_le (t : Tb) (n : Nat) : (tFrames t n).length ≤ n := by
  have := List.length_filterMap_le (fun k : Nat => (t (k : Int)).map (·.1)) (List.range n)
  simpa [tFrames] using this

theorem mmu_frames {w : World} {p : Nat} {t : Tb} {F : List Nat} (h : TblP w p t F) {K : Value → World → Prop} (hK : ∀ A L C G w', SlB w' A L C 1 (i64s (tFrames t 4)) G → Beyond w.heap.size G → Mod [] w w' → K (.slice A L C) w') :
    CallsR Try.prog F_mmu_Table_Frames #[.pointer (some ⟨p, 0, none⟩)] w K := by
  apply R_mmu_Table_Frames_ok
  simp only [R_mmu_Table_Frames, spl_decide, newK_eq]
  refine ⟨fun n A L C i w' => ∃ (k : Nat) (G : List Nat), i = k ∧ k ≤ 4 ∧ n = 4 - k ∧ SlB w' A L C 1 (i64s (tFrames t k)) G ∧ Beyond w.heap.size G ∧ Mod [] w w', ⟨4, 0, [], rfl, by omega, rfl, by simpa [tFrames] using SlB.nil w 1, by simp [Beyond], Mod.refl _ _⟩, ?_⟩
  rintro n A L C i - w2 ⟨k, G, rfl, hk, rfl, hs, hG, hm⟩
  have hl := hs.i64
  have hle := tFrames_le t k
  refine ⟨fun hlt => ?_, fun hge => ?_⟩
  · refine ⟨fun A' L' C' w' => ∃ G', SlB w' A' L' C' 1 (i64s (tFrames t (k + 1))) G' ∧ Beyond w.heap.size G' ∧ Mod [] w w', ?_, ?_⟩
    · rintro A' L' C' - w3 ⟨G', hs', hG', hm'⟩
      exact ⟨4 - (k + 1), by omega, k + 1, G', by rw [w64 (by omega) (by omega)]; omega, by omega, rfl, hs', hG', hm'⟩
    refine mmu_at (h.keep (hm.at0 h.lt)) (k : Int) fun w3 hm3 => ⟨_, _, _, rfl, ?_⟩
    refine stK_of (alloc_new _ _) (by simp) ?_
    simp only [splice_cons, splice_nil]
    have hm34 : ∀ o o', Mod [] w3 ((w3.alloc o).upd w3.heap.size o') := fun o o' => ((Mod.refl [] w3).alloc _).upd (.inr (Nat.le_refl _)) _
    have hb := upd_same (x := .cells ((#[.int .i64 0, .bool false] : Array Value).setIfInBounds 0 (.int .i64 (pz (t (k : Int))).1) |>.setIfInBounds (0 + 1) (.bool (pz (t (k : Int))).2)) 24 (0, 0)) (alloc_new w3 (.cells #[.int .i64 0, .bool false] 24))
    have hm34 := hm34 (.cells #[.int .i64 0, .bool false] 24) (.cells ((#[.int .i64 0, .bool false] : Array Value).setIfInBounds 0 (.int .i64 (pz (t (k : Int))).1) |>.setIfInBounds (0 + 1) (.bool (pz (t (k : Int))).2)) 24 (0, 0))
    generalize (w3.alloc _).upd _ _ = w4 at hb hm34 ⊢
    have hm24 := hm3.trans' hm34
    have hs4 := hs.keep (hm24.at0 hs.lt)
    rw [tFrames_succ]
    cases ht : t (k : Int) with
    | none =>
      refine spl_f rfl ⟨G, by simpa using hs4, hG, hm.trans' hm24⟩
    | some x =>
      rw [ht] at hb
      refine spl_t rfl ⟨x.1, by rw [cell_get hb]; rfl, ?_⟩
      refine push_K slT_int (by decide) hs4 hG (hm.trans' hm24) (us := [.int .i64 x.1]) rfl (by simp [isCell]) (by omega) (by omega) fun A' C' w5 G' hs' hG' hm' _ _ => ⟨_, _, _, rfl, G', ?_, hG', hm'⟩
      rw [i64s_append]
      exact hs'
  · have : k = 4 := by omega
    subst this
    exact hK A L C G w2 hs hG hm

end Go.Proofs
