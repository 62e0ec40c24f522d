/-
  Layer 2: contracts of the program's TLB.
-/
import Derived.Test.YtgcbaomkoakmiaaC02b
set_option linter.unusedSimpArgs false
namespace Go.Proofs
open Go Go.Den

/-- A TLB: the pages that it keeps, the eldest ahead. -/
abbrev Tl := List (Int × (Int × Bool))
def tlook : Tl → Int → Option (Int × Bool)
  | [], _ => none
  | p :: ps, k => if p.1 = k then some p.2 else tlook ps k
def tkeys (L : Tl) : List Int := L.map (·.1)
def tlAdd (L : Tl) (n : Int) (x : Int × Bool) : Tl := if 2 < (L ++ [(n, x)]).length then (L ++ [(n, x)]).drop 1 else L ++ [(n, x)]
def tlDrop (L : Tl) (n : Int) : Tl := L.filter fun p => p.1 ≠ n
def tlIn (t : Tb) (L : Tl) (addr : Int) (wr : Bool) : Tl × (Int × Int × Int) × Bool := match tlook L (addr / 32) with
  | some x => (L, use3 x addr wr, true)
  | none => match t (addr / 32) with
    | none => (L, (0, 0, 102), false)
    | some x => (tlAdd L (addr / 32) x, use3 x addr wr, false)
def tlWalk (t : Tb) (L : Tl) (addr : Int) (wr : Bool) : Tl × (Int × Int × Int) × Bool :=
  if 128 ≤ addr then (L, (0, 0, 102), false) else tlIn t L addr wr
theorem tlIn_hit {t : Tb} {L : Tl} {addr : Int} {x : Int × Bool} (wr : Bool) (h : tlook L (addr / 32) = some x) : tlIn t L addr wr = (L, use3 x addr wr, true) := by unfold tlIn; rw [h]
theorem tlIn_no {t : Tb} {L : Tl} {addr : Int} (wr : Bool) (h : tlook L (addr / 32) = none) (h2 : t (addr / 32) = none) : tlIn t L addr wr = (L, (0, 0, 102), false) := by unfold tlIn; rw [h, h2]
theorem tlIn_add {t : Tb} {L : Tl} {addr : Int} {x : Int × Bool} (wr : Bool) (h : tlook L (addr / 32) = none) (h2 : t (addr / 32) = some x) : tlIn t L addr wr = (tlAdd L (addr / 32) x, use3 x addr wr, false) := by unfold tlIn; rw [h, h2]
def TlOk (L : Tl) : Prop := (tkeys L).Nodup ∧ L.length ≤ 2

theorem tlook_none {L : Tl} {k : Int} : tlook L k = none ↔ k ∉ tkeys L := by
  induction L with
  | nil => simp [tlook, tkeys]
  | cons p ps ih =>
    simp only [tlook, tkeys, List.map_cons, List.mem_cons, not_or]
    by_cases h : p.1 = k
    · simp [h]
    · simp only [h, if_false, ih, tkeys]
      exact ⟨fun h' => ⟨fun e => h e.symm, h'⟩, fun h' => h'.2⟩
theorem tlook_snoc (L : Tl) (n : Int) (x : Int × Bool) (h : tlook L n = none) (k : Int) : tlook (L ++ [(n, x)]) k = if n = k then some x else tlook L k := by
  induction L with
  | nil => rfl
  | cons p ps ih =>
    simp only [tlook] at h
    split at h
    · cases h
    · rename_i hp
      simp only [List.cons_append, tlook, ih h]
      by_cases h1 : p.1 = k
      · have : n ≠ k := fun e => hp (h1.trans e.symm)
        simp [h1, this]
      · simp [h1]
theorem tlook_tail {p : Int × (Int × Bool)} {L : Tl} (h : (tkeys (p :: L)).Nodup) (k : Int) : tlook L k = if p.1 = k then none else tlook (p :: L) k := by
  simp only [tkeys, List.map_cons, List.nodup_cons] at h
  by_cases h1 : p.1 = k
  · rw [if_pos h1]; exact tlook_none.2 (h1 ▸ h.1)
  · rw [if_neg h1, tlook, if_neg h1]
theorem tlook_drop (L : Tl) (n k : Int) : tlook (tlDrop L n) k = if n = k then none else tlook L k := by
  induction L with
  | nil => simp [tlDrop, tlook]
  | cons p ps ih =>
    unfold tlDrop at ih ⊢
    by_cases hp : p.1 = n
    · rw [List.filter_cons_of_neg (by simp [hp]), ih, tlook]
      by_cases h1 : n = k
      · simp [h1]
      · have : p.1 ≠ k := fun e => h1 (hp.symm.trans e)
        simp [h1, this]
    · rw [List.filter_cons_of_pos (by simp [hp]), tlook, ih, tlook]
      by_cases h1 : p.1 = k
      · have : n ≠ k := fun e => hp (h1.trans e.symm)
        simp [h1, this]
      · simp [h1]
theorem tkeys_drop (L : Tl) (n : Int) : tkeys (tlDrop L n) = (tkeys L).filter (· ≠ n) := by
  unfold tkeys tlDrop
  rw [List.filter_map]
  rfl
theorem TlOk.drop {L : Tl} (h : TlOk L) (n : Int) : TlOk (tlDrop L n) :=
  ⟨by rw [tkeys_drop]; exact h.1.filter _, Nat.le_trans (List.length_filter_le _ _) h.2⟩
theorem nodup_snoc {L : Tl} (h : (tkeys L).Nodup) {n : Int} (x : Int × Bool) (hn : tlook L n = none) : (tkeys (L ++ [(n, x)])).Nodup := by
  simp only [tkeys, List.map_append, List.map_cons, List.map_nil]
  rw [List.nodup_append]
  refine ⟨h, by simp, fun a ha b hb => ?_⟩
  simp only [List.mem_singleton] at hb
  subst hb
  rintro rfl
  exact tlook_none.1 hn ha
theorem TlOk.add {L : Tl} (h : TlOk L) {n : Int} (x : Int × Bool) (hn : tlook L n = none) : TlOk (tlAdd L n x) := by
  have hd := nodup_snoc h.1 x hn
  have hl := h.2
  unfold tlAdd
  split
  · refine ⟨?_, by simp; omega⟩
    simp only [tkeys, List.map_drop]
    exact hd.sublist (List.drop_sublist _ _)
  · rename_i hlt
    exact ⟨hd, by omega⟩

/-- The program's TLB at block 'b'. -/
def TlbP (w : World) (b : Nat) (L : Tl) (F : List Nat) : Prop :=
  ∃ (m : Nat) (a : Option Addr) (l c : Nat) (kv : KV) (G : List Nat) (T : TypeId), w.heap[b]? = some (.cells #[.map (some m), .slice a l c] T (0, 0)) ∧ MapP w m kv ∧ SlB w a l c 1 (i64s (tkeys L)) G ∧ (∀ k, mlook kv k = (tlook L k).map pv) ∧ TlOk L ∧
    b ≠ m ∧ b ∉ G ∧ m ∉ G ∧ F = b :: m :: G

theorem TlbP.keep {w w' : World} {b : Nat} {L : Tl} {F : List Nat} (h : TlbP w b L F) (hk : ∀ b ∈ F, w'.heap[b]? = w.heap[b]?) : TlbP w' b L F := by
  obtain ⟨m, a, l, c, kv, G, T, h1, h2, h3, h4, h5, h6, h7, h8, rfl⟩ := h
  exact ⟨m, a, l, c, kv, G, T, (hk b (by simp)).trans h1, h2.keep (hk m (by simp)), h3.keep fun x hx => hk x (by simp [hx]), h4, h5, h6, h7, h8, rfl⟩
theorem TlbP.lt {w : World} {b : Nat} {L : Tl} {F : List Nat} (h : TlbP w b L F) : ∀ x ∈ F, x < w.heap.size := by
  obtain ⟨m, a, l, c, kv, G, T, h1, h2, h3, h4, h5, h6, h7, h8, rfl⟩ := h
  intro x hx
  simp only [List.mem_cons] at hx
  rcases hx with rfl | rfl | hx
  · exact lt_of_get h1
  · exact h2.lt
  · exact h3.lt x hx
theorem TlbP.ok {w : World} {b : Nat} {L : Tl} {F : List Nat} (h : TlbP w b L F) : TlOk L := by
  obtain ⟨m, a, l, c, kv, G, T, h1, h2, h3, h4, h5, -⟩ := h
  exact h5

theorem tlb_new (w : World) {K : Value → World → Prop} (h : ∀ (b : Nat) (F : List Nat) (w' : World), TlbP w' b [] F → Mod [] w w' → Beyond w.heap.size F → K (.pointer (some ⟨b, 0, none⟩)) w') : CallsR Try.prog F_mmu_NewTlb #[] w K := by
  apply R_mmu_NewTlb_ok
  simp only [R_mmu_NewTlb, newK_eq]
  have m1 := MapP.new w
  have e1 := alloc_size w (.map #[] 0)
  have hm : Mod [] w (w.alloc (.map #[] 0)) := (Mod.refl _ _).alloc _
  generalize w.alloc (.map #[] 0) = w1 at m1 e1 hm ⊢
  exact h _ [w1.heap.size, w.heap.size] _ ⟨w.heap.size, none, 0, 0, [], [], _, alloc_new w1 _, m1.keep (alloc_old _ (by omega)), SlB.nil _ 1, fun k => rfl, ⟨by simp [tkeys], by simp⟩, by omega, by simp, by simp, rfl⟩ (hm.alloc _) (by intro b hb; simp at hb; omega)

theorem tlb_flush {w : World} {b : Nat} {L : Tl} {F : List Nat} (h : TlbP w b L F) {K : Value → World → Prop} (hK : ∀ w' F', TlbP w' b [] F' → Mod F w w' → Own w F F' → K (.tuple #[]) w') :
    CallsR Try.prog F_mmu_Tlb_Flush #[.pointer (some ⟨b, 0, none⟩)] w K := by
  apply R_mmu_Tlb_Flush_ok
  simp only [R_mmu_Tlb_Flush, newK_eq, Option.isNone_some, Bool.not_false, spl_true, nilK_some, addr_add]
  obtain ⟨m, a, l, c, kv, G, T, h1, h2, h3, h4, h5, h6, h7, h8, rfl⟩ := h
  have hlt := lt_of_get h1
  have m1 := MapP.new w
  have e1 := alloc_size w (.map #[] 0)
  have hm : Mod [] w (w.alloc (.map #[] 0)) := (Mod.refl _ _).alloc _
  have hb := alloc_get (.map #[] 0) h1
  generalize w.alloc (.map #[] 0) = w1 at m1 e1 hm hb ⊢
  refine stK_of hb (by simp) ?_
  refine stK_of (upd_same hb) (by simp) ?_
  refine hK _ [b, w.heap.size] ⟨w.heap.size, none, 0, 0, [], [], T, by rw [upd_same (upd_same hb)]; simp, m1.keep (by rw [upd_ne _ (by omega), upd_ne _ (by omega)]), SlB.nil _ 1, fun k => rfl, ⟨by simp [tkeys], by simp⟩, by omega, by simp, by simp, rfl⟩ ((hm.of0.upd (.inl (by simp)) _).upd (.inl (by simp)) _) (fun x hx => ?_)
  simp only [List.mem_cons, List.not_mem_nil, or_false] at hx
  rcases hx with rfl | rfl
  · exact .inl (by simp)
  · exact .inr (Nat.le_refl _)

theorem tlb_pages {w : World} {b : Nat} {L : Tl} {F : List Nat} (h : TlbP w b L F) {K : Value → World → Prop} (hK : ∀ A N C G w', SlB w' A N C 1 (i64s (tkeys L)) G → Beyond w.heap.size G → Mod [] w w' → K (.slice A N C) w') :
    CallsR Try.prog F_mmu_Tlb_Pages #[.pointer (some ⟨b, 0, none⟩)] w K := by
  apply R_mmu_Tlb_Pages_ok
  simp only [R_mmu_Tlb_Pages, Option.isNone_some, spl_false, nilK_some, addr_add]
  obtain ⟨m, a, l, c, kv, G, T, h1, h2, h3, h4, h5, h6, h7, h8, rfl⟩ := h
  have hl := h3.i64
  have hle := h5.2
  have : (tkeys L).length = L.length := by simp [tkeys]
  refine ⟨a, l, c, by rw [cell_get h1]; rfl, ?_⟩
  refine push_rd_K slT_int (by decide) (SlB.nil w 1) (by simp [Beyond]) (Mod.refl [] w) h3.rd (i64s_cell _) (by omega) (by omega) fun A' C' w' G' hs' hG' hm' _ _ => ⟨_, _, _, rfl, ?_⟩
  rw [Nat.zero_add] at hs' ⊢
  exact hK A' l C' G' w' hs' hG' hm'

theorem tlb_drop {w : World} {b : Nat} {L : Tl} {F : List Nat} (h : TlbP w b L F) (n : Int) {K : Value → World → Prop} (hK : ∀ w' F', TlbP w' b (tlDrop L n) F' → Mod F w w' → Own w F F' → K (.tuple #[]) w') :
    CallsR Try.prog F_mmu_Tlb_Drop #[.pointer (some ⟨b, 0, none⟩), .int .i64 n] w K := by
  apply R_mmu_Tlb_Drop_ok
  simp only [R_mmu_Tlb_Drop, Option.isNone_some, spl_false, nilK_some, addr_add, spl_decide, spl_bne, newK_eq]
  obtain ⟨m, a, l, c, kv, G, T, h1, h2, h3, h4, h5, h6, h7, h8, rfl⟩ := h
  have hl := h3.i64
  have hle := h5.2
  have hkl : (tkeys L).length = L.length := by simp [tkeys]
  refine ⟨some m, by rw [cell_get h1]; rfl, ?_⟩
  refine delete_K mapT_api_Page h2 fun w1 hm1 hmod1 => ⟨rfl, ?_⟩
  have hb1 := hmod1.get h1 (by simpa using h6)
  have hs1 := h3.mod hmod1 (fun x hx => by simp only [List.mem_singleton]; rintro rfl; exact h8 hx)
  have hblt := lt_of_get hb1
  have hmlt := hm1.lt
  refine ⟨a, l, c, by rw [cell_get hb1]; rfl, ?_⟩
  refine ⟨fun k A N C i w' => ∃ (j : Nat) (G' : List Nat), i = j ∧ j ≤ l ∧ k = l - j ∧ SlB w' A N C 1 (i64s (((tkeys L).take j).filter (· ≠ n))) G' ∧ Beyond w1.heap.size G' ∧ Mod [] w1 w', ⟨l, 0, [], rfl, by omega, rfl, SlB.nil _ 1, by simp [Beyond], Mod.refl _ _⟩, ?_⟩
  rintro k A N C i - w2 ⟨j, G', rfl, hj, rfl, hs2, hG2, hm2⟩
  refine ⟨fun hlt => ?_, fun hge => ?_⟩
  · obtain ⟨ad, x, rfl, hx, hcx, -, -⟩ := (hs1.rd.mod0 hm2).i64at (k := j) (by omega)
    have e : ((tkeys L).take (j + 1)).filter (· ≠ n) = ((tkeys L).take j).filter (· ≠ n) ++ [x].filter (· ≠ n) := by
      rw [List.take_add_one, hx]; simp
    have hl2 := hs2.i64
    have hfl := List.length_filter_le (· ≠ n) ((tkeys L).take j)
    rw [List.length_take] at hfl
    refine ⟨fun A' N' C' w' => ∃ G', SlB w' A' N' C' 1 (i64s (((tkeys L).take (j + 1)).filter (· ≠ n))) G' ∧ Beyond w1.heap.size G' ∧ Mod [] w1 w', ?_, ?_⟩
    · rintro A' N' C' - w3 ⟨G3, hs3, hG3, hm3⟩
      exact ⟨l - (j + 1), by omega, j + 1, G3, by rw [w64 (by omega) (by omega)]; omega, by omega, rfl, hs3, hG3, hm3⟩
    simp only [nilK_some, Int.toNat_natCast]
    refine ⟨⟨by omega, by omega⟩, x, hcx, fun hne => ?_, fun heq => ?_⟩
    · refine push_K slT_int (by decide) hs2 hG2 hm2 (us := [.int .i64 x]) rfl (by simp [isCell]) (by omega) (by omega) fun A' C' w5 G' hs' hG' hm' _ _ => ⟨_, _, _, rfl, G', ?_, hG', hm'⟩
      rw [e, i64s_append, List.filter_cons_of_pos (by simpa using hne)]
      exact hs'
    · refine ⟨G', ?_, hG2, hm2⟩
      rw [e, List.filter_cons_of_neg (by simpa using heq)]
      simpa using hs2
  · have hjl : j = l := by omega
    subst hjl
    rw [List.take_of_length_le (by omega), ← tkeys_drop] at hs2
    have hb2 := hm2.get hb1 (by simp)
    have hm2m := hm1.keep (hm2.keep m hmlt (by simp))
    have hGlt := hG2
    refine stK_of hb2 (by simp) ?_
    refine hK _ (b :: m :: G') ⟨m, A, N, C, _, G', T, by rw [upd_same hb2]; simp, hm2m.keep (upd_ne _ h6), hs2.keep fun x hx => upd_ne _ (by rintro rfl; have := hG2 _ hx; omega), fun k => ?_, h5.drop n, h6, fun hx => by have := hG2 _ hx; omega, fun hx => by have := hG2 _ hx; omega, rfl⟩
      (((hmod1.mono (by simp)).trans' hm2.of0).upd (.inl (by simp)) _) (fun x hx => ?_)
    · obtain ⟨es, cl, _, _, hnd⟩ := h2
      rw [mlook_mdel hnd, tlook_drop, h4]
      split <;> rfl
    · simp only [List.mem_cons] at hx
      rcases hx with rfl | rfl | hx
      · exact .inl (by simp)
      · exact .inl (by simp)
      · exact .inr (Nat.le_trans hmod1.size (hG2 x hx))

theorem tlb_walk {w : World} {b : Nat} {L : Tl} {F : List Nat} (h : TlbP w b L F) {p : Nat} {t : Tb} {H : List Nat} (ht : TblP w p t H) (hd : ∀ x ∈ F, x ∉ H) {addr : Int} (h0 : 0 ≤ addr) (wr : Bool) {K : Value → World → Prop}
    (hK : ∀ w' F', TlbP w' b (tlWalk t L addr wr).1 F' → Mod F w w' → Own w F F' →
      K (.tuple #[.int .i64 (tlWalk t L addr wr).2.1.1, .int .i64 (tlWalk t L addr wr).2.1.2.1, .int .i64 (tlWalk t L addr wr).2.1.2.2, .bool (tlWalk t L addr wr).2.2]) w') :
    CallsR Try.prog F_mmu_Tlb_Walk #[.pointer (some ⟨b, 0, none⟩), .pointer (some ⟨p, 0, none⟩), .int .u64 addr, .bool wr] w K := by
  apply R_mmu_Tlb_Walk_ok
  simp only [R_mmu_Tlb_Walk, Option.isNone_some, spl_false, nilK_some, addr_add, spl_decide, newK_eq, drK_eq]
  refine ⟨fun hge => ?_, fun hlt => ⟨by decide, ?_⟩⟩
  · have := hK w F (by unfold tlWalk; rw [if_pos (show 128 ≤ addr from hge)]; exact h) (Mod.refl _ _) (Own.refl _ _)
    unfold tlWalk at this
    rwa [if_pos (show 128 ≤ addr from hge)] at this
  have ha : addr < 128 := by omega
  rw [pg h0 ha]
  unfold tlWalk at hK
  rw [if_neg (by omega)] at hK
  have hh := h
  obtain ⟨m, a, l, c, kv, G, T, h1, h2, h3, h4, h5, h6, h7, h8, rfl⟩ := h
  have hl := h3.i64
  have hkl : (tkeys L).length = L.length := by simp [tkeys]
  have hle := h5.2
  refine ⟨some m, by rw [cell_get h1]; rfl, ?_⟩
  refine lookup_K mapT_api_Page h2 ?_
  rw [h4]
  refine ⟨(pz (tlook L (addr / 32))).1, (pz (tlook L (addr / 32))).2, (tlook L (addr / 32)).isSome, by cases tlook L (addr / 32) <;> rfl, ?_⟩
  refine stK_of (alloc_new _ _) (by simp) ?_
  simp only [splice_cons, splice_nil]
  obtain ⟨bn, hbn⟩ : ∃ bn, bn = w.heap.size := ⟨_, rfl⟩
  have hm1 : Mod [] w ((w.alloc (.cells #[.int .i64 0, .bool false] 24)).upd w.heap.size (.cells ((#[.int .i64 0, .bool false] : Array Value).setIfInBounds 0 (.int .i64 (pz (tlook L (addr / 32))).1) |>.setIfInBounds (0 + 1) (.bool (pz (tlook L (addr / 32))).2)) 24 (0, 0))) := ((Mod.refl [] w).alloc _).upd (.inr (Nat.le_refl _)) _
  have hn1 := upd_same (x := .cells ((#[.int .i64 0, .bool false] : Array Value).setIfInBounds 0 (.int .i64 (pz (tlook L (addr / 32))).1) |>.setIfInBounds (0 + 1) (.bool (pz (tlook L (addr / 32))).2)) 24 (0, 0)) (alloc_new w (.cells #[.int .i64 0, .bool false] 24))
  generalize (w.alloc _).upd _ _ = w1 at hm1 hn1 ⊢
  rw [← hbn] at hn1 ⊢
  have hbnF : bn ∉ b :: m :: G := fun hx => by have := hh.lt _ hx; omega
  have hbnlt := lt_of_get hn1
  have hbw : w.heap.size ≤ bn := by omega
  refine ⟨fun w' => ∃ (x : Int × Bool) (F' : List Nat) (L' : Tl), w'.cell? ⟨bn, 0, none⟩ = some (.int .i64 x.1) ∧ w'.cell? ⟨bn, 1, none⟩ = some (.bool x.2) ∧ TlbP w' b L' F' ∧ Mod (b :: m :: G) w w' ∧ Own w (b :: m :: G) F' ∧
      tlIn t L addr wr = (L', use3 x addr wr, (tlook L (addr / 32)).isSome), ?_, ?_⟩
  · rintro - w2 ⟨x, F', L', c0, c1, hL', hm2, ho2, hres⟩
    refine ⟨x.1, x.2, ⟨c0, c1⟩, ?_⟩
    refine mmu_use x h0 ha wr fun w3 hm3 => ⟨_, _, _, rfl, ?_⟩
    rw [hres] at hK
    exact hK w3 F' (hL'.keep (hm3.at0 hL'.lt)) (hm2.trans' hm3.of0) ho2
  cases hlk : tlook L (addr / 32) with
  | some x =>
    rw [hlk] at hn1
    exact spl_t rfl ⟨x, b :: m :: G, L, by rw [cell_get hn1]; rfl, by rw [cell_get hn1]; rfl, hh.keep (hm1.at0 hh.lt), hm1.of0, Own.refl _ _, tlIn_hit wr hlk⟩
  | none =>
    refine spl_f rfl ?_
    refine mmu_at (ht.keep (hm1.at0 ht.lt)) (addr / 32) fun w2 hm12 => ⟨_, _, _, rfl, ?_⟩
    have hm2 := hm1.trans' hm12
    have hn2 := hm12.get hn1 (by simp)
    refine stK_of hn2 (by simp) ?_
    simp only [splice_cons, splice_nil]
    cases htt : t (addr / 32) with
    | none =>
      rw [tlIn_no wr hlk htt] at hK
      exact spl_f rfl (hK _ (b :: m :: G) (hh.keep ((hm2.upd (.inr hbw) _).at0 hh.lt)) ((hm2.upd (.inr hbw) _).of0) (Own.refl _ _))
    | some x =>
      refine spl_t rfl ?_
      have hn3 := upd_same (x := .cells ((((#[.int .i64 0, .bool false] : Array Value).setIfInBounds 0 (.int .i64 (pz (tlook L (addr / 32))).1)).setIfInBounds (0 + 1) (.bool (pz (tlook L (addr / 32))).2)).setIfInBounds 0 (.int .i64 (pz (some x)).1) |>.setIfInBounds (0 + 1) (.bool (pz (some x)).2)) 24 (0, 0)) hn2
      have hm3 := hm2.upd (.inr hbw) (.cells ((((#[.int .i64 0, .bool false] : Array Value).setIfInBounds 0 (.int .i64 (pz (tlook L (addr / 32))).1)).setIfInBounds (0 + 1) (.bool (pz (tlook L (addr / 32))).2)).setIfInBounds 0 (.int .i64 (pz (some x)).1) |>.setIfInBounds (0 + 1) (.bool (pz (some x)).2)) 24 (0, 0))
      generalize w2.upd _ _ = w3 at hn3 hm3 ⊢
      -- from here on: the world 'w3', and its cells
      have hb3 := hm3.get h1 (by simp)
      have hmp3 := h2.keep (hm3.keep m h2.lt (by simp))
      have hs3 := h3.keep (hm3.at0 h3.lt)
      have hbm : bn ≠ m := fun e => hbnF (by simp [e])
      have hbb : bn ≠ b := fun e => hbnF (by simp [e])
      have hbG : bn ∉ G := fun e => hbnF (by simp [e])
      have hbd : w3.drew.heap[b]? = some _ := hb3
      have hnd : w3.drew.heap[bn]? = some _ := hn3
      refine ⟨some m, by rw [cell_get hbd]; rfl, x.1, x.2, ⟨by rw [cell_get hnd]; rfl, by rw [cell_get hnd]; rfl⟩, ?_⟩
      refine mapUpdate_K mapT_api_Page (hmp3.keep (w' := w3.drew) rfl) fun w4 hmp4 hmod4 => ?_
      have hb4 := hmod4.get hbd (by simpa using h6)
      have hn4 := hmod4.get hnd (by simpa using hbm)
      have hs4 : SlB w4 a l c 1 _ G := (hs3.keep (w' := w3.drew) fun _ _ => rfl).mod hmod4 (fun x hx => by simp only [List.mem_singleton]; rintro rfl; exact h8 hx)
      have hm4 : Mod (b :: m :: G) w w4 := (hm3.of0.drew).trans' (hmod4.mono (by simp))
      refine ⟨a, l, c, by rw [cell_get hb4]; rfl, ?_⟩
      refine grow_K slT_int (by decide) hs4 (us := [.int .i64 (addr / 32)]) (n := 1) rfl (by simp [isCell]) (by omega) (by omega) fun A C' w5 G5 hs5 hmod5 ho5 => ⟨_, _, _, rfl, ?_⟩
      have hb5 := hmod5.get hb4 h7
      have hn5 := hmod5.get hn4 hbG
      have hmp5 := hmp4.keep (hmod5.keep m hmp4.lt h8)
      have hm5 : Mod (b :: m :: G) w w5 := hm4.trans' (hmod5.mono (by simp +contextual))
      have hw4 := hm4.size
      have hblt := lt_of_get h1
      have hmlt := h2.lt
      have hGlt := h3.lt
      have hb5G : b ∉ G5 := fun hx => by
        rcases ho5 b hx with h | h
        · exact h7 h
        · omega
      have hm5G : m ∉ G5 := fun hx => by
        rcases ho5 m hx with h | h
        · exact h8 h
        · omega
      have hn5G : bn ∉ G5 := fun hx => by
        rcases ho5 bn hx with h | h
        · exact hbG h
        · have := lt_of_get hn4; omega
      have hG5 : ∀ y ∈ G5, y ∈ b :: m :: G ∨ w.heap.size ≤ y := fun y hy => by
        rcases ho5 y hy with h | h
        · exact .inl (by simp [h])
        · exact .inr (by omega)
      refine stK_of hb5 (by simp) ?_
      simp only [splice_cons, splice_nil]
      have hb6 := upd_same (x := .cells (#[.map (some m), .slice a l c].setIfInBounds (0 + 1) (.slice A (l + 1) C')) T (0, 0)) hb5
      have hm6 := hm5.upd (b := b) (.inl (by simp)) (.cells (#[.map (some m), .slice a l c].setIfInBounds (0 + 1) (.slice A (l + 1) C')) T (0, 0))
      have kx : ∀ y, b ≠ y → (w5.upd b (.cells (#[.map (some m), .slice a l c].setIfInBounds (0 + 1) (.slice A (l + 1) C')) T (0, 0))).heap[y]? = w5.heap[y]? := fun y hy => upd_ne _ hy
      generalize w5.upd _ _ = w6 at hb6 hm6 kx ⊢
      have hn6 := (kx bn (Ne.symm hbb)).trans hn5
      have hmp6 := hmp5.keep (kx m h6)
      have hs6 : SlB w6 A (l + 1) C' 1 (i64s (tkeys (L ++ [(addr / 32, x)]))) G5 := by
        have := hs5.keep (w' := w6) fun y hy => kx y (by rintro rfl; exact hb5G hy)
        rw [tkeys, List.map_append]
        rw [show i64s (List.map (·.1) L ++ List.map (·.1) [(addr / 32, x)]) = i64s (tkeys L) ++ [.int .i64 (addr / 32)] by rw [i64s_append]; rfl]
        exact this
      have hlook : ∀ k, mlook (mput kv (addr / 32) (.agg #[.int .i64 x.1, .bool x.2])) k = (tlook (L ++ [(addr / 32, x)]) k).map pv := fun k => by
        rw [mlook_mput, tlook_snoc L _ x hlk, h4]
        split <;> rfl
      have hnd6 := nodup_snoc h5.1 x hlk
      refine ⟨A, l + 1, C', by rw [cell_get hb6]; rfl, fun hgt => ?_, fun hle2 => ?_⟩
      · have hbd6 : w6.drew.heap[b]? = some _ := hb6
        have hL1 : 1 ≤ L.length := by omega
        refine ⟨some m, by rw [cell_get hbd6]; rfl, A, l + 1, C', by rw [cell_get hbd6]; rfl, ?_⟩
        have hs6d := hs6.keep (w' := w6.drew) fun _ _ => rfl
        obtain ⟨ad, y, rfl, hy, hcy, -, -⟩ := hs6d.rd.i64at (k := 0) (by omega)
        rw [nilK_some]
        refine ⟨⟨by omega, by omega⟩, y, by simpa using hcy, ?_⟩
        refine delete_K mapT_api_Page (hmp6.keep (w' := w6.drew) rfl) fun w7 hmp7 hmod7 => ⟨rfl, ?_⟩
        have hb7 := hmod7.get hbd6 (by simpa using h6)
        have hn7 := hmod7.get (show w6.drew.heap[bn]? = _ from hn6) (by simpa using hbm)
        have hs7 : SlB w7 (some ad) (l + 1) C' 1 _ G5 := hs6d.mod hmod7 (fun x hx => by simp only [List.mem_singleton]; rintro rfl; exact hm5G hx)
        have hm7 : Mod (b :: m :: G) w w7 := (hm6.drew).trans' (hmod7.mono (by simp))
        refine ⟨some ad, l + 1, C', by rw [cell_get hb7]; rfl, ?_⟩
        refine slK_rd hs7.rd hs7.le (L := 1) (H := l + 1) (.inl rfl) (.inr ⟨rfl, rfl⟩) (by omega) (Nat.le_refl _) fun a8 G8 hr8 hG8 => ?_
        refine grow_rd_K slT_int (by decide) (SlB.nil w7 1) hr8 (fun u hu => i64s_cell _ u (List.mem_of_mem_drop (List.mem_of_mem_take hu))) (by omega) (by omega) fun A9 C9 w9 G9 hs9 hmod9 ho9 => ⟨_, _, _, rfl, ?_⟩
        have e9 : 0 + (l + 1 - 1) = l := by omega
        rw [e9] at hs9 ⊢
        have hb9 := hmod9.get hb7 (by simp)
        have hn9 := hmod9.get hn7 (by simp)
        have hmp9 := hmp7.keep (hmod9.keep m hmp7.lt (by simp))
        have hG9 : ∀ y ∈ G9, w7.heap.size ≤ y := fun y hy => (ho9 y hy).resolve_left (by simp)
        have hb9G : b ∉ G9 := fun hx => by have := hG9 b hx; have := lt_of_get hb7; omega
        have hm9G : m ∉ G9 := fun hx => by have := hG9 m hx; have := hmp7.lt; omega
        refine stK_of hb9 (by simp) ?_
        simp only [splice_cons, splice_nil]
        refine ⟨x, b :: m :: G9, tlAdd L (addr / 32) x, ?_, ?_, ⟨m, A9, l, C9, _, G9, T, by rw [upd_same hb9]; rfl, hmp9.keep (upd_ne _ h6), ?_, fun k => ?_, h5.add x hlk, h6, hb9G, hm9G, rfl⟩, (hm7.trans' hmod9.of0).upd (.inl (by simp)) _, fun y hy => ?_, ?_⟩
        · rw [cell_get ((upd_ne _ (Ne.symm hbb)).trans hn9)]; rfl
        · rw [cell_get ((upd_ne _ (Ne.symm hbb)).trans hn9)]; rfl
        · have e : tkeys (tlAdd L (addr / 32) x) = (tkeys (L ++ [(addr / 32, x)])).drop 1 := by
            unfold tlAdd
            rw [if_pos (by simp; omega)]
            simp [tkeys]
          rw [e]
          have := hs9.keep (w' := w9.upd b (.cells ((#[.map (some m), .slice a l c].setIfInBounds (0 + 1) (.slice (some ad) (l + 1) C')).setIfInBounds (0 + 1) (.slice A9 l C9)) T (0, 0))) fun y hy => upd_ne _ (by rintro rfl; exact hb9G hy)
          rw [List.nil_append, show 1 * 1 = 1 from rfl, show (l + 1 - 1) * 1 = l by omega, i64s_drop, i64s_take, List.take_of_length_le (by simp [tkeys]; omega)] at this
          exact this
        · obtain ⟨es, cl, _, _, hndk⟩ := hmp6
          rw [mlook_mdel hndk, hlook]
          have e : tlAdd L (addr / 32) x = (L ++ [(addr / 32, x)]).drop 1 := by
            unfold tlAdd; rw [if_pos (by simp; omega)]
          rw [e]
          cases hc : L ++ [(addr / 32, x)] with
          | nil => simp at hc
          | cons q qs =>
            rw [hc] at hnd6
            have hyq : y = q.1 := by
              rw [hc] at hy
              simpa [tkeys] using hy.symm
            rw [hyq, List.drop_one, List.tail_cons, tlook_tail hnd6 k]
            split <;> rfl
        · simp only [List.mem_cons] at hy
          rcases hy with rfl | rfl | hy
          · exact .inl (by simp)
          · exact .inl (by simp)
          · have := hG9 y hy; have := hm7.size; exact .inr (by omega)
        · exact tlIn_add wr hlk htt
      · have hL1 : L.length < 2 := by omega
        have e : tlAdd L (addr / 32) x = L ++ [(addr / 32, x)] := by
          unfold tlAdd; rw [if_neg (by simp; omega)]
        refine ⟨x, b :: m :: G5, tlAdd L (addr / 32) x, by rw [cell_get hn6]; rfl, by rw [cell_get hn6]; rfl, ⟨m, A, l + 1, C', _, G5, T, hb6, hmp6, by rw [e]; exact hs6, fun k => by rw [e]; exact hlook k, h5.add x hlk, h6, hb5G, hm5G, rfl⟩, hm6, fun y hy => ?_, tlIn_add wr hlk htt⟩
        simp only [List.mem_cons] at hy
        rcases hy with rfl | rfl | hy
        · exact .inl (by simp)
        · exact .inl (by simp)
        · exact hG5 y hy

end Go.Proofs
