/-
  Memory: contracts of the reference's memory.
  Memory: a new one of the reference's.
  Memory of the reference: a frame's words, handed out.
  Tables: contracts of the reference's page table, wherever in a block it lies.
  Memory of the reference as a part; its contracts, as the plain functions say them.
-/
import Derived.Test.YthpcakhhemdibaaGreatMemA
import Derived.Test.YthpcakhhemdibaaGreatK9A
set_option linter.unusedVariables false
set_option linter.unusedSimpArgs false
namespace Go.Proofs
open Go Go.Den

/-- The row of a block. -/
def rowOf (q : Nat) : Value := .slice (some ⟨q, 0, none⟩) 32 32

/-- The reference's memory at block 'p'. -/
def MemR (w : World) (p : Nat) (bs : List (List Int)) (F : List Nat) : Prop :=
  ∃ (T : TypeId) (a : Option Addr) (c : Nat) (R qs : List Nat), w.heap[p]? = some (.cells #[.slice a bs.length c] T (0, 0)) ∧ SlB w a bs.length c 1 (qs.map rowOf) R ∧
    (∀ (i q : Nat) (b : List Int), qs[i]? = some q → bs[i]? = some b → SlB w (some ⟨q, 0, none⟩) 32 32 1 (u64s b) [q]) ∧ qs.Nodup ∧ p ∉ R ∧ p ∉ qs ∧ (∀ x ∈ R, x ∉ qs) ∧ F = p :: (R ++ qs) ∧ All32 bs ∧ bs.length ≤ 1024

theorem MemR.qlen {w : World} {a : Option Addr} {n c : Nat} {qs R : List Nat} (h : SlB w a n c 1 (qs.map rowOf) R) : qs.length = n := by
  have := h.length
  simpa using this

theorem MemR.keep {w w' : World} {p : Nat} {bs : List (List Int)} {F : List Nat} (h : MemR w p bs F) (hk : ∀ b ∈ F, w'.heap[b]? = w.heap[b]?) : MemR w' p bs F := by
  obtain ⟨T, a, c, R, qs, h1, h2, h3, h4, h5, h6, h7, rfl, h8⟩ := h
  refine ⟨T, a, c, R, qs, (hk p (by simp)).trans h1, h2.keep (fun b hb => hk b (by simp [hb])), fun i q b hq hb => (h3 i q b hq hb).keep fun x hx => ?_, h4, h5, h6, h7, rfl, h8⟩
  simp only [List.mem_singleton] at hx
  subst hx
  exact hk x (by simp [List.mem_of_getElem? hq])
theorem MemR.lt {w : World} {p : Nat} {bs : List (List Int)} {F : List Nat} (h : MemR w p bs F) : ∀ b ∈ F, b < w.heap.size := by
  obtain ⟨T, a, c, R, qs, h1, h2, h3, h4, h5, h6, h7, rfl, h8⟩ := h
  have hl := MemR.qlen h2
  intro b hb
  simp only [List.mem_cons, List.mem_append] at hb
  rcases hb with rfl | hb | hb
  · exact lt_of_get h1
  · exact h2.lt b hb
  · obtain ⟨i, hi, rfl⟩ := List.getElem_of_mem hb
    exact (h3 i qs[i] bs[i] (List.getElem?_eq_getElem hi) (List.getElem?_eq_getElem (by omega))).lt _ (by simp)
theorem MemR.all {w : World} {p : Nat} {bs : List (List Int)} {F : List Nat} (h : MemR w p bs F) : All32 bs := by
  obtain ⟨T, a, c, R, qs, h1, h2, h3, h4, h5, h6, h7, rfl, h8, h9⟩ := h
  exact h8

/-- A frame of the reference's memory. -/
theorem MemR.row {w : World} {p : Nat} {bs : List (List Int)} {F : List Nat} (h : MemR w p bs F) {k : Nat} (hk : k < bs.length) :
    ∃ (T : TypeId) (ad : Addr) (c q : Nat), w.heap[p]? = some (.cells #[.slice (some ad) bs.length c] T (0, 0)) ∧ w.cell? (Addr.add ad k) = some (.slice (some ⟨q, 0, none⟩) 32 32) ∧ SlB w (some ⟨q, 0, none⟩) 32 32 1 (u64s bs[k]) [q] ∧ q ∈ F ∧
      ∀ (arr : Array Value) (T2 : TypeId) (j : Nat) (v : Int), j < 32 → w.heap[q]? = some (.cells arr T2 (0, 0)) → MemR (w.upd q (.cells (arr.setIfInBounds j (.int .u64 v)) T2 (0, 0))) p (bs.set k (bs[k].set j v)) F := by
  obtain ⟨T, a, c, R, qs, h1, h2, h3, h4, h5, h6, h7, rfl, h8, h9⟩ := h
  have hl := MemR.qlen h2
  have hkq : k < qs.length := by omega
  obtain ⟨b, o, rfl, rfl⟩ := h2.isNone (by omega)
  have hq : qs[k]? = some qs[k] := List.getElem?_eq_getElem hkq
  have hrow := h3 k qs[k] bs[k] hq (List.getElem?_eq_getElem hk)
  have hqm : qs[k] ∈ qs := List.getElem_mem hkq
  refine ⟨T, ⟨b, o, none⟩, c, qs[k], h1, ?_, hrow, by simp [hqm], ?_⟩
  · have := h2.cell (i := k) (by simpa using hkq)
    rw [this, List.getElem?_map, hq]
    rfl
  · intro arr T2 j v hj harr
    have hbl : bs[k].length = 32 := h8 _ (List.getElem_mem hk)
    have ne : ∀ x, x ≠ qs[k] → (w.upd qs[k] (.cells (arr.setIfInBounds j (.int .u64 v)) T2 (0, 0))).heap[x]? = w.heap[x]? := fun x hx => upd_ne _ (Ne.symm hx)
    refine ⟨T, some ⟨b, o, none⟩, c, [b], qs, ?_, ?_, ?_, h4, h5, h6, h7, rfl, h8.set k (by simp [hbl]), by simpa using h9⟩
    · rw [ne p (fun h => h6 (h ▸ hqm)), List.length_set]
      exact h1
    · rw [List.length_set]
      exact h2.keep fun x hx => ne x fun h => h7 x hx (h ▸ hqm)
    · intro i q b' hq' hb'
      rw [List.getElem?_set] at hb'
      by_cases hik : k = i
      · subst hik
        rw [if_pos rfl, if_pos hk] at hb'
        obtain rfl := Option.some.inj hb'
        obtain rfl : qs[k] = q := Option.some.inj (hq.symm.trans hq')
        have := hrow.set harr (j := j) (by rw [u64s_length]; omega) (.int .u64 v)
        rw [Nat.zero_add, u64s_set] at this
        exact this
      · rw [if_neg hik] at hb'
        refine (h3 i q b' hq' hb').keep fun x hx => ne x ?_
        simp only [List.mem_singleton] at hx
        subst hx
        rintro rfl
        have hi := (List.getElem?_eq_some_iff.1 hq').1
        have hiq := (List.getElem?_eq_some_iff.1 hq').2
        have hpw := List.pairwise_iff_getElem.1 h4
        rcases Nat.lt_or_gt_of_ne hik with hlt | hlt
        · exact hpw k i hkq hi hlt hiq.symm
        · exact hpw i k hi hkq hlt hiq

theorem memr_ptr {w : World} {p : Nat} {bs : List (List Int)} {F : List Nat} (h : MemR w p bs F) : ∃ (T : TypeId) (a : Option Addr) (c : Nat), w.heap[p]? = some (.cells #[.slice a bs.length c] T (0, 0)) := by
  obtain ⟨T, a, c, R, qs, h1, h2⟩ := h
  exact ⟨T, a, c, h1⟩

theorem memr_has {w : World} {p : Nat} {bs : List (List Int)} {F : List Nat} (h : MemR w p bs F) (n : Int) {K : Value → World → Prop} (h0 : n < 0 ∨ (bs.length : Int) ≤ n → K (.bool false) w) (h1 : ∀ k : Nat, n = k → k < bs.length → K (.bool true) w) :
    CallsR Tryz.prog F_janusref01_Mem_has #[.pointer (some ⟨p, 0, none⟩), .int .i64 n] w K := by
  apply R_janusref01_Mem_has_ok
  obtain ⟨T, a, c, hp⟩ := memr_ptr h
  simp only [R_janusref01_Mem_has, spl_decide, nilK_some, addr_add, cell_get hp]
  refine ⟨fun hge => ⟨_, _, _, rfl, ?_⟩, fun h => h0 (by omega)⟩
  obtain ⟨k, rfl⟩ := nat_of (by omega : 0 ≤ n)
  by_cases hk : k < bs.length
  · rw [decide_eq_true (by omega)]
    exact h1 k rfl hk
  · rw [decide_eq_false (by omega)]
    exact h0 (by omega)

theorem memr_read {w : World} {p : Nat} {bs : List (List Int)} {F : List Nat} (h : MemR w p bs F) (n wd : Int) {K : Value → World → Prop} (h0 : n < 0 ∨ (bs.length : Int) ≤ n ∨ wd < 0 ∨ 32 ≤ wd → K (.tuple #[.int .u64 0, .int .i64 101]) w)
    (h1 : ∀ (k j : Nat) (b : List Int) (x : Int), n = k → wd = j → j < 32 → bs[k]? = some b → b[j]? = some x → K (.tuple #[.int .u64 x, .int .i64 0]) w) : CallsR Tryz.prog F_janusref01_Mem_Read #[.pointer (some ⟨p, 0, none⟩), .int .i64 n, .int .i64 wd] w K := by
  apply R_janusref01_Mem_Read_ok
  refine memr_has h n (fun hb => ⟨_, rfl, by simpa using h0 (by omega)⟩) (fun k hn hk => ⟨_, rfl, ?_⟩)
  subst hn
  obtain ⟨T, ad, c, q, hp, hc, hs, -, -⟩ := h.row hk
  have hbl := h.all _ (List.getElem_mem hk)
  simp only [R_janusref01_Mem_Read, spl_true, spl_decide, nilK_some, addr_add, cell_get hp]
  refine ⟨fun h => h0 (by omega), fun hge => ⟨fun h => h0 (by omega), fun hlt => ?_⟩⟩
  obtain ⟨j, rfl⟩ := nat_of (by omega : 0 ≤ wd)
  have hx : (bs[k])[j]? = some bs[k][j] := List.getElem?_eq_getElem (by omega)
  have cc := hs.cell (i := j) (by rw [u64s_length]; omega)
  rw [u64s_get, hx, Option.map_some] at cc
  exact ⟨_, _, _, rfl, ⟨by omega, by omega⟩, _, _, _, hc, ⟨by omega, by omega⟩, _, cc, h1 k j _ _ rfl rfl (by omega) (List.getElem?_eq_getElem hk) hx⟩

theorem memr_write {w : World} {p : Nat} {bs : List (List Int)} {F : List Nat} (h : MemR w p bs F) (n wd v : Int) {K : Value → World → Prop} (h0 : n < 0 ∨ (bs.length : Int) ≤ n ∨ wd < 0 ∨ 32 ≤ wd → K (.int .i64 101) w)
    (h1 : ∀ (k j : Nat) (b : List Int) (w' : World), n = k → wd = j → j < 32 → bs[k]? = some b → MemR w' p (bs.set k (b.set j v)) F → Mod F w w' → K (.int .i64 0) w') : CallsR Tryz.prog F_janusref01_Mem_Write #[.pointer (some ⟨p, 0, none⟩), .int .i64 n, .int .i64 wd, .int .u64 v] w K := by
  apply R_janusref01_Mem_Write_ok
  refine memr_has h n (fun hb => ⟨_, rfl, by simpa using h0 (by omega)⟩) (fun k hn hk => ⟨_, rfl, ?_⟩)
  subst hn
  obtain ⟨T, ad, c, q, hp, hc, hs, hqF, hset⟩ := h.row hk
  simp only [R_janusref01_Mem_Write, spl_true, spl_decide, nilK_some, addr_add, cell_get hp]
  refine ⟨fun h => h0 (by omega), fun hge => ⟨fun h => h0 (by omega), fun hlt => ?_⟩⟩
  obtain ⟨j, rfl⟩ := nat_of (by omega : 0 ≤ wd)
  obtain ⟨arr, T2, hq, hcap, _⟩ := hs.block
  refine ⟨_, _, _, rfl, ⟨by omega, by omega⟩, _, _, _, hc, ⟨by omega, by omega⟩, ?_⟩
  rw [addr_add]
  refine stK_of hq (by simp; omega) ?_
  simp only [splice_cons, splice_nil, Nat.zero_add, Int.toNat_natCast]
  exact h1 k j _ _ rfl rfl (by omega) (List.getElem?_eq_getElem hk) (hset arr T2 j v (by omega) hq) ((Mod.refl _ _).upd (.inl hqF) _)

theorem memr_zero {w : World} {p : Nat} {bs : List (List Int)} {F : List Nat} (h : MemR w p bs F) (n : Int) {K : Value → World → Prop} (h0 : n < 0 ∨ (bs.length : Int) ≤ n → K (.int .i64 101) w)
    (h1 : ∀ (k : Nat) (w' : World), n = k → k < bs.length → MemR w' p (bs.set k (List.replicate 32 0)) F → Mod F w w' → K (.int .i64 0) w') : CallsR Tryz.prog F_janusref01_Mem_Zero #[.pointer (some ⟨p, 0, none⟩), .int .i64 n] w K := by
  apply R_janusref01_Mem_Zero_ok
  refine memr_has h n (fun hb => ⟨_, rfl, by simpa using h0 (by omega)⟩) (fun k hn hk => ⟨_, rfl, ?_⟩)
  subst hn
  have hbl := h.all _ (List.getElem_mem hk)
  simp only [R_janusref01_Mem_Zero, spl_true, spl_decide, nilK_some, addr_add]
  refine ⟨fun m i w' => ∃ j : Nat, i = j ∧ j ≤ 32 ∧ m = 32 - j ∧ MemR w' p (bs.set k (List.replicate j 0 ++ bs[k].drop j)) F ∧ Mod F w w', ⟨32, 0, rfl, by omega, rfl, by simpa using h, Mod.refl _ _⟩, ?_⟩
  rintro m i - w2 ⟨j, rfl, hj, rfl, h2, hm2⟩
  have hk2 : k < (bs.set k (List.replicate j 0 ++ bs[k].drop j)).length := by simpa using hk
  refine ⟨fun hlt => ?_, fun hge => ?_⟩
  · have hj32 : j < 32 := by omega
    obtain ⟨T, ad, c, q, hp, hc, hs, hqF, hset⟩ := h2.row hk2
    rw [List.length_set] at hp
    obtain ⟨arr, T2, hq, hcap, _⟩ := hs.block
    refine ⟨some ad, bs.length, c, by rw [cell_get hp]; rfl, ⟨by omega, by omega⟩, _, _, _, hc, ⟨by omega, by omega⟩, ?_⟩
    rw [addr_add]
    refine stK_of hq (by simp; omega) ?_
    simp only [splice_cons, splice_nil, Nat.zero_add, Int.toNat_natCast]
    have h3 := hset arr T2 j 0 hj32 hq
    rw [List.getElem_set_self, List.set_set] at h3
    refine ⟨32 - (j + 1), by omega, j + 1, by rw [w64 (by omega) (by omega)]; omega, by omega, rfl, ?_, hm2.upd (.inl hqF) _⟩
    have e : (List.replicate j (0 : Int) ++ bs[k].drop j).set j 0 = List.replicate (j + 1) 0 ++ bs[k].drop (j + 1) := by
      rw [List.set_append_right _ _ (by simp), List.length_replicate, Nat.sub_self, List.drop_eq_getElem_cons (by omega), List.set_cons_zero, List.replicate_succ', List.append_assoc]
      rfl
    rwa [e] at h3
  · have : j = 32 := by omega
    subst this
    rw [List.drop_eq_nil_of_le (by omega), List.append_nil] at h2
    exact h1 k w2 rfl hk h2 hm2

theorem memr_copy {w : World} {p : Nat} {bs : List (List Int)} {F : List Nat} (h : MemR w p bs F) (to_ from_ : Int) {K : Value → World → Prop} (h0 : to_ < 0 ∨ (bs.length : Int) ≤ to_ ∨ from_ < 0 ∨ (bs.length : Int) ≤ from_ → K (.int .i64 101) w)
    (h1 : ∀ (t f : Nat) (b : List Int) (w' : World), to_ = t → from_ = f → t < bs.length → bs[f]? = some b → MemR w' p (bs.set t b) F → Mod F w w' → K (.int .i64 0) w') : CallsR Tryz.prog F_janusref01_Mem_Copy #[.pointer (some ⟨p, 0, none⟩), .int .i64 to_, .int .i64 from_] w K := by
  apply R_janusref01_Mem_Copy_ok
  refine memr_has h to_ (fun hb => ⟨_, rfl, by simpa using h0 (by omega)⟩) (fun t hn ht => ⟨_, rfl, ?_⟩)
  subst hn
  rw [spl_true]
  refine memr_has h from_ (fun hb => ⟨_, rfl, by simpa using h0 (by omega)⟩) (fun f hn hf => ⟨_, rfl, ?_⟩)
  subst hn
  have htl := h.all _ (List.getElem_mem ht)
  have hfl := h.all _ (List.getElem_mem hf)
  simp only [spl_true, spl_decide, nilK_some, drK_eq, addr_add]
  refine ⟨fun m i w' => ∃ j : Nat, i = j ∧ j ≤ 32 ∧ m = 32 - j ∧ MemR w' p (bs.set t (bs[f].take j ++ bs[t].drop j)) F ∧ Mod F w w', ⟨32, 0, rfl, by omega, rfl, by simpa using h, Mod.refl _ _⟩, ?_⟩
  rintro m i - w2 ⟨j, rfl, hj, rfl, h2, hm2⟩
  have ht2 : t < (bs.set t (bs[f].take j ++ bs[t].drop j)).length := by simpa using ht
  have hf2 : f < (bs.set t (bs[f].take j ++ bs[t].drop j)).length := by simpa using hf
  refine ⟨fun hlt => ?_, fun hge => ?_⟩
  · have hj32 : j < 32 := by omega
    have h2d : MemR w2.drew p (bs.set t (bs[f].take j ++ bs[t].drop j)) F := h2.keep fun _ _ => rfl
    obtain ⟨T, ad, c, q, hp, hc, hs, hqF, hset⟩ := h2d.row ht2
    obtain ⟨T', ad', c', q', hp', hc', hs', -, -⟩ := h2d.row hf2
    rw [hp] at hp'
    cases hp'
    rw [List.length_set] at hp
    obtain ⟨arr, T2, hq, hcap, _⟩ := hs.block
    have hxj : ((bs.set t (bs[f].take j ++ bs[t].drop j))[f])[j]? = some bs[f][j] := by
      rw [List.getElem_set]
      split
      · rename_i heq
        subst heq
        rw [List.take_append_drop]
        exact List.getElem?_eq_getElem _
      · exact List.getElem?_eq_getElem _
    have cc := hs'.cell (i := j) (by rw [u64s_length]; have := (List.getElem?_eq_some_iff.1 hxj).1; exact this)
    rw [u64s_get, hxj, Option.map_some] at cc
    refine ⟨some ad, bs.length, c, by rw [cell_get hp]; rfl, ⟨by omega, by omega⟩, _, _, _, hc, some ad, bs.length, c, by rw [cell_get hp]; rfl, ⟨by omega, by omega⟩, _, _, _, hc', ⟨by omega, by omega⟩, _, cc, ⟨by omega, by omega⟩, ?_⟩
    rw [addr_add]
    refine stK_of hq (by simp; omega) ?_
    simp only [splice_cons, splice_nil, Nat.zero_add, Int.toNat_natCast]
    have h3 := hset arr T2 j bs[f][j] hj32 hq
    rw [List.getElem_set_self, List.set_set] at h3
    refine ⟨32 - (j + 1), by omega, j + 1, by rw [w64 (by omega) (by omega)]; omega, by omega, rfl, ?_, hm2.drew.upd (.inl hqF) _⟩
    have e : (bs[f].take j ++ bs[t].drop j).set j bs[f][j] = bs[f].take (j + 1) ++ bs[t].drop (j + 1) := by
      rw [List.set_append_right _ _ (by rw [List.length_take]; omega), List.length_take, Nat.min_eq_left (by omega), Nat.sub_self, List.drop_eq_getElem_cons (by omega), List.set_cons_zero, List.take_succ_eq_append_getElem (by omega), List.append_assoc]
      rfl
    rwa [e] at h3
  · have : j = 32 := by omega
    subst this
    rw [List.drop_eq_nil_of_le (by omega), List.append_nil, List.take_of_length_le (by omega)] at h2
    exact h1 t f _ w2 rfl rfl ht (List.getElem?_eq_getElem hf) h2 hm2

end Go.Proofs

set_option linter.unusedSimpArgs false
namespace Go.Proofs
open Go Go.Den

theorem memr_new (n : Int) (w : World) {K : Value → World → Prop} (h0 : n < 1 ∨ 1024 < n → K (.pointer none) w)
    (h1 : ∀ (k p : Nat) (F : List Nat) (w' : World), n = k → 1 ≤ k → k ≤ 1024 → MemR w' p (List.replicate k (List.replicate 32 0)) F → Mod [] w w' → (∀ b ∈ F, w.heap.size ≤ b) → K (.pointer (some ⟨p, 0, none⟩)) w') :
    CallsR Tryz.prog F_janusref01_New #[.int .i64 n] w K := by
  apply R_janusref01_New_ok
  simp only [R_janusref01_New, spl_decide]
  refine ⟨fun h => h0 (.inl h), fun hge => ⟨fun h => h0 (.inr h), fun hle => ?_⟩⟩
  obtain ⟨N, rfl⟩ := nat_of (by omega : 0 ≤ n)
  simp only [newK_eq]
  refine ⟨fun m i wi => ∃ (k : Nat) (F : List Nat), i = k ∧ k ≤ N ∧ m = N - k ∧ MemR wi w.heap.size (List.replicate k (List.replicate 32 0)) F ∧ Mod [] w wi ∧ (∀ b ∈ F, w.heap.size ≤ b), ⟨N, 0, [w.heap.size], rfl, by omega, rfl, ?_, (Mod.refl _ _).alloc _, by simp⟩, ?_⟩
  · exact ⟨_, none, 0, [], [], alloc_new _ _, SlB.nil _ 1, fun i q b hq => by simp at hq, List.nodup_nil, by simp, by simp, by simp, rfl, All32.rep 0, by simp⟩
  · rintro m i _ wi ⟨k, F, rfl, hk, rfl, hd, hm, hF⟩
    refine ⟨fun hlt => ?_, fun hge' => ?_⟩
    · simp only [drK_eq]
      have hlt0 := hd.lt
      obtain ⟨T, a, c, R, qs, hp, hr, hrows, hnd, hpR, hpq, hRq, rfl, h32, hle'⟩ := hd
      simp only [List.length_replicate] at hp hr hle'
      have hql := MemR.qlen hr
      refine ⟨[w.heap.size], by simp, a, k, c, by rw [World.cell?_drew, cell_get hp]; simp, ?_⟩
      obtain ⟨w1, hr1, hs1, hm1⟩ := makeSlice_run slT_u64 wi.drew (k := .i64) (k' := .i64) (l := 32) (c := 32) (Nat.le_refl _) (by omega) (by omega)
      refine ⟨_, _, hr1, _, _, _, rfl, fun b hb => ?_, ?_⟩
      · simp only [List.mem_singleton] at hb; subst hb; exact hm1.keep _ (lt_of_get hp) (by simp)
      have hp1 := hm1.get (b := w.heap.size) (by simpa using hp) (by simp)
      refine ⟨fun b hb => ?_, ?_⟩
      · simp at hb; subst hb; exact (alloc_get _ hp1).trans hp.symm
      refine grow_K slT_Sl_u64 (by decide) (hr.mod (S := []) ((Mod.refl _ wi).drew.trans' hm1) (by simp)) (us := [rowOf wi.drew.heap.size]) rfl (by simp [rowOf, isCell]) (by omega) (by omega) fun a3 c3 w3 R3 hs3 hm3 ho3 => ⟨_, _, _, rfl, ?_⟩
      have hp3 := hm3.get hp1 hpR
      refine stK_of hp3 (by simp) ?_
      simp only [splice_cons, splice_nil]
      have hsz : wi.heap.size ≤ w1.heap.size := hm1.size
      have hm13 : Mod R wi w3 := ((Mod.refl R wi).drew.trans hm1 (by simp)).trans hm3 (fun b hb _ => hb)
      have hw3 : w.heap.size < w3.heap.size := lt_of_get hp3
      have hpw : w.heap.size < wi.heap.size := lt_of_get hp
      have hgood : ∀ x ∈ R3, x ∈ R ∨ w1.heap.size ≤ x := ho3
      have hq1 : wi.heap.size < w1.heap.size := hs1.lt wi.heap.size (by simp)
      have hqlt : ∀ x ∈ qs, x < wi.heap.size := fun x hx => hlt0 x (by simp [hx])
      have hRlt : ∀ x ∈ R, x < wi.heap.size := fun x hx => hlt0 x (by simp [hx])
      refine ⟨N - (k + 1), by omega, k + 1, w.heap.size :: (R3 ++ (qs ++ [wi.heap.size])), by rw [w64 (by omega) (by omega)]; omega, by omega, rfl, ?_, ?_, ?_⟩
      · have hb4 : SlB w3 (some ⟨wi.heap.size, 0, none⟩) 32 32 1 (u64s (List.replicate 32 0)) [wi.heap.size] := by
          have e : zrow (.int .u64 0) (32 * 1) = u64s (List.replicate 32 (0 : Int)) := by rw [zrow_one rfl]; simp [u64s]
          rw [e] at hs1
          refine hs1.mod hm3 ?_
          intro x hx; simp at hx; subst hx
          intro hx; exact Nat.lt_irrefl _ (hr.lt _ hx)
        have hp5 : w.heap.size ∉ R3 := fun h => by
          rcases hgood _ h with h | h
          · exact hpR h
          · omega
        have upk : ∀ x, x ≠ w.heap.size → (w3.upd w.heap.size (.cells #[.slice a3 (k + 1) c3] T (0, 0))).heap[x]? = w3.heap[x]? := fun x hx => upd_ne _ (Ne.symm hx)
        refine ⟨T, a3, c3, R3, qs ++ [wi.heap.size], ?_, ?_, ?_, ?_, hp5, ?_, ?_, rfl, All32.rep _, by simp; omega⟩
        · rw [upd_same hp3]; simp
        · simp only [List.length_replicate, List.map_append, List.map_cons, List.map_nil]
          exact hs3.keep fun b hb => upk b (by rintro rfl; exact hp5 hb)
        · intro i q b hq hb
          by_cases hik : i < k
          · rw [List.getElem?_append_left (by omega)] at hq
            have hqm := List.mem_of_getElem? hq
            have hb' : (List.replicate k (List.replicate 32 (0 : Int)))[i]? = some b := by
              rw [List.getElem?_replicate] at hb ⊢
              rw [if_pos hik]; rw [if_pos (by omega)] at hb; exact hb
            refine (hrows i q b hq hb').keep fun x hx => ?_
            simp only [List.mem_singleton] at hx
            subst hx
            refine (upk x (fun h => hpq (h ▸ hqm))).trans ?_
            exact hm13.keep x (hqlt x hqm) fun h => hRq x h hqm
          · rw [List.getElem?_append_right (by omega)] at hq
            have hi : i - qs.length = 0 := by
              have := (List.getElem?_eq_some_iff.1 hq).1
              simp at this
              omega
            rw [hi] at hq
            simp only [List.getElem?_cons_zero, Option.some.injEq] at hq
            subst hq
            obtain rfl : b = List.replicate 32 0 := by
              rw [List.getElem?_replicate] at hb
              split at hb
              · exact (Option.some.inj hb).symm
              · cases hb
            exact hb4.keep fun x hx => by
              simp only [List.mem_singleton] at hx
              subst hx
              exact upk _ (by omega)
        · rw [List.nodup_append]
          refine ⟨hnd, by simp, fun x hx y hy => ?_⟩
          simp only [List.mem_singleton] at hy
          subst hy
          have := hqlt x hx
          omega
        · simp only [List.mem_append, List.mem_singleton, not_or]
          exact ⟨hpq, by omega⟩
        · intro x hx hmm
          simp only [List.mem_append, List.mem_singleton] at hmm
          rcases hgood x hx with h | h
          · rcases hmm with hmm | rfl
            · exact hRq x h hmm
            · exact Nat.lt_irrefl _ (hRlt _ h)
          · rcases hmm with hmm | rfl
            · have := hqlt x hmm; omega
            · omega
      · refine ((hm.trans hm13 ?_).upd (.inr (Nat.le_refl _)) _)
        intro b hb hlt
        have := hF b (by simp [hb])
        omega
      · intro b hb
        simp only [List.mem_cons, List.mem_append, List.mem_singleton] at hb
        have hws := hm.size
        rcases hb with rfl | hb | hb | hb
        · omega
        · rcases ho3 b hb with h | h
          · exact hF b (by simp [h])
          · omega
        · exact hF b (by simp [hb])
        · rcases hb with rfl | hb
          · omega
          · simp at hb
    · have hkN : k = N := by omega
      subst hkN
      exact h1 k w.heap.size F wi rfl (by omega) (by omega) hd hm hF

end Go.Proofs

set_option linter.unusedSimpArgs false
namespace Go.Proofs
open Go Go.Den

theorem memr_page {w : World} {p : Nat} {bs : List (List Int)} {F : List Nat} (h : MemR w p bs F) (n : Int) {K : Value → World → Prop} (h0 : n < 0 ∨ (bs.length : Int) ≤ n → K (.slice none 0 0) w)
    (h1 : ∀ (k : Nat) (b : List Int) (q : Nat), n = k → bs[k]? = some b → SlB w (some ⟨q, 0, none⟩) 32 32 1 (u64s b) [q] → q ∈ F → K (.slice (some ⟨q, 0, none⟩) 32 32) w) : CallsR Tryz.prog F_janusref01_Mem_Page #[.pointer (some ⟨p, 0, none⟩), .int .i64 n] w K := by
  apply R_janusref01_Mem_Page_ok
  refine memr_has h n (fun hb => ⟨_, rfl, by simpa using h0 (by omega)⟩) (fun k hn hk => ⟨_, rfl, ?_⟩)
  subst hn
  obtain ⟨T, ad, c, q, hp, hc, hs, hqF, hset⟩ := h.row hk
  simp only [R_janusref01_Mem_Page, spl_true, spl_decide, nilK_some, addr_add, cell_get hp]
  exact ⟨_, _, _, rfl, ⟨by omega, by omega⟩, _, _, _, hc, h1 k _ q rfl (List.getElem?_eq_getElem hk) hs hqF⟩

end Go.Proofs

set_option linter.unusedSimpArgs false
namespace Go.Proofs
open Go Go.Den

/-- The twelve cells from 'o' on are the table 't'. -/
def TblA (arr : Array Value) (o : Nat) (t : Tb) : Prop :=
  TbOk t ∧ o + 12 ≤ arr.size ∧ ∀ i : Nat, i < 4 → ∃ x : Int × Bool, arr[o + i * 2]? = some (.int .i64 x.1) ∧ arr[o + i * 2 + 1]? = some (.bool x.2) ∧ arr[o + 8 + i]? = some (.bool (t (i : Int)).isSome) ∧ ∀ y, t (i : Int) = some y → x = y

def wr3 (arr : Array Value) (o k : Nat) (x : Int × Bool) (f : Bool) : Array Value := ((arr.setIfInBounds (o + k * 2) (.int .i64 x.1)).setIfInBounds (o + k * 2 + 1) (.bool x.2)).setIfInBounds (o + 8 + k) (.bool f)
theorem wr3_size (arr : Array Value) (o k : Nat) (x : Int × Bool) (f : Bool) : (wr3 arr o k x f).size = arr.size := by simp [wr3]
theorem wr3_get {arr : Array Value} {o k : Nat} (x : Int × Bool) (f : Bool) (hk : k < 4) (hs : o + 12 ≤ arr.size) (i : Nat) :
    (wr3 arr o k x f)[i]? = if i = o + 8 + k then some (.bool f) else if i = o + k * 2 + 1 then some (.bool x.2) else if i = o + k * 2 then some (.int .i64 x.1) else arr[i]? := by
  unfold wr3
  by_cases h1 : i = o + 8 + k
  · rw [if_pos h1, h1, Array.getElem?_setIfInBounds_self_of_lt (by simp; omega)]
  · rw [if_neg h1, Array.getElem?_setIfInBounds_ne (by omega)]
    by_cases h2 : i = o + k * 2 + 1
    · rw [if_pos h2, h2, Array.getElem?_setIfInBounds_self_of_lt (by simp; omega)]
    · rw [if_neg h2, Array.getElem?_setIfInBounds_ne (by omega)]
      by_cases h3 : i = o + k * 2
      · rw [if_pos h3, h3, Array.getElem?_setIfInBounds_self_of_lt (by omega)]
      · rw [if_neg h3, Array.getElem?_setIfInBounds_ne (by omega)]

theorem TblA.wr {arr : Array Value} {o : Nat} {t t' : Tb} (h : TblA arr o t) {k : Nat} (hk : k < 4) (x : Int × Bool) (f : Bool) (hok : TbOk t') (h1 : ∀ j : Int, j ≠ k → t' j = t j) (h2 : (t' (k : Int)).isSome = f) (h3 : ∀ y, t' (k : Int) = some y → x = y) :
    TblA (wr3 arr o k x f) o t' := by
  obtain ⟨-, hs, hc⟩ := h
  refine ⟨hok, by rw [wr3_size]; exact hs, fun i hi => ?_⟩
  by_cases hik : i = k
  · subst hik
    refine ⟨x, ?_, ?_, ?_, h3⟩
    · rw [wr3_get x f hk hs, if_neg (by omega), if_neg (by omega), if_pos rfl]
    · rw [wr3_get x f hk hs, if_neg (by omega), if_pos rfl]
    · rw [wr3_get x f hk hs, if_pos rfl, h2]
  · obtain ⟨y, c1, c2, c3, c4⟩ := hc i hi
    have e := h1 (i : Int) (by omega)
    refine ⟨y, ?_, ?_, ?_, by rw [e]; exact c4⟩
    · rw [wr3_get x f hk hs, if_neg (by omega), if_neg (by omega), if_neg (by omega)]; exact c1
    · rw [wr3_get x f hk hs, if_neg (by omega), if_neg (by omega), if_neg (by omega)]; exact c2
    · rw [wr3_get x f hk hs, if_neg (by omega), if_neg (by omega), if_neg (by omega), e]; exact c3
theorem wr3_out {arr : Array Value} {o k : Nat} (x : Int × Bool) (f : Bool) (hk : k < 4) (hs : o + 12 ≤ arr.size) (i : Nat) (hi : i < o ∨ o + 12 ≤ i) : (wr3 arr o k x f)[i]? = arr[i]? := by
  rw [wr3_get x f hk hs, if_neg (by omega), if_neg (by omega), if_neg (by omega)]

theorem TblA.at {arr : Array Value} {o : Nat} {t : Tb} (h : TblA arr o t) {w : World} {b : Nat} {T : TypeId} (hb : w.heap[b]? = some (.cells arr T (0, 0))) {k : Nat} (hk : k < 4) :
    ∃ x : Int × Bool, w.cell? ⟨b, o + k * 2, none⟩ = some (.int .i64 x.1) ∧ w.cell? ⟨b, o + k * 2 + 1, none⟩ = some (.bool x.2) ∧ w.cell? ⟨b, o + 8 + k, none⟩ = some (.bool (t (k : Int)).isSome) ∧ ∀ y, t (k : Int) = some y → x = y := by
  obtain ⟨x, c1, c2, c3, c4⟩ := h.2.2 k hk
  exact ⟨x, by rw [cell_get hb]; exact c1, by rw [cell_get hb]; exact c2, by rw [cell_get hb]; exact c3, c4⟩

section
variable {w : World} {b o : Nat} {arr : Array Value} {T : TypeId} {t : Tb}

theorem tblr_map (hb : w.heap[b]? = some (.cells arr T (0, 0))) (h : TblA arr o t) (k f : Int) (g : Bool) {K : Value → World → Prop}
    (hK : ∀ (arr' : Array Value) (w' : World), w'.heap[b]? = some (.cells arr' T (0, 0)) → arr'.size = arr.size → TblA arr' o (tMap t k (f, g)) → (∀ i, i < o ∨ o + 12 ≤ i → arr'[i]? = arr[i]?) → Mod [b] w w' → K (.int .i64 (tMapE k f)) w') :
    CallsR Tryz.prog F_janusref02_Table_Map #[.pointer (some ⟨b, o, none⟩), .int .i64 k, .agg #[.int .i64 f, .bool g]] w K := by
  apply R_janusref02_Table_Map_ok
  simp only [R_janusref02_Table_Map, spl_decide, nilK_some, drK_eq, addr_add]
  refine (Sep.nil (Mod.refl [] w)).new fun bn w1 s1 m1 hbn => ?_
  have hb1 := m1.get hb (by simp)
  have bad : (k < 0 ∨ 4 ≤ k ∨ f < 0) → K (.int .i64 101) w1 := fun hbad => by
    have := hK arr w1 hb1 rfl (by unfold tMap; rw [if_pos hbad]; exact h) (fun _ _ => rfl) m1.of0
    rwa [tMapE, if_pos hbad] at this
  refine ⟨fun hk => bad (.inl hk), fun hk0 => ⟨fun hk => bad (.inr (.inl (by omega))), fun hk4 => ⟨f, s1.cell 0 rfl rfl, fun hf => bad (by omega), fun hf => ?_⟩⟩⟩
  have hgood : ¬ (k < 0 ∨ 4 ≤ k ∨ f < 0) := by omega
  obtain ⟨j, rfl⟩ := nat_of (by omega : 0 ≤ k)
  have hj : j < 4 := by omega
  have hs := h.2.1
  have s2 := s1.mod0 ((Mod.refl [] w1).drew)
  have hbd : w1.drew.heap[b]? = some (.cells arr T (0, 0)) := hb1
  generalize w1.drew = w2 at s2 hbd ⊢
  refine ⟨[bn], by simp, f, g, ⟨s2.cell 0 rfl rfl, s2.cell 0 rfl rfl⟩, ⟨by omega, by omega⟩, ?_⟩
  rw [Int.toNat_natCast]
  refine stK_of hbd (by simp; omega) ⟨⟨by omega, by omega⟩, ?_⟩
  refine stK_of (upd_same hbd) (by simp; omega) ?_
  simp only [splice_cons, splice_nil]
  rw [tMapE, if_neg hgood] at hK
  exact hK (wr3 arr o j (f, g) true) _ (upd_same (upd_same hbd)) (wr3_size _ _ _ _ _) (h.wr hj (f, g) true (h.1.map _ _) (fun i hi => by unfold tMap tput; rw [if_neg hgood, if_neg (Ne.symm hi)]) (by unfold tMap tput; rw [if_neg hgood, if_pos rfl]; rfl) (fun y hy => by unfold tMap tput at hy; rw [if_neg hgood, if_pos rfl] at hy; exact Option.some.inj hy)) (wr3_out _ _ hj hs)
    ((s2.mod.of0.upd (.inl (by simp)) _).upd (.inl (by simp)) _)

theorem tblr_unmap (hb : w.heap[b]? = some (.cells arr T (0, 0))) (h : TblA arr o t) (k : Int) {K : Value → World → Prop}
    (hK : ∀ (arr' : Array Value) (w' : World), w'.heap[b]? = some (.cells arr' T (0, 0)) → arr'.size = arr.size → TblA arr' o (tdel t k) → (∀ i, i < o ∨ o + 12 ≤ i → arr'[i]? = arr[i]?) → Mod [b] w w' → K (.int .i64 (tUnE t k)) w') :
    CallsR Tryz.prog F_janusref02_Table_Unmap #[.pointer (some ⟨b, o, none⟩), .int .i64 k] w K := by
  apply R_janusref02_Table_Unmap_ok
  simp only [R_janusref02_Table_Unmap, spl_decide, nilK_some, drK_eq, addr_add]
  have bad : (k < 0 ∨ 4 ≤ k) → K (.int .i64 101) w := fun hbad => by
    have := hK arr w hb rfl (by rw [tdel_none (h.1.none hbad)]; exact h) (fun _ _ => rfl) (Mod.refl _ _)
    rwa [tUnE, if_pos hbad] at this
  refine ⟨fun hk => bad (.inl hk), fun hk0 => ⟨fun hk => bad (.inr (by omega)), fun hk4 => ⟨⟨by omega, by omega⟩, ?_⟩⟩⟩
  obtain ⟨j, rfl⟩ := nat_of (by omega : 0 ≤ k)
  have hj : j < 4 := by omega
  have hs := h.2.1
  obtain ⟨x, c1, c2, c3, c4⟩ := h.at hb hj
  rw [Int.toNat_natCast]
  refine ⟨_, c3, ?_⟩
  cases ht : t (j : Int) with
  | none =>
    refine spl_f rfl ?_
    have := hK arr w hb rfl (by rw [tdel_none ht]; exact h) (fun _ _ => rfl) (Mod.refl _ _)
    rwa [tUnE, if_neg (by omega), if_pos ht] at this
  | some y =>
    refine spl_t rfl ⟨[], ⟨by omega, by omega⟩, ?_⟩
    have hbd : w.drew.heap[b]? = some (.cells arr T (0, 0)) := hb
    refine stK_of hbd (by simp; omega) ⟨⟨by omega, by omega⟩, ?_⟩
    refine stK_of (upd_same hbd) (by simp; omega) ?_
    simp only [splice_cons, splice_nil]
    rw [tUnE, if_neg (by omega), if_neg (by simp [ht])] at hK
    exact hK (wr3 arr o j (0, false) false) _ (upd_same (upd_same hbd)) (wr3_size _ _ _ _ _) (h.wr hj (0, false) false (h.1.del _) (fun i hi => by unfold tdel; rw [if_neg (Ne.symm hi)]) (by unfold tdel; rw [if_pos rfl]; rfl) (fun y hy => by unfold tdel at hy; rw [if_pos rfl] at hy; cases hy)) (wr3_out _ _ hj hs)
      (((Mod.refl _ _).drew.upd (.inl (by simp)) _).upd (.inl (by simp)) _)

theorem tblr_at (hb : w.heap[b]? = some (.cells arr T (0, 0))) (h : TblA arr o t) (k : Int) {K : Value → World → Prop} (hK : ∀ w', Mod [] w w' → K (.tuple #[.agg #[.int .i64 (pz (t k)).1, .bool (pz (t k)).2], .bool (t k).isSome]) w') :
    CallsR Tryz.prog F_janusref02_Table_At #[.pointer (some ⟨b, o, none⟩), .int .i64 k] w K := by
  apply R_janusref02_Table_At_ok
  simp only [R_janusref02_Table_At, spl_decide, nilK_some, addr_add]
  refine (Sep.nil (Mod.refl [] w)).new fun bn w1 s1 m1 hbn => ?_
  have hb1 := m1.get hb (by simp)
  have fin : ∀ (x : Int × Bool) (c : Bool), x = pz (t k) → c = (t k).isSome → stK ⟨bn, 0, none⟩ [.int .i64 x.1, .bool x.2] w1 fun w5 => ∃ rf06 rf17, (w5.cell? ⟨bn, 0, none⟩ = some (.int .i64 rf06) ∧ w5.cell? ⟨bn, 1, none⟩ = some (.bool rf17)) ∧ K (.tuple #[.agg #[.int .i64 rf06, .bool rf17], .bool c]) w5 := fun x c hx hc => by
    refine s1.st0 0 rfl rfl fun w2 s2 m2 => ⟨x.1, x.2, ⟨s2.cell 0 rfl rfl, s2.cell 0 rfl rfl⟩, ?_⟩
    rw [hx, hc]
    exact hK _ s2.mod
  refine ⟨fun hk => fin (0, false) false (by rw [h.1.none (.inl hk)]; rfl) (by rw [h.1.none (.inl hk)]; rfl), fun hk0 => ⟨fun hk => fin (0, false) false (by rw [h.1.none (.inr (by omega))]; rfl) (by rw [h.1.none (.inr (by omega))]; rfl), fun hk4 => ⟨⟨by omega, by omega⟩, ?_⟩⟩⟩
  obtain ⟨j, rfl⟩ := nat_of (by omega : 0 ≤ k)
  obtain ⟨x, c1, c2, c3, c4⟩ := h.at hb1 (k := j) (by omega)
  rw [Int.toNat_natCast]
  refine ⟨_, c3, ?_⟩
  cases ht : t (j : Int) with
  | none => exact spl_f rfl (fin (0, false) false (by rw [ht]; rfl) (by rw [ht]; rfl))
  | some y =>
    obtain rfl := c4 y ht
    exact spl_t rfl ⟨⟨by omega, by omega⟩, x.1, x.2, ⟨c1, c2⟩, fin x true (by rw [ht]; rfl) (by rw [ht]; rfl)⟩

theorem tblr_walk (hb : w.heap[b]? = some (.cells arr T (0, 0))) (h : TblA arr o t) {addr : Int} (h0 : 0 ≤ addr) (wr : Bool) {K : Value → World → Prop} (hK : ∀ w', Mod [] w w' → K (.tuple #[.int .i64 (walk3 t addr wr).1, .int .i64 (walk3 t addr wr).2.1, .int .i64 (walk3 t addr wr).2.2]) w') :
    CallsR Tryz.prog F_janusref02_Table_Walk #[.pointer (some ⟨b, o, none⟩), .int .u64 addr, .bool wr] w K := by
  apply R_janusref02_Table_Walk_ok
  simp only [R_janusref02_Table_Walk, spl_decide]
  refine ⟨fun hge => ?_, fun hlt => ⟨by decide, ?_⟩⟩
  · have := hK w (Mod.refl _ _)
    rwa [walk3, if_pos (show 128 ≤ addr from hge)] at this
  · have hlt' : addr < 128 := by omega
    rw [pg h0 hlt', pw h0 hlt']
    refine tblr_at hb h (addr / 32) fun w1 hm1 => ⟨_, _, _, rfl, ?_⟩
    refine (Sep.nil hm1).new fun b2 w2 s2 m2 hb2 => s2.st0 0 rfl rfl fun w3 s3 m3 => ?_
    have := hK w3 s3.mod
    unfold walk3 at this
    rw [if_neg (by omega)] at this
    cases ht : t (addr / 32) with
    | none => rw [ht] at this; exact spl_f rfl this
    | some x =>
      rw [ht] at this s3
      have c0 : w3.cell? ⟨b2, 0, none⟩ = some (.int .i64 x.1) := s3.cell 0 rfl rfl
      have c1 : w3.cell? ⟨b2, 1, none⟩ = some (.bool x.2) := s3.cell 0 rfl rfl
      simp only at this
      refine spl_t rfl ⟨fun w' => w' = w3 ∧ ¬ (wr = true ∧ x.2 = false), ?_, ?_⟩
      · rintro - w' ⟨rfl, hn⟩
        rw [use3, if_neg hn] at this
        exact ⟨_, c0, by decide, this⟩
      · cases wr with
        | false => exact ⟨fun h => (by cases h), fun _ => ⟨rfl, by simp⟩⟩
        | true =>
          rw [spl_true]
          refine ⟨x.2, c1, ?_⟩
          cases hx : x.2 with
          | true => exact spl_t rfl ⟨rfl, by simp⟩
          | false =>
            rw [use3, if_pos ⟨rfl, hx⟩] at this
            exact spl_f rfl this
end

end Go.Proofs

set_option linter.unusedSimpArgs false
namespace Go.Proofs
open Go Go.Den

def memrPart (p : Nat) (bs : List (List Int)) (F : List Nat) : Part := ⟨F, fun w => MemR w p bs F, fun h k => h.keep k, fun h => h.lt⟩

section
variable {w : World} {p : Nat} {m : List (List Int)} {F : List Nat}
theorem rmRead (h : MemR w p m F) (f d : Int) {K : Value → World → Prop} (hK : K (.tuple #[.int .u64 (rdV m f d).1, .int .i64 (rdV m f d).2]) w) : CallsR Tryz.prog F_janusref01_Mem_Read #[.pointer (some ⟨p, 0, none⟩), .int .i64 f, .int .i64 d] w K :=
  memr_read h f d (fun ho => by rw [rdV_out ho] at hK; exact hK) (fun k j b x hf hd hj hb hx => by subst hf hd; rw [rdV_of hb hx hj] at hK; exact hK)
theorem rmWrite (h : MemR w p m F) (f d v : Int) {K : Value → World → Prop} (hK : ∀ w', MemR w' p (wrM m f d v) F → Mod F w w' → K (.int .i64 (wrV m f d)) w') : CallsR Tryz.prog F_janusref01_Mem_Write #[.pointer (some ⟨p, 0, none⟩), .int .i64 f, .int .i64 d, .int .u64 v] w K :=
  memr_write h f d v (fun ho => by obtain ⟨e1, e2⟩ := wr_out ho v; rw [e1, e2] at hK; exact hK w h (Mod.refl _ _)) (fun k j b w' hf hd hj hb h' m' => by subst hf hd; obtain ⟨e1, e2⟩ := wr_of hb hj v; rw [e1, e2] at hK; exact hK w' h' m')
theorem rmCopy (h : MemR w p m F) (f g : Int) {K : Value → World → Prop} (hK : ∀ w', MemR w' p (cpM m f g) F → Mod F w w' → K (.int .i64 (cpV m f g)) w') : CallsR Tryz.prog F_janusref01_Mem_Copy #[.pointer (some ⟨p, 0, none⟩), .int .i64 f, .int .i64 g] w K :=
  memr_copy h f g (fun ho => by obtain ⟨e1, e2⟩ := cp_out ho; rw [e1, e2] at hK; exact hK w h (Mod.refl _ _)) (fun t k b w' hf hg ht hb h' m' => by subst hf hg; obtain ⟨e1, e2⟩ := cp_of ht hb; rw [e1, e2] at hK; exact hK w' h' m')
theorem rmZero (h : MemR w p m F) (f : Int) {K : Value → World → Prop} (hK : ∀ w' n, MemR w' p (zrM m f) F → Mod F w w' → K (.int .i64 n) w') : CallsR Tryz.prog F_janusref01_Mem_Zero #[.pointer (some ⟨p, 0, none⟩), .int .i64 f] w K :=
  memr_zero h f (fun ho => by rw [zr_out ho] at hK; exact hK w _ h (Mod.refl _ _)) (fun k w' hf hk h' m' => by subst hf; rw [zr_of hk] at hK; exact hK w' _ h' m')
end

end Go.Proofs
