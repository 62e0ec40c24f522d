/-
  Layer 1: contracts of the reference's memory.
-/
import Derived.Test.YtgepekoanaammaaC01b
set_option linter.unusedSimpArgs false
namespace Go.Proofs
open Go Go.Den

/-- The row of a block. -/
def rowOf (q : Nat) : Value := .slice (some ⟨q, 0, none⟩) 32 32

/-- The reference's memory at block 'p'. -/
def MemR (w : World) (p : Nat) (bs : List (List Int)) (F : List Nat) : Prop :=
  ∃ (T : TypeId) (a : Option Addr) (c : Nat) (R qs : List Nat), w.heap[p]? = some (.cells #[.slice a bs.length c] T (0, 0)) ∧ SlB w a bs.length c 1 (qs.map rowOf) R ∧
    (∀ (i q : Nat) (b : List Int), qs[i]? = some q → bs[i]? = some b → SlB w (some ⟨q, 0, none⟩) 32 32 1 (u64s b) [q]) ∧ qs.Nodup ∧ p ∉ R ∧ p ∉ qs ∧ (∀ x ∈ R, x ∉ qs) ∧ F = p :: (R ++ qs) ∧ All32 bs ∧ bs.length ≤ 1024

theorem MemR.qlen {w : World} {a : Option Addr} {n c : Nat} {qs R : List Nat} (h : SlB w a n c 1 (qs.map rowOf) R) : qs.length = n := by
  have := h.length
  simpa using this

theorem MemR.keep {w w' : World} {p : Nat} {bs : List (List Int)} {F : List Nat} (h : MemR w p bs F) (hk : ∀ b ∈ F, w'.heap[b]? = w.heap[b]?) : MemR w' p bs F := by
  obtain ⟨T, a, c, R, qs, h1, h2, h3, h4, h5, h6, h7, rfl, h8⟩ := h
  refine ⟨T, a, c, R, qs, (hk p (by simp)).trans h1, h2.keep (fun b hb => hk b (by simp [hb])), fun i q b hq hb => (h3 i q b hq hb).keep fun x hx => ?_, h4, h5, h6, h7, rfl, h8⟩
  simp only [List.mem_singleton] at hx
  subst hx
  exact hk x (by simp [List.mem_of_getElem? hq])
theorem MemR.lt {w : World} {p : Nat} {bs : List (List Int)} {F : List Nat} (h : MemR w p bs F) : ∀ b ∈ F, b < w.heap.size := by
  obtain ⟨T, a, c, R, qs, h1, h2, h3, h4, h5, h6, h7, rfl, h8⟩ := h
  have hl := MemR.qlen h2
  intro b hb
  simp only [List.mem_cons, List.mem_append] at hb
  rcases hb with rfl | hb | hb
  · exact lt_of_get h1
  · exact h2.lt b hb
  · obtain ⟨i, hi, rfl⟩ := List.getElem_of_mem hb
    exact (h3 i qs[i] bs[i] (List.getElem?_eq_getElem hi) (List.getElem?_eq_getElem (by omega))).lt _ (by simp)
theorem MemR.all {w : World} {p : Nat} {bs : List (List Int)} {F : List Nat} (h : MemR w p bs F) : All32 bs := by
  obtain ⟨T, a, c, R, qs, h1, h2, h3, h4, h5, h6, h7, rfl, h8, h9⟩ := h
  exact h8

/-- A frame of the reference's memory. -/
theorem MemR.row {w : World} {p : Nat} {bs : List (List Int)} {F : List Nat} (h : MemR w p bs F) {k : Nat} (hk : k < bs.length) :
    ∃ (T : TypeId) (ad : Addr) (c q : Nat), w.heap[p]? = some (.cells #[.slice (some ad) bs.length c] T (0, 0)) ∧ w.cell? (Addr.add ad k) = some (.slice (some ⟨q, 0, none⟩) 32 32) ∧ SlB w (some ⟨q, 0, none⟩) 32 32 1 (u64s bs[k]) [q] ∧ q ∈ F ∧
      ∀ (arr : Array Value) (T2 : TypeId) (j : Nat) (v : Int), j < 32 → w.heap[q]? = some (.cells arr T2 (0, 0)) → MemR (w.upd q (.cells (arr.setIfInBounds j (.int .u64 v)) T2 (0, 0))) p (bs.set k (bs[k].set j v)) F := by
  obtain ⟨T, a, c, R, qs, h1, h2, h3, h4, h5, h6, h7, rfl, h8, h9⟩ := h
  have hl := MemR.qlen h2
  have hkq : k < qs.length := by omega
  obtain ⟨b, o, rfl, rfl⟩ := h2.isNone (by omega)
  have hq : qs[k]? = some qs[k] := List.getElem?_eq_getElem hkq
  have hrow := h3 k qs[k] bs[k] hq (List.getElem?_eq_getElem hk)
  have hqm : qs[k] ∈ qs := List.getElem_mem hkq
  refine ⟨T, ⟨b, o, none⟩, c, qs[k], h1, ?_, hrow, by simp [hqm], ?_⟩
  · have := h2.cell (i := k) (by simpa using hkq)
    rw [this, List.getElem?_map, hq]
    rfl
  · intro arr T2 j v hj harr
    have hbl : bs[k].length = 32 := h8 _ (List.getElem_mem hk)
    have ne : ∀ x, x ≠ qs[k] → (w.upd qs[k] (.cells (arr.setIfInBounds j (.int .u64 v)) T2 (0, 0))).heap[x]? = w.heap[x]? := fun x hx => upd_ne _ (Ne.symm hx)
    refine ⟨T, some ⟨b, o, none⟩, c, [b], qs, ?_, ?_, ?_, h4, h5, h6, h7, rfl, h8.set k (by simp [hbl]), by simpa using h9⟩
    · rw [ne p (fun h => h6 (h ▸ hqm)), List.length_set]
      exact h1
    · rw [List.length_set]
      exact h2.keep fun x hx => ne x fun h => h7 x hx (h ▸ hqm)
    · intro i q b' hq' hb'
      rw [List.getElem?_set] at hb'
      by_cases hik : k = i
      · subst hik
        rw [if_pos rfl, if_pos hk] at hb'
        obtain rfl := Option.some.inj hb'
        obtain rfl : qs[k] = q := Option.some.inj (hq.symm.trans hq')
        have := hrow.set harr (j := j) (by rw [u64s_length]; omega) (.int .u64 v)
        rw [Nat.zero_add, u64s_set] at this
        exact this
      · rw [if_neg hik] at hb'
        refine (h3 i q b' hq' hb').keep fun x hx => ne x ?_
        simp only [List.mem_singleton] at hx
        subst hx
        rintro rfl
        have hi := (List.getElem?_eq_some_iff.1 hq').1
        have hiq := (List.getElem?_eq_some_iff.1 hq').2
        have hpw := List.pairwise_iff_getElem.1 h4
        rcases Nat.lt_or_gt_of_ne hik with hlt | hlt
        · exact hpw k i hkq hi hlt hiq.symm
        · exact hpw i k hi hkq hlt hiq

theorem memr_ptr {w : World} {p : Nat} {bs : List (List Int)} {F : List Nat} (h : MemR w p bs F) : ∃ (T : TypeId) (a : Option Addr) (c : Nat), w.heap[p]? = some (.cells #[.slice a bs.length c] T (0, 0)) := by
  obtain ⟨T, a, c, R, qs, h1, h2⟩ := h
  exact ⟨T, a, c, h1⟩

theorem memr_has {w : World} {p : Nat} {bs : List (List Int)} {F : List Nat} (h : MemR w p bs F) (n : Int) {K : Value → World → Prop} (h0 : n < 0 ∨ (bs.length : Int) ≤ n → K (.bool false) w) (h1 : ∀ k : Nat, n = k → k < bs.length → K (.bool true) w) :
    CallsR Try.prog F_janusref01_Mem_has #[.pointer (some ⟨p, 0, none⟩), .int .i64 n] w K := by
  apply R_janusref01_Mem_has_ok
  obtain ⟨T, a, c, hp⟩ := memr_ptr h
  simp only [R_janusref01_Mem_has, spl_decide, nilK_some, addr_add, cell_get hp]
  refine ⟨fun hge => ⟨_, _, _, rfl, ?_⟩, fun h => h0 (by omega)⟩
  obtain ⟨k, rfl⟩ := nat_of (by omega : 0 ≤ n)
  by_cases hk : k < bs.length
  · rw [decide_eq_true (by omega)]
    exact h1 k rfl hk
  · rw [decide_eq_false (by omega)]
    exact h0 (by omega)

theorem memr_read {w : World} {p : Nat} {bs : List (List Int)} {F : List Nat} (h : MemR w p bs F) (n wd : Int) {K : Value → World → Prop} (h0 : n < 0 ∨ (bs.length : Int) ≤ n ∨ wd < 0 ∨ 32 ≤ wd → K (.tuple #[.int .u64 0, .int .i64 101]) w)
    (h1 : ∀ (k j : Nat) (b : List Int) (x : Int), n = k → wd = j → j < 32 → bs[k]? = some b → b[j]? = some x → K (.tuple #[.int .u64 x, .int .i64 0]) w) : CallsR Try.prog F_janusref01_Mem_Read #[.pointer (some ⟨p, 0, none⟩), .int .i64 n, .int .i64 wd] w K := by
  apply R_janusref01_Mem_Read_ok
  refine memr_has h n (fun hb => ⟨_, rfl, by simpa using h0 (by omega)⟩) (fun k hn hk => ⟨_, rfl, ?_⟩)
  subst hn
  obtain ⟨T, ad, c, q, hp, hc, hs, -, -⟩ := h.row hk
  have hbl := h.all _ (List.getElem_mem hk)
  simp only [R_janusref01_Mem_Read, spl_true, spl_decide, nilK_some, addr_add, cell_get hp]
  refine ⟨fun h => h0 (by omega), fun hge => ⟨fun h => h0 (by omega), fun hlt => ?_⟩⟩
  obtain ⟨j, rfl⟩ := nat_of (by omega : 0 ≤ wd)
  have hx : (bs[k])[j]? = some bs[k][j] := List.getElem?_eq_getElem (by omega)
  have cc := hs.cell (i := j) (by rw [u64s_length]; omega)
  rw [u64s_get, hx, Option.map_some] at cc
  exact ⟨_, _, _, rfl, ⟨by omega, by omega⟩, _, _, _, hc, ⟨by omega, by omega⟩, _, cc, h1 k j _ _ rfl rfl (by omega) (List.getElem?_eq_getElem hk) hx⟩

theorem memr_write {w : World} {p : Nat} {bs : List (List Int)} {F : List Nat} (h : MemR w p bs F) (n wd v : Int) {K : Value → World → Prop} (h0 : n < 0 ∨ (bs.length : Int) ≤ n ∨ wd < 0 ∨ 32 ≤ wd → K (.int .i64 101) w)
    (h1 : ∀ (k j : Nat) (b : List Int) (w' : World), n = k → wd = j → j < 32 → bs[k]? = some b → MemR w' p (bs.set k (b.set j v)) F → Mod F w w' → K (.int .i64 0) w') : CallsR Try.prog F_janusref01_Mem_Write #[.pointer (some ⟨p, 0, none⟩), .int .i64 n, .int .i64 wd, .int .u64 v] w K := by
  apply R_janusref01_Mem_Write_ok
  refine memr_has h n (fun hb => ⟨_, rfl, by simpa using h0 (by omega)⟩) (fun k hn hk => ⟨_, rfl, ?_⟩)
  subst hn
  obtain ⟨T, ad, c, q, hp, hc, hs, hqF, hset⟩ := h.row hk
  simp only [R_janusref01_Mem_Write, spl_true, spl_decide, nilK_some, addr_add, cell_get hp]
  refine ⟨fun h => h0 (by omega), fun hge => ⟨fun h => h0 (by omega), fun hlt => ?_⟩⟩
  obtain ⟨j, rfl⟩ := nat_of (by omega : 0 ≤ wd)
  obtain ⟨arr, T2, hq, hcap, _⟩ := hs.block
  refine ⟨_, _, _, rfl, ⟨by omega, by omega⟩, _, _, _, hc, ⟨by omega, by omega⟩, ?_⟩
  rw [addr_add]
  refine stK_of hq (by simp; omega) ?_
  simp only [splice_cons, splice_nil, Nat.zero_add, Int.toNat_natCast]
  exact h1 k j _ _ rfl rfl (by omega) (List.getElem?_eq_getElem hk) (hset arr T2 j v (by omega) hq) ((Mod.refl _ _).upd (.inl hqF) _)

theorem memr_page {w : World} {p : Nat} {bs : List (List Int)} {F : List Nat} (h : MemR w p bs F) (n : Int) {K : Value → World → Prop} (h0 : n < 0 ∨ (bs.length : Int) ≤ n → K (.slice none 0 0) w)
    (h1 : ∀ (k : Nat) (b : List Int) (q : Nat), n = k → bs[k]? = some b → SlB w (some ⟨q, 0, none⟩) 32 32 1 (u64s b) [q] → q ∈ F → K (.slice (some ⟨q, 0, none⟩) 32 32) w) : CallsR Try.prog F_janusref01_Mem_Page #[.pointer (some ⟨p, 0, none⟩), .int .i64 n] w K := by
  apply R_janusref01_Mem_Page_ok
  refine memr_has h n (fun hb => ⟨_, rfl, by simpa using h0 (by omega)⟩) (fun k hn hk => ⟨_, rfl, ?_⟩)
  subst hn
  obtain ⟨T, ad, c, q, hp, hc, hs, hqF, hset⟩ := h.row hk
  simp only [R_janusref01_Mem_Page, spl_true, spl_decide, nilK_some, addr_add, cell_get hp]
  exact ⟨_, _, _, rfl, ⟨by omega, by omega⟩, _, _, _, hc, h1 k _ q rfl (List.getElem?_eq_getElem hk) hs hqF⟩

theorem memr_zero {w : World} {p : Nat} {bs : List (List Int)} {F : List Nat} (h : MemR w p bs F) (n : Int) {K : Value → World → Prop} (h0 : n < 0 ∨ (bs.length : Int) ≤ n → K (.int .i64 101) w)
    (h1 : ∀ (k : Nat) (w' : World), n = k → k < bs.length → MemR w' p (bs.set k (List.replicate 32 0)) F → Mod F w w' → K (.int .i64 0) w') : CallsR Try.prog F_janusref01_Mem_Zero #[.pointer (some ⟨p, 0, none⟩), .int .i64 n] w K := by
  apply R_janusref01_Mem_Zero_ok
  refine memr_has h n (fun hb => ⟨_, rfl, by simpa using h0 (by omega)⟩) (fun k hn hk => ⟨_, rfl, ?_⟩)
  subst hn
  have hbl := h.all _ (List.getElem_mem hk)
  simp only [R_janusref01_Mem_Zero, spl_true, spl_decide, nilK_some, addr_add]
  refine ⟨fun m i w' => ∃ j : Nat, i = j ∧ j ≤ 32 ∧ m = 32 - j ∧ MemR w' p (bs.set k (List.replicate j 0 ++ bs[k].drop j)) F ∧ Mod F w w', ⟨32, 0, rfl, by omega, rfl, by simpa using h, Mod.refl _ _⟩, ?_⟩
  rintro m i - w2 ⟨j, rfl, hj, rfl, h2, hm2⟩
  have hk2 : k < (bs.set k (List.replicate j 0 ++ bs[k].drop j)).length := by simpa using hk
  refine ⟨fun hlt => ?_, fun hge => ?_⟩
  · have hj32 : j < 32 := by omega
    obtain ⟨T, ad, c, q, hp, hc, hs, hqF, hset⟩ := h2.row hk2
    rw [List.length_set] at hp
    obtain ⟨arr, T2, hq, hcap, _⟩ := hs.block
    refine ⟨some ad, bs.length, c, by rw [cell_get hp]; rfl, ⟨by omega, by omega⟩, _, _, _, hc, ⟨by omega, by omega⟩, ?_⟩
    rw [addr_add]
    refine stK_of hq (by simp; omega) ?_
    simp only [splice_cons, splice_nil, Nat.zero_add, Int.toNat_natCast]
    have h3 := hset arr T2 j 0 hj32 hq
    rw [List.getElem_set_self, List.set_set] at h3
    refine ⟨32 - (j + 1), by omega, j + 1, by rw [w64 (by omega) (by omega)]; omega, by omega, rfl, ?_, hm2.upd (.inl hqF) _⟩
    have e : (List.replicate j (0 : Int) ++ bs[k].drop j).set j 0 = List.replicate (j + 1) 0 ++ bs[k].drop (j + 1) := by
      rw [List.set_append_right _ _ (by simp), List.length_replicate, Nat.sub_self, List.drop_eq_getElem_cons (by omega), List.set_cons_zero, List.replicate_succ', List.append_assoc]
      rfl
    rwa [e] at h3
  · have : j = 32 := by omega
    subst this
    rw [List.drop_eq_nil_of_le (by omega), List.append_nil] at h2
    exact h1 k w2 rfl hk h2 hm2

theorem memr_copy {w : World} {p : Nat} {bs : List (List Int)} {F : List Nat} (h : MemR w p bs F) (to_ from_ : Int) {K : Value → World → Prop} (h0 : to_ < 0 ∨ (bs.length : Int) ≤ to_ ∨ from_ < 0 ∨ (bs.length : Int) ≤ from_ → K (.int .i64 101) w)
    (h1 : ∀ (t f : Nat) (b : List Int) (w' : World), to_ = t → from_ = f → t < bs.length → bs[f]? = some b → MemR w' p (bs.set t b) F → Mod F w w' → K (.int .i64 0) w') : CallsR Try.prog F_janusref01_Mem_Copy #[.pointer (some ⟨p, 0, none⟩), .int .i64 to_, .int .i64 from_] w K := by
  apply R_janusref01_Mem_Copy_ok
  refine memr_has h to_ (fun hb => ⟨_, rfl, by simpa using h0 (by omega)⟩) (fun t hn ht => ⟨_, rfl, ?_⟩)
  subst hn
  rw [spl_true]
  refine memr_has h from_ (fun hb => ⟨_, rfl, by simpa using h0 (by omega)⟩) (fun f hn hf => ⟨_, rfl, ?_⟩)
  subst hn
  have htl := h.all _ (List.getElem_mem ht)
  have hfl := h.all _ (List.getElem_mem hf)
  simp only [spl_true, spl_decide, nilK_some, drK_eq, addr_add]
  refine ⟨fun m i w' => ∃ j : Nat, i = j ∧ j ≤ 32 ∧ m = 32 - j ∧ MemR w' p (bs.set t (bs[f].take j ++ bs[t].drop j)) F ∧ Mod F w w', ⟨32, 0, rfl, by omega, rfl, by simpa using h, Mod.refl _ _⟩, ?_⟩
  rintro m i - w2 ⟨j, rfl, hj, rfl, h2, hm2⟩
  have ht2 : t < (bs.set t (bs[f].take j ++ bs[t].drop j)).length := by simpa using ht
  have hf2 : f < (bs.set t (bs[f].take j ++ bs[t].drop j)).length := by simpa using hf
  refine ⟨fun hlt => ?_, fun hge => ?_⟩
  · have hj32 : j < 32 := by omega
    have h2d : MemR w2.drew p (bs.set t (bs[f].take j ++ bs[t].drop j)) F := h2.keep fun _ _ => rfl
    obtain ⟨T, ad, c, q, hp, hc, hs, hqF, hset⟩ := h2d.row ht2
    obtain ⟨T', ad', c', q', hp', hc', hs', -, -⟩ := h2d.row hf2
    rw [hp] at hp'
    cases hp'
    rw [List.length_set] at hp
    obtain ⟨arr, T2, hq, hcap, _⟩ := hs.block
    have hxj : ((bs.set t (bs[f].take j ++ bs[t].drop j))[f])[j]? = some bs[f][j] := by
      rw [List.getElem_set]
      split
      · rename_i heq
        subst heq
        rw [List.take_append_drop]
        exact List.getElem?_eq_getElem _
      · exact List.getElem?_eq_getElem _
    have cc := hs'.cell (i := j) (by rw [u64s_length]; have := (List.getElem?_eq_some_iff.1 hxj).1; exact this)
    rw [u64s_get, hxj, Option.map_some] at cc
    refine ⟨some ad, bs.length, c, by rw [cell_get hp]; rfl, ⟨by omega, by omega⟩, _, _, _, hc, some ad, bs.length, c, by rw [cell_get hp]; rfl, ⟨by omega, by omega⟩, _, _, _, hc', ⟨by omega, by omega⟩, _, cc, ⟨by omega, by omega⟩, ?_⟩
    rw [addr_add]
    refine stK_of hq (by simp; omega) ?_
    simp only [splice_cons, splice_nil, Nat.zero_add, Int.toNat_natCast]
    have h3 := hset arr T2 j bs[f][j] hj32 hq
    rw [List.getElem_set_self, List.set_set] at h3
    refine ⟨32 - (j + 1), by omega, j + 1, by rw [w64 (by omega) (by omega)]; omega, by omega, rfl, ?_, hm2.drew.upd (.inl hqF) _⟩
    have e : (bs[f].take j ++ bs[t].drop j).set j bs[f][j] = bs[f].take (j + 1) ++ bs[t].drop (j + 1) := by
      rw [List.set_append_right _ _ (by rw [List.length_take]; omega), List.length_take, Nat.min_eq_left (by omega), Nat.sub_self, List.drop_eq_getElem_cons (by omega), List.set_cons_zero, List.take_succ_eq_append_getElem (by omega), List.append_assoc]
      rfl
    rwa [e] at h3
  · have : j = 32 := by omega
    subst this
    rw [List.drop_eq_nil_of_le (by omega), List.append_nil, List.take_of_length_le (by omega)] at h2
    exact h1 t f _ w2 rfl rfl ht (List.getElem?_eq_getElem hf) h2 hm2

end Go.Proofs
