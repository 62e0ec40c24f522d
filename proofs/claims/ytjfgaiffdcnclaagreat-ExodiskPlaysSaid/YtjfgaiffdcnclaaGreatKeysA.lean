/-
  slices.Sorted(maps.Keys(m)): the keys of a map, rising, in a new row.
  Rows of words: lists that are cut into parts of 32, and their cells.
  The program's disk: contracts over a list of blocks.
  Rows of rows of words: a slice of slices, of which each row is replaced whole and never written into.
-/
import Derived.Test.YtjfgaiffdcnclaaGreatLaid
import Derived.Test.YtjfgaiffdcnclaaGreatDenC
import Derived.Test.YtjfgaiffdcnclaaGreatRes
import Derived.Maps.Range
set_option linter.unusedVariables false
set_option linter.unusedSimpArgs false
namespace Go.Proofs
open Go Go.Den Go.Maps

theorem keys_own {P : Program} {k : TypeId} (hk : P.underlying k = some (.int .i64)) {w : World} {m : Nat} {l : KV} (h : MapP w m l) (hr : ∀ x ∈ mkeys l, (Lit.int .i64 x).wf = true) (hl : l.length ≤ maxLen) :
    ∃ D0 : DataW Unit, w.ownsMap P k (fun _ => some (.nil, [])) m l.length D0 ∧ (intKeys D0).Perm (mkeys l) ∧ Maps.size D0 = l.length := by
  obtain ⟨es, c, hm, hes, hn, hst⟩ := h
  have hlen : es.size = l.length := by
    have := congrArg List.length (show es.toList.map (fun e => (e.key, e.val)) = _ from hes)
    simpa using this
  have hrd : ∀ x ∈ es.toList, ∃ a, x.key = .int .i64 a ∧ WideElems.rd P k (fun _ => some ((.nil : DataW Unit), [])) x = some (.int .i64 a, .nil) := fun x hx => by
    have h1 : (x.key, x.val) ∈ es.toList.map fun e => (e.key, e.val) := List.mem_map.2 ⟨x, hx, rfl⟩
    rw [show es.toList.map (fun e => (e.key, e.val)) = _ from hes] at h1
    obtain ⟨p, hp, hp2⟩ := List.mem_map.1 h1
    have e1 : x.key = .int .i64 p.1 := (congrArg Prod.fst hp2).symm
    refine ⟨p.1, e1, ?_⟩
    have hkey := keyOf_int_mk hk (hr p.1 (List.mem_map.2 ⟨p, hp, rfl⟩))
    unfold WideElems.rd
    rw [e1, hkey]
    rfl
  have hmap : (es.toList.map (WideElems.rg P k fun _ => some ((.nil : DataW Unit), []))).map (fun p => Go.intOf p.1) = mkeys l := by
    have e2 : mkeys l = es.toList.map fun x => Go.intOf (match x.key with | .int k a => .int k a | _ => .bool false) := by
      have := congrArg (List.map fun p : Value × Value => Go.intOf (match p.1 with | .int k a => .int k a | _ => .bool false)) (show es.toList.map (fun e => (e.key, e.val)) = _ from hes)
      rw [List.map_map, List.map_map] at this
      exact this.symm
    rw [e2, List.map_map]
    refine List.map_congr_left fun x hx => ?_
    obtain ⟨a, h1, h2⟩ := hrd x hx
    simp only [Function.comp_apply, WideElems.rg_of h2, h1]
  have hp := WideShapes.sorted_perm (es.toList.map (WideElems.rg P k fun _ => some ((.nil : DataW Unit), [])))
  refine ⟨_, ⟨es, c, hm, ⟨by omega, hst, fun x hx => by obtain ⟨a, -, h2⟩ := hrd x hx; exact ⟨_, h2⟩⟩, by omega, rfl⟩, ?_, ?_⟩
  · have := hp.map (fun p => Go.intOf p.1)
    rw [hmap] at this
    exact this
  · show ((es.toList.map _).foldr DataW.insert []).length = _
    rw [hp.length_eq]
    simpa using hlen

theorem SlB.of_ownsRow {w : World} {base : Nat} {e : TypeId} {v : Value} {n : Nat} {vs : List Value} (h : w.ownsRow base e 1 v n vs) : ∃ a c G, v = .slice a n c ∧ SlB w a n c 1 vs G ∧ Beyond base G := by
  obtain ⟨h1, h⟩ := h
  rw [Nat.mul_one] at h1
  rcases h with ⟨rfl, rfl⟩ | ⟨g, cap, cur, rfl, hb, hg, r1, r2, r3, r4⟩
  · obtain rfl : vs = [] := List.eq_nil_of_length_eq_zero h1
    exact ⟨none, 0, [], rfl, SlB.nil w 1, by intro x hx; cases hx⟩
  · refine ⟨_, cap, [g], rfl, .inr ⟨g, 0, cur, e, rfl, rfl, hg, r1, by omega, by omega, fun i hi => ?_⟩, by intro x hx; simp only [List.mem_singleton] at hx; omega⟩
    rw [← r4, Nat.mul_one, List.getElem?_take_of_lt (by omega), Nat.zero_add, Array.getElem?_toList]

theorem mod_of_below {w w' : World} (h : RowKit.Below w.heap.size w w') : Mod [] w w' := ⟨h.os, h.tape, h.output, h.size, fun b hb _ => h.block b hb⟩

theorem mergeSort_rising {l l' : List Int} (hp : l.Perm l') (hr : Rising l') : l.mergeSort leI = l' := by
  rw [mergeSort_of_perm_i hp]
  exact List.mergeSort_of_pairwise (hr.imp fun h => by simp only [leI, decide_eq_true_eq]; omega)

set_option maxHeartbeats 1000000 in
set_option maxRecDepth 100000 in
theorem sorted_keys {w : World} {m : Nat} {l : KV} (h : MapP w m l) {R : List Int} (hR : Rising R) (hp : (mkeys l).Perm R) (hr : ∀ x ∈ R, (Lit.int .i64 x).wf = true) (hl : l.length ≤ 1000000) {K : Value → World → Prop}
    (hK : ∀ w' a c G, SlB w' a R.length c 1 (i64s R) G → Beyond w.heap.size G → Mod [] w w' → K (.slice a R.length c) w') :
    CallsR Tryz.prog F_maps_Keys_map_int_exodisk_entry_int_exodisk_entry #[.map (some m)] w fun v w' => CallsR Tryz.prog F_slices_Sorted_int #[v] w' K := by
  have hk := Tryz.keysL.t26
  obtain ⟨D0, hown, hperm, hsz⟩ := keys_own hk h (fun x hx => hr x (hp.mem_iff.1 hx)) (by unfold maxLen; omega)
  have cK := callsIn_wide.1 (AnyZI.keys_in Tryz.keysL Fence.wide 5 trivial rfl (some m) w)
  refine Calls.mono cK ?_
  rintro e w1 ⟨rfl, rfl⟩
  refine ⟨_, rfl, ?_⟩
  have hlt := h.lt
  generalize hw1 : w.alloc (.cells #[.map (some m)] (Tryz.keysL_ren.t 23)) = w1
  have hb1 : RowKit.Below w.heap.size w w1 := by rw [← hw1]; exact (RowKit.Below.refl _ w).alloc (Nat.le_refl _) _
  have hseq : SeqGives Fence.wide 2 Tryz.prog (Tryz.keysL_ren.f 10) #[.pointer (some ⟨w.heap.size, 0, none⟩)] encZ (fun ss => ss.Perm (intKeys D0)) (Maps.size D0) w1 :=
    AnyZI.keys_gives (ρ := Tryz.keysL_ren) { Tryz.keysL with } Fence.wide _ trivial rfl (by omega) w.heap.size m l.length D0 _ (by rw [← hw1]; simp) (by rw [← hw1]; simp) (by
      obtain ⟨es, clock, hb, Ft, hs, hD⟩ := hown
      exact ⟨es, clock, (hb1.block m hlt).trans hb, Ft, hs, hD⟩)
  have sorts : AnyZI.SortsIn Tryz.prog Tryz.sortedL_ren Fence.wide 4 :=
    ⟨fun blk off cap ss W hH hblk hsz => callsIn_wide.2 (AnyM.slices_Sort_int Tryz.sortL blk off cap ss W hH hblk hsz), fun p cap W => callsIn_wide.2 (AnyM.slices_Sort_int_none Tryz.sortL p cap W)⟩
  have cS := AnyZI.sorted_in Tryz.sortedL Fence.wide 5 trivial trivial trivial trivial rfl (by omega) sorts (Tryz.sortL.f5.enters rfl) (Tryz.keysL_ren.f 10) #[.pointer (some ⟨w.heap.size, 0, none⟩)] trivial (Tryz.keysL.f10.enters rfl) _ _ (by rw [hsz]; unfold maxLen; omega) (by rw [hsz]; omega) w1 hseq
  refine Calls.mono (callsIn_wide.1 cS) ?_
  rintro e w2 ⟨v, ss, rfl, hS, hrow, -, hb⟩
  have es := mergeSort_rising ((hS.trans hperm).trans hp) hR
  have hlen : ss.length = R.length := ((hS.trans hperm).trans hp).length_eq
  rw [show (ss.mergeSort fun x y => decide (x ≤ y)) = ss.mergeSort leI from rfl, es, hlen] at hrow
  obtain ⟨a, c, G, rfl, hs, hG⟩ := SlB.of_ownsRow hrow
  have m1 := mod_of_below hb1
  have m2 := mod_of_below hb
  exact ⟨_, rfl, hK w2 a c G hs (fun x hx => Nat.le_trans m1.size (hG x hx)) (m1.trans' m2)⟩

end Go.Proofs

set_option linter.unusedSimpArgs false
namespace Go.Proofs
open Go Go.Den

def All32 (bs : List (List Int)) : Prop := ∀ b ∈ bs, b.length = 32
theorem All32.set {bs : List (List Int)} (h : All32 bs) (k : Nat) {ws : List Int} (hw : ws.length = 32) : All32 (bs.set k ws) := by
  intro b hb
  rcases List.mem_or_eq_of_mem_set hb with hb | rfl
  · exact h b hb
  · exact hw
theorem All32.get {bs : List (List Int)} (h : All32 bs) {k : Nat} {b : List Int} (hk : bs[k]? = some b) : b.length = 32 := h b (List.mem_of_getElem? hk)
theorem All32.rep (n : Nat) : All32 (List.replicate n (List.replicate 32 0)) := by
  intro b hb
  rw [List.eq_of_mem_replicate hb]; simp

theorem flatten_length {bs : List (List Int)} (h : All32 bs) : bs.flatten.length = bs.length * 32 := by
  induction bs with
  | nil => rfl
  | cons x bs ih =>
    have := ih (fun b hb => h b (by simp [hb]))
    have hx := h x (by simp)
    rw [List.flatten_cons, List.length_append, List.length_cons, this, hx]; omega
theorem flatten_take {bs : List (List Int)} (h : All32 bs) : ∀ (k : Nat) (b : List Int), bs[k]? = some b → (bs.flatten.drop (k * 32)).take 32 = b := by
  induction bs with
  | nil => intro k b hk; simp at hk
  | cons x bs ih =>
    intro k b hk
    have hx : x.length = 32 := h x (by simp)
    cases k with
    | zero => simp at hk; subst hk; simp [hx]
    | succ k =>
      have := ih (fun b hb => h b (by simp [hb])) k b (by simpa using hk)
      rw [List.flatten_cons, show (k + 1) * 32 = x.length + k * 32 by omega, List.drop_append, List.drop_eq_nil_of_le (by omega), List.nil_append, show x.length + k * 32 - x.length = k * 32 by omega]
      exact this
theorem flatten_get {bs : List (List Int)} (h : All32 bs) {k : Nat} {b : List Int} (hk : bs[k]? = some b) {j : Nat} (hj : j < 32) : bs.flatten[k * 32 + j]? = b[j]? := by
  have := flatten_take h k b hk
  rw [← this, List.getElem?_take, if_pos hj, List.getElem?_drop]
theorem flatten_set {bs : List (List Int)} (h : All32 bs) {ws : List Int} (hw : ws.length = 32) : ∀ (k : Nat), k < bs.length → (bs.set k ws).flatten = bs.flatten.take (k * 32) ++ ws ++ bs.flatten.drop (k * 32 + 32) := by
  induction bs with
  | nil => intro k hk; simp at hk
  | cons x bs ih =>
    intro k hk
    have hx : x.length = 32 := h x (by simp)
    cases k with
    | zero => simp [List.drop_append, hx, List.drop_eq_nil_of_le]
    | succ k =>
      have := ih (fun b hb => h b (by simp [hb])) k (by simpa using hk)
      have e1 : (x ++ bs.flatten).take ((k + 1) * 32) = x ++ bs.flatten.take (k * 32) := by
        rw [List.take_append, List.take_of_length_le (by omega), hx, show (k + 1) * 32 - 32 = k * 32 by omega]
      have e2 : (x ++ bs.flatten).drop ((k + 1) * 32 + 32) = bs.flatten.drop (k * 32 + 32) := by
        rw [List.drop_append, List.drop_eq_nil_of_le (by omega), hx, show (k + 1) * 32 + 32 - 32 = k * 32 + 32 by omega, List.nil_append]
      rw [List.set_cons_succ, List.flatten_cons, this, List.flatten_cons, e1, e2]
      simp
theorem flatten_set1 {bs : List (List Int)} (h : All32 bs) (v : Int) : ∀ (k : Nat) (b : List Int) (j : Nat), bs[k]? = some b → j < 32 → bs.flatten.set (k * 32 + j) v = (bs.set k (b.set j v)).flatten := by
  induction bs with
  | nil => intro k b j hk; simp at hk
  | cons x bs ih =>
    intro k b j hk hj
    have hx : x.length = 32 := h x (by simp)
    cases k with
    | zero =>
      simp only [List.getElem?_cons_zero, Option.some.injEq] at hk
      subst hk
      rw [List.flatten_cons, List.set_append_left _ _ (by omega)]
      simp
    | succ k =>
      have := ih (fun b hb => h b (by simp [hb])) k b j (by simpa using hk) hj
      rw [List.flatten_cons, List.set_append_right _ _ (by omega), hx, show (k + 1) * 32 + j - 32 = k * 32 + j by omega, this, List.set_cons_succ, List.flatten_cons]

theorem zrow_const {z : Value} {x : Value} {m : Nat} (h : z.cells.toList = List.replicate m x) (hm : 0 < m) (n : Nat) : zrow z n = List.replicate n x := by
  unfold zrow
  apply List.ext_getElem?
  intro i
  rw [h, List.getElem?_map, List.getElem?_replicate]
  by_cases hi : i < n
  · rw [if_pos hi, List.getElem?_range hi, Option.map_some, List.length_replicate]
    have : i % m < m := Nat.mod_lt _ hm
    simp [this]
  · rw [if_neg hi, List.getElem?_eq_none (by simpa using hi)]
    rfl

/-- A part of a row is a row. -/
theorem SlB.sub {w : World} {q o l c sz : Nat} {vs : List Value} {F : List Nat} (h : SlB w (some ⟨q, o, none⟩) l c sz vs F) {j m : Nat} (hj : j + m ≤ vs.length) : SlB w (some ⟨q, o + j, none⟩) m m 1 ((vs.drop j).take m) [q] := by
  rcases h with ⟨h, _⟩ | ⟨b, o', arr, T, ha, rfl, hb, hlc, hcap, hlen, hget⟩
  · cases h
  · cases ha
    have : l * sz ≤ c * sz := Nat.mul_le_mul_right _ hlc
    refine .inr ⟨q, o + j, arr, T, rfl, rfl, hb, Nat.le_refl _, by omega, by simp; omega, ?_⟩
    intro i hi
    simp at hi
    rw [List.getElem?_take, if_pos (by omega), List.getElem?_drop, Nat.add_assoc]
    exact hget (j + i) (by omega)

end Go.Proofs

set_option linter.unusedSimpArgs false
namespace Go.Proofs
open Go Go.Den

/-- A row of words is copied into a new one. -/
theorem fresh_K {w : World} {a2 : Option Addr} {l2 c2 : Nat} {xs : List Int} {H : List Nat} (hx : Rd w a2 l2 1 (u64s xs) H) (hl : l2 ≤ 1000000) {ty : TypeId} {t : TypeId} {bys : Nat} {z : Value} {e : TypeId} (hT : SlT Tryz.prog t e 1 bys z) (hb : bys ≤ 8) {K : Value → World → Prop}
    (h : ∀ A C w' G, SlB w' A l2 C 1 (u64s xs) G → Beyond w.heap.size G → Mod [] w w' → K (.slice A l2 C) w') :
    runK ((Builtin.append_ #[t, t] ty #[.slice none 0 0, .slice a2 l2 c2]).run Tryz.prog w) K := by
  have hle : (0 + l2) * bys ≤ 1000000 * 8 := Nat.mul_le_mul (by omega) hb
  refine grow_rd_K hT (by decide) (SlB.nil w 1) hx (u64s_cell xs) (by omega) (by omega) fun A C w' G hs hm ho => ?_
  rw [Nat.zero_add, List.nil_append] at hs
  rw [Nat.zero_add]
  exact h A C w' G hs (fun b hb => (ho b hb).elim (fun h => by cases h) id) hm

/-- The program's disk at block 'p': the blocks 'bs'. -/
def DiskP (w : World) (p : Nat) (bs : List (List Int)) (F : List Nat) : Prop :=
  ∃ (q : Nat) (T : TypeId) (g u : Int), w.heap[p]? = some (.cells #[.int .i64 (bs.length : Int), .slice (some ⟨q, 0, none⟩) (bs.length * 32) (bs.length * 32), .int .i64 g, .int .i64 u] T (0, 0)) ∧
    SlB w (some ⟨q, 0, none⟩) (bs.length * 32) (bs.length * 32) 1 (u64s bs.flatten) [q] ∧ F = [p, q] ∧ p ≠ q ∧ All32 bs ∧ bs.length ≤ 1024

theorem DiskP.keep {w w' : World} {p : Nat} {bs : List (List Int)} {F : List Nat} (h : DiskP w p bs F) (hk : ∀ b ∈ F, w'.heap[b]? = w.heap[b]?) : DiskP w' p bs F := by
  obtain ⟨q, T, g, u, h1, h2, rfl, h3⟩ := h
  exact ⟨q, T, g, u, (hk p (by simp)).trans h1, h2.keep (fun b hb => hk b (by simp at hb; simp [hb])), rfl, h3⟩
theorem DiskP.lt {w : World} {p : Nat} {bs : List (List Int)} {F : List Nat} (h : DiskP w p bs F) : ∀ b ∈ F, b < w.heap.size := by
  obtain ⟨q, T, g, u, h1, h2, rfl, h3⟩ := h
  intro b hb
  simp at hb
  rcases hb with rfl | rfl
  · exact lt_of_get h1
  · exact h2.lt _ (by simp)
theorem DiskP.all {w : World} {p : Nat} {bs : List (List Int)} {F : List Nat} (h : DiskP w p bs F) : All32 bs ∧ bs.length ≤ 1024 := by
  obtain ⟨q, T, g, u, h1, h2, rfl, h3, h4⟩ := h
  exact h4

theorem disk_at {w : World} {p : Nat} {bs : List (List Int)} {F : List Nat} (h : DiskP w p bs F) (block : Int) {K : Value → World → Prop}
    (h0 : block < 0 ∨ (bs.length : Int) ≤ block → K (.slice none 0 0) w)
    (h1 : ∀ (k : Nat) (b : List Int) (a : Option Addr) (q : Nat), block = k → bs[k]? = some b → F = [p, q] → SlB w a 32 32 1 (u64s b) [q] → a = some ⟨q, k * 32, none⟩ → K (.slice a 32 32) w) :
    CallsR Tryz.prog F_blocks_Disk_at #[.pointer (some ⟨p, 0, none⟩), .int .i64 block] w K := by
  apply R_blocks_Disk_at_ok
  obtain ⟨q, T, g, u, hp, hs, rfl, hpq, hb, hn⟩ := h
  simp only [R_blocks_Disk_at, Option.isNone_some, spl_false, spl_decide, nilK_some, addr_add, cell_get hp]
  refine ⟨fun h => h0 (.inl h), fun hge => ⟨_, rfl, fun h => h0 (.inr h), fun hlt => ⟨_, _, _, rfl, ?_⟩⟩⟩
  obtain ⟨k, rfl⟩ := nat_of (by omega : 0 ≤ block)
  have hk : k < bs.length := by omega
  have e1 : IntKind.i64.wrap ((k : Int) * 32) = ((k * 32 : Nat) : Int) := by rw [w64 (by omega) (by omega)]; omega
  have e2 : IntKind.i64.wrap ((k : Int) + 1) = ((k + 1 : Nat) : Int) := by rw [w64 (by omega) (by omega)]; omega
  have e3 : IntKind.i64.wrap (((k + 1 : Nat) : Int) * 32) = (((k + 1) * 32 : Nat) : Int) := by rw [w64 (by omega) (by omega)]; omega
  rw [e1, e2, e3]
  refine slK_of hs (L := k * 32) (H := (k + 1) * 32) (M := (k + 1) * 32) (.inl rfl) (.inl rfl) (.inl ⟨rfl, rfl⟩) (by omega) (by omega) (by omega) (by omega) ?_
  intro a' hadr ha
  have e : (k + 1) * 32 - k * 32 = 32 := by omega
  rw [e] at ha ⊢
  obtain ⟨b, hbk⟩ : ∃ b, bs[k]? = some b := ⟨bs[k], by simp⟩
  have hv : ((u64s bs.flatten).drop (k * 32 * 1)).take (32 * 1) = u64s b := by
    simp only [u64s, Nat.mul_one, ← List.map_drop, ← List.map_take, flatten_take hb k b hbk]
  rw [hv] at ha
  refine h1 k b a' q rfl hbk rfl ha ?_
  rw [hadr, slA, if_neg (by omega)]
  simp

theorem disk_new (n : Int) (w : World) {K : Value → World → Prop} (h0 : n < 1 ∨ 1024 < n → K (.pointer none) w)
    (h1 : ∀ (k p : Nat) (F : List Nat) (w' : World), n = k → 1 ≤ k → k ≤ 1024 → DiskP w' p (List.replicate k (List.replicate 32 0)) F → Mod [] w w' → (∀ b ∈ F, w.heap.size ≤ b) → K (.pointer (some ⟨p, 0, none⟩)) w') :
    CallsR Tryz.prog F_blocks_New #[.int .i64 n] w K := by
  apply R_blocks_New_ok
  simp only [R_blocks_New, spl_decide]
  refine ⟨fun h => h0 (.inl h), fun hge => ⟨fun h => h0 (.inr h), fun hle => ?_⟩⟩
  obtain ⟨k, rfl⟩ := nat_of (by omega : 0 ≤ n)
  have e1 : IntKind.i64.wrap ((k : Int) * 32) = ((k * 32 : Nat) : Int) := by rw [w64 (by omega) (by omega)]; omega
  rw [e1]
  obtain ⟨w1, hr, hs, hm⟩ := makeSlice_run slT_u64 w (k := .i64) (k' := .i64) (l := k * 32) (c := k * 32) (Nat.le_refl _) (by omega) (by omega)
  refine ⟨_, _, hr, _, _, _, rfl, ?_⟩
  simp only [newK_eq]
  have hlt := hs.lt w.heap.size (by simp)
  refine h1 k w1.heap.size [w1.heap.size, w.heap.size] _ rfl (by omega) (by omega) ⟨w.heap.size, _, 0, 0, by simpa using alloc_new _ _, ?_, rfl, by omega, ?_, by simp; omega⟩ (hm.alloc _) ?_
  · have e2 : zrow (.int .u64 0) (k * 32 * 1) = u64s (List.replicate k (List.replicate 32 (0 : Int))).flatten := by
      rw [zrow_one rfl, List.flatten_replicate_replicate]; simp [u64s]
    rw [e2] at hs
    have := fun T : TypeId => hs.mod (S := []) ((Mod.refl _ w1).alloc (.cells #[.int .i64 (k : Int), .slice (some ⟨w.heap.size, 0, none⟩) (k * 32) (k * 32), .int .i64 0, .int .i64 0] T)) (by simp)
    simpa using this _
  · intro b hb
    rw [List.eq_of_mem_replicate hb]; simp
  · intro b hb
    simp at hb
    have := hm.size
    omega

theorem disk_put {w : World} {p : Nat} {bs : List (List Int)} {F : List Nat} (h : DiskP w p bs F) (block : Int) {a : Option Addr} {l c : Nat} {ws : List Int} {G : List Nat}
    (hw : SlB w a l c 1 (u64s ws) G) (hG : ∀ b ∈ G, b ∉ F) {K : Value → World → Prop} (h0 : block < 0 ∨ (bs.length : Int) ≤ block ∨ ws.length ≠ 32 → K (.int .i64 101) w)
    (h1 : ∀ (k : Nat) (w' : World), block = k → k < bs.length → ws.length = 32 → DiskP w' p (bs.set k ws) F → Mod F w w' → K (.int .i64 0) w') :
    CallsR Tryz.prog F_blocks_Disk_Put #[.pointer (some ⟨p, 0, none⟩), .int .i64 block, .slice a l c] w K := by
  apply R_blocks_Disk_Put_ok
  have hl : ws.length = l := by have := hw.length; simpa [u64s] using this
  refine disk_at h block (fun hb => ?_) (fun k b a' q hk hbk hF hs ha => ?_)
  · exact ⟨_, _, _, rfl, by simpa using h0 (by omega)⟩
  · refine ⟨_, _, _, rfl, ?_⟩
    subst ha
    simp only [Option.isNone_some, spl_false, spl_bne]
    refine ⟨fun hne => h0 (.inr (.inr (by omega))), fun heq => ?_⟩
    have hl32 : l = 32 := by omega
    subst hl32
    have h' := h
    obtain ⟨q', T, g, u, hp, hsq, rfl, hpq, hb32, hn⟩ := h
    simp only [List.cons.injEq, true_and, and_true] at hF
    subst hF
    simp only [nilK_some, addr_add, cell_get hp]
    refine ⟨_, rfl, stK_of hp (by simp) ?_⟩
    obtain ⟨arr, T2, hq, hcap, _⟩ := hsq.block
    have hq2 : (w.upd p (.cells (splice #[.int .i64 (bs.length : Int), .slice (some ⟨q', 0, none⟩) (bs.length * 32) (bs.length * 32), .int .i64 g, .int .i64 u] 3 [.int .i64 (IntKind.i64.wrap (u + 1))]) T (0, 0))).heap[q']? = some (.cells arr T2 (0, 0)) := by
      rw [upd_ne _ hpq]; exact hq
    have hklt : k < bs.length := (List.getElem?_eq_some_iff.1 hbk).1
    have hw2 : SlB (w.upd p (.cells (splice #[.int .i64 (bs.length : Int), .slice (some ⟨q', 0, none⟩) (bs.length * 32) (bs.length * 32), .int .i64 g, .int .i64 u] 3 [.int .i64 (IntKind.i64.wrap (u + 1))]) T (0, 0))) a 32 c 1 (u64s ws) G :=
      hw.keep fun b hb => upd_ne _ (by rintro rfl; exact hG _ hb (by simp))
    have hrun := fun (t2 ty : TypeId) => copy_at (t2 := t2) slT_u64 hq2 (o := k * 32) (l := 32) (c := 32) (by omega) hw2 (u64s_cell ws) ty
    refine ⟨_, _, hrun _ _, _, rfl, ?_⟩
    refine h1 k _ hk hklt hl ?_ ?_
    · refine ⟨q', T, g, IntKind.i64.wrap (u + 1), ?_, ?_, rfl, hpq, ?_, by simpa using hn⟩
      · rw [upd_ne _ (Ne.symm hpq), upd_same hp]; simp
      · have hsq2 := hsq.keep (w' := w.upd p (.cells (splice #[.int .i64 (bs.length : Int), .slice (some ⟨q', 0, none⟩) (bs.length * 32) (bs.length * 32), .int .i64 g, .int .i64 u] 3 [.int .i64 (IntKind.i64.wrap (u + 1))]) T (0, 0)))
          (fun b hb => upd_ne _ (by rintro rfl; simp at hb; exact hpq hb))
        have := hsq2.splice hq2 (j := k * 32) (us := u64s ws) (by rw [u64s_length, u64s_length, flatten_length hb32, hl]; omega)
        simp only [Nat.zero_add, u64s_length, hl] at this
        have e : (u64s ws).take (Nat.min 32 32 * 1) = u64s ws := List.take_of_length_le (by simp [u64s, hl])
        rw [e, List.length_set, flatten_set hb32 hl k hklt]
        simpa [u64s] using this
      · intro b hb
        rcases List.mem_or_eq_of_mem_set hb with hb | rfl
        · exact hb32 b hb
        · exact hl
    · exact ((Mod.refl _ _).upd (.inl (by simp)) _).upd (.inl (by simp)) _

theorem disk_get {w : World} {p : Nat} {bs : List (List Int)} {F : List Nat} (h : DiskP w p bs F) (block : Int) {K : Value → World → Prop}
    (h0 : block < 0 ∨ (bs.length : Int) ≤ block → K (.tuple #[.slice none 0 0, .int .i64 101]) w)
    (h1 : ∀ (k : Nat) (b : List Int) (w' : World) (a : Option Addr) (c : Nat) (G : List Nat), block = k → bs[k]? = some b → SlB w' a 32 c 1 (u64s b) G → (∀ b ∈ G, w.heap.size ≤ b) → DiskP w' p bs F → Mod F w w' → K (.tuple #[.slice a 32 c, .int .i64 0]) w') :
    CallsR Tryz.prog F_blocks_Disk_Get #[.pointer (some ⟨p, 0, none⟩), .int .i64 block] w K := by
  apply R_blocks_Disk_Get_ok
  refine disk_at h block (fun hb => ?_) (fun k b a' q hk hbk hF hs ha => ?_)
  · exact ⟨_, _, _, rfl, by simpa using h0 hb⟩
  · refine ⟨_, _, _, rfl, ?_⟩
    subst ha
    simp only [Option.isNone_some, spl_false, spl_bne]
    obtain ⟨q', T, g, u, hp, hsq, rfl, hpq, hb32, hn⟩ := h
    simp only [List.cons.injEq, true_and, and_true] at hF
    subst hF
    simp only [nilK_some, addr_add, cell_get hp]
    refine ⟨_, rfl, stK_of hp (by simp) ?_⟩
    generalize hw1 : (w.upd p (.cells (splice #[.int .i64 (bs.length : Int), .slice (some ⟨q', 0, none⟩) (bs.length * 32) (bs.length * 32), .int .i64 g, .int .i64 u] (0 + 2) [.int .i64 (IntKind.i64.wrap (g + 1))]) T (0, 0))) = w1
    have hm1 : Mod [p, q'] w w1 := by rw [← hw1]; exact (Mod.refl _ _).upd (.inl (by simp)) _
    have hp1 : w1.heap[p]? = some (.cells #[.int .i64 (bs.length : Int), .slice (some ⟨q', 0, none⟩) (bs.length * 32) (bs.length * 32), .int .i64 (IntKind.i64.wrap (g + 1)), .int .i64 u] T (0, 0)) := by rw [← hw1, upd_same hp]; simp
    have hk1 : ∀ b ∈ [q'], w1.heap[b]? = w.heap[b]? := fun b hb => by simp at hb; subst hb; rw [← hw1]; exact upd_ne _ hpq
    have hs1 := hs.keep hk1
    have hb' : b.length = 32 := hb32 b (List.mem_of_getElem? hbk)
    refine fresh_K hs1.rd (by omega) slT_u64 (by decide) fun a2 c2 w2 G hs2 hG hm2 => ⟨_, _, _, rfl, h1 k b w2 a2 c2 G hk hbk hs2 (fun b hb => Nat.le_trans hm1.size (hG b hb)) ⟨q', T, _, u, hm2.get hp1 (by simp), (hsq.keep hk1).mod hm2 (by simp), rfl, hpq, hb32, hn⟩ (hm1.trans hm2 (by simp))⟩

end Go.Proofs

set_option linter.unusedSimpArgs false
namespace Go.Proofs
open Go Go.Den

/-- The slices 'hs' read as the rows 'bs', which lie in the blocks 'Fs'. -/
def Rows3 (w : World) (hs : List Value) (bs : List (List Int)) (Fs : List Nat) : Prop :=
  hs.length = bs.length ∧ ∀ (i : Nat) (b : List Int), bs[i]? = some b → ∃ (a : Option Addr) (c : Nat) (G : List Nat), hs[i]? = some (.slice a b.length c) ∧ SlB w a b.length c 1 (u64s b) G ∧ ∀ x ∈ G, x ∈ Fs

theorem Rows3.keep {w w' : World} {hs : List Value} {bs : List (List Int)} {Fs : List Nat} (h : Rows3 w hs bs Fs) (hk : ∀ b ∈ Fs, w'.heap[b]? = w.heap[b]?) : Rows3 w' hs bs Fs :=
  ⟨h.1, fun i b hb => by
    obtain ⟨a, c, G, h1, h2, h3⟩ := h.2 i b hb
    exact ⟨a, c, G, h1, h2.keep (fun x hx => hk x (h3 x hx)), h3⟩⟩
theorem Rows3.cells {w : World} {hs : List Value} {bs : List (List Int)} {Fs : List Nat} (h : Rows3 w hs bs Fs) : ∀ v ∈ hs, isCell v = true := by
  intro v hv
  obtain ⟨i, hi⟩ := List.mem_iff_getElem?.1 hv
  have hlt : i < bs.length := by rw [← h.1]; exact (List.getElem?_eq_some_iff.1 hi).1
  obtain ⟨a, c, G, h1, _⟩ := h.2 i bs[i] (by simp [hlt])
  rw [hi] at h1
  cases h1
  rfl
theorem Rows3.snoc {w : World} {hs : List Value} {bs : List (List Int)} {Fs : List Nat} (h : Rows3 w hs bs Fs) {a : Option Addr} {c : Nat} {b : List Int} {G : List Nat} (hb : SlB w a b.length c 1 (u64s b) G) :
    Rows3 w (hs ++ [.slice a b.length c]) (bs ++ [b]) (Fs ++ G) := by
  refine ⟨by simp [h.1], fun i b' hb' => ?_⟩
  by_cases hi : i < bs.length
  · rw [List.getElem?_append_left hi] at hb'
    obtain ⟨a, c, G, h1, h2, h3⟩ := h.2 i b' hb'
    exact ⟨a, c, G, by rw [List.getElem?_append_left (by rw [h.1]; exact hi)]; exact h1, h2, fun x hx => by simp [h3 x hx]⟩
  · rw [List.getElem?_append_right (by omega)] at hb'
    have h0 : i - bs.length = 0 := by
      have := (List.getElem?_eq_some_iff.1 hb').1
      simp at this
      omega
    rw [h0] at hb'
    simp at hb'
    subst hb'
    exact ⟨a, c, G, by rw [List.getElem?_append_right (by rw [h.1]; omega), h.1, h0]; simp, hb, fun x hx => by simp [hx]⟩
theorem Rows3.set {w : World} {hs : List Value} {bs : List (List Int)} {Fs : List Nat} (h : Rows3 w hs bs Fs) (k : Nat) {a : Option Addr} {c : Nat} {b : List Int} {G : List Nat} (hb : SlB w a b.length c 1 (u64s b) G) :
    Rows3 w (hs.set k (.slice a b.length c)) (bs.set k b) (Fs ++ G) := by
  refine ⟨by simp [h.1], fun i b' hb' => ?_⟩
  rw [List.getElem?_set] at hb' ⊢
  by_cases hi : k = i
  · rw [if_pos hi] at hb' ⊢
    by_cases hlt : k < bs.length
    · rw [if_pos hlt] at hb'
      cases hb'
      exact ⟨a, c, G, by rw [if_pos (by rw [h.1]; exact hlt)], hb, fun x hx => by simp [hx]⟩
    · rw [if_neg hlt] at hb'; cases hb'
  · rw [if_neg hi] at hb' ⊢
    obtain ⟨a, c, G, h1, h2, h3⟩ := h.2 i b' hb'
    exact ⟨a, c, G, h1, h2, fun x hx => by simp [h3 x hx]⟩

/-- A slice of rows. -/
def RwP (w : World) (a : Option Addr) (n c : Nat) (bs : List (List Int)) (F : List Nat) : Prop :=
  ∃ (hs : List Value) (R Fs : List Nat), SlB w a n c 1 hs R ∧ Rows3 w hs bs Fs ∧ (∀ x ∈ R, x ∉ Fs) ∧ F = R ++ Fs ∧ ∀ x ∈ Fs, x < w.heap.size

section
variable {w w' : World} {a : Option Addr} {n c : Nat} {bs : List (List Int)} {F : List Nat}
theorem lt_keep {b : Nat} (h : b < w.heap.size) (hk : w'.heap[b]? = w.heap[b]?) : b < w'.heap.size := by
  rw [Array.getElem?_eq_getElem h] at hk
  exact (Array.getElem?_eq_some_iff.1 hk).1
theorem RwP.keep (h : RwP w a n c bs F) (hk : ∀ b ∈ F, w'.heap[b]? = w.heap[b]?) : RwP w' a n c bs F := by
  obtain ⟨hs, R, Fs, h1, h2, h3, rfl, h4⟩ := h
  exact ⟨hs, R, Fs, h1.keep fun b hb => hk b (by simp [hb]), h2.keep fun b hb => hk b (by simp [hb]), h3, rfl, fun x hx => lt_keep (h4 x hx) (hk x (by simp [hx]))⟩
theorem RwP.lt (h : RwP w a n c bs F) : ∀ b ∈ F, b < w.heap.size := by
  obtain ⟨hs, R, Fs, h1, h2, h3, rfl, h4⟩ := h
  intro b hb
  rcases List.mem_append.1 hb with hb | hb
  · exact h1.lt b hb
  · exact h4 b hb
theorem RwP.len (h : RwP w a n c bs F) : bs.length = n := by
  obtain ⟨hs, R, Fs, h1, h2, -⟩ := h
  have := h1.length
  rw [h2.1] at this
  omega
theorem RwP.nil (w : World) : RwP w none 0 0 [] [] := ⟨[], [], [], SlB.nil w 1, ⟨rfl, fun i b hb => by simp at hb⟩, by simp, rfl, by simp⟩

/-- A row, as it is read. -/
theorem RwP.row (h : RwP w a n c bs F) {k : Nat} {b : List Int} (hb : bs[k]? = some b) : ∃ (ad : Addr) (a2 : Option Addr) (c2 : Nat) (G : List Nat), a = some ad ∧ w.cell? (Addr.add ad k) = some (.slice a2 b.length c2) ∧ SlB w a2 b.length c2 1 (u64s b) G ∧ ∀ x ∈ G, x ∈ F := by
  obtain ⟨hs, R, Fs, h1, h2, h3, rfl, h4⟩ := h
  obtain ⟨a2, c2, G, g1, g2, g3⟩ := h2.2 k b hb
  have hk : k < hs.length := (List.getElem?_eq_some_iff.1 g1).1
  have hn : 0 < n := by have := h1.length; omega
  obtain ⟨bl, o, rfl, rfl⟩ := h1.isNone hn
  exact ⟨_, a2, c2, G, rfl, by rw [h1.cell hk]; exact g1, g2, fun x hx => by simp [g3 x hx]⟩

/-- A row is replaced. -/
theorem RwP.set (h : RwP w a n c bs F) {k : Nat} (hk : k < n) {a2 : Option Addr} {c2 : Nat} {b : List Int} {G : List Nat} (hb : SlB w a2 b.length c2 1 (u64s b) G) (hG : ∀ x ∈ G, x ∉ F) {ad : Addr} (ha : a = some ad) {K : World → Prop}
    (hK : ∀ w', RwP w' a n c (bs.set k b) (F ++ G) → Mod F w w' → K w') : Go.Den.stK (Addr.add ad k) [.slice a2 b.length c2] w K := by
  obtain ⟨hs, R, Fs, h1, h2, h3, rfl, h4⟩ := h
  have hl := h1.length
  obtain ⟨bl, o, rfl, rfl⟩ := h1.isNone (by omega)
  cases ha
  obtain ⟨arr, T, hbk, hcap, _⟩ := h1.block
  have hle := h1.le
  simp only [addr_add]
  refine stK_of hbk (by simp; omega) ?_
  simp only [splice_cons, splice_nil]
  have hset := h1.set hbk (j := k) (by omega) (.slice a2 b.length c2)
  have ne : ∀ x, x ≠ bl → ∀ o : Obj, (w.upd bl o).heap[x]? = w.heap[x]? := fun x hx o => upd_ne _ (Ne.symm hx)
  refine hK _ ⟨_, [bl], Fs ++ G, hset, (h2.set k hb).keep fun x hx => ne x ?_ _, fun x hx hx' => ?_, by simp, fun x hx => ?_⟩ ((Mod.refl _ w).upd (.inl (by simp)) _)
  · rintro rfl
    rcases List.mem_append.1 hx with hx | hx
    · exact h3 _ (by simp) hx
    · exact hG _ hx (by simp)
  · rcases List.mem_append.1 hx' with hx' | hx'
    · exact h3 x hx hx'
    · exact hG x hx' (by simp [List.mem_singleton.1 hx])
  · rw [upd_size]
    rcases List.mem_append.1 hx with hx | hx
    · exact h4 x hx
    · exact hb.lt x hx

/-- A row more. -/
theorem RwP.push (h : RwP w a n c bs F) {a2 : Option Addr} {c2 : Nat} {b : List Int} {G : List Nat} (hb : SlB w a2 b.length c2 1 (u64s b) G) (hG : ∀ x ∈ G, x ∉ F) {a3 : Option Addr} {c3 : Nat} {H : List Nat} (hx : SlB w a3 1 c3 1 [.slice a2 b.length c2] H)
    {t e bys : Nat} {z : Value} (hT : SlT Tryz.prog t e 1 bys z) (hbys : bys ≤ 24) (hn : n ≤ 100000) {ty : TypeId} {K : Value → World → Prop}
    (hK : ∀ A C w' F', RwP w' A (n + 1) C (bs ++ [b]) F' → Mod F w w' → (∀ x ∈ F', x ∈ F ∨ x ∈ G ∨ w.heap.size ≤ x) → K (.slice A (n + 1) C) w') :
    runK ((Builtin.append_ #[t, t] ty #[.slice a n c, .slice a3 1 c3]).run Tryz.prog w) K := by
  obtain ⟨hs, R, Fs, h1, h2, h3, rfl, h4⟩ := h
  have hle : (n + 1) * bys ≤ 100001 * 24 := Nat.mul_le_mul (by omega) hbys
  refine grow_rd_K hT (by decide) h1 hx.rd (by simp [isCell]) (by omega) (by omega) fun A C w' R' hs' hm ho => ?_
  have hgF : ∀ x ∈ G, x ∉ R := fun x hx hx' => hG x hx (by simp [hx'])
  refine hK A C w' (R' ++ (Fs ++ G)) ⟨_, R', Fs ++ G, hs', (h2.snoc hb).keep fun x hx => hm.keep x ?_ ?_, fun x hx hx' => ?_, rfl, fun x hx => Nat.lt_of_lt_of_le ?_ hm.size⟩ (hm.mono fun x hx => by simp [hx]) fun x hx => ?_
  · rcases List.mem_append.1 hx with hx | hx
    · exact h4 x hx
    · exact hb.lt x hx
  · rcases List.mem_append.1 hx with hx | hx
    · exact fun hx' => h3 x hx' hx
    · exact hgF x hx
  · have hlt : x < w.heap.size := by
      rcases List.mem_append.1 hx' with hx' | hx'
      · exact h4 x hx'
      · exact hb.lt x hx'
    rcases ho x hx with hh | hh
    · rcases List.mem_append.1 hx' with hx' | hx'
      · exact h3 x hh hx'
      · exact hgF x hx' hh
    · omega
  · rcases List.mem_append.1 hx with hx | hx
    · exact h4 x hx
    · exact hb.lt x hx
  · rcases List.mem_append.1 hx with hx | hx
    · rcases ho x hx with hh | hh
      · left; simp [hh]
      · right; right; exact hh
    · rcases List.mem_append.1 hx with hx | hx
      · left; simp [hx]
      · right; left; exact hx

/-- New rows, each nil. -/
theorem RwP.make {t e bys : Nat} (hT : SlT Tryz.prog t e 1 bys (.slice none 0 0)) (hb : bys ≤ 24) {n : Nat} (hn : n ≤ 100000) {K : Value → World → Prop}
    (hK : ∀ A C w' F', RwP w' A n C (List.replicate n []) F' → Beyond w.heap.size F' → Mod [] w w' → K (.slice A n C) w') : runK ((Instr.makeSlice t (.int .i64 (n : Int)) (.int .i64 (n : Int))).run Tryz.prog w) K := by
  have hle : n * bys ≤ 100000 * 24 := Nat.mul_le_mul hn hb
  refine makeSlice_K hT (Nat.le_refl _) (by omega) (by omega) fun w' hs hm => hK _ _ w' [w.heap.size] ⟨_, [w.heap.size], [], hs, ?_, by simp, by simp, by simp⟩ (by intro x hx; simp only [List.mem_singleton] at hx; omega) hm
  rw [zrow_one rfl, Nat.mul_one]
  refine ⟨by simp, fun i b hi => ?_⟩
  rw [List.getElem?_replicate] at hi
  split at hi
  · rename_i hlt
    cases hi
    exact ⟨none, 0, [], by simp [hlt], SlB.nil w' 1, by simp⟩
  · cases hi
end

def rwPart (a : Option Addr) (n c : Nat) (bs : List (List Int)) (F : List Nat) : Part := ⟨F, fun w => RwP w a n c bs F, fun h k => h.keep k, fun h => h.lt⟩

end Go.Proofs
