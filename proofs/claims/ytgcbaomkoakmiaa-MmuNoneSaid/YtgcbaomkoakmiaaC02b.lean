/-
  Layer 2: contracts of the reference's page table, wherever in a block it lies.
-/
import Derived.Test.YtgcbaomkoakmiaaC02a
set_option linter.unusedSimpArgs false
namespace Go.Proofs
open Go Go.Den

/-- The twelve cells from 'o' on are the table 't'. -/
def TblA (arr : Array Value) (o : Nat) (t : Tb) : Prop :=
  TbOk t ∧ o + 12 ≤ arr.size ∧ ∀ i : Nat, i < 4 → ∃ x : Int × Bool, arr[o + i * 2]? = some (.int .i64 x.1) ∧ arr[o + i * 2 + 1]? = some (.bool x.2) ∧ arr[o + 8 + i]? = some (.bool (t (i : Int)).isSome) ∧ ∀ y, t (i : Int) = some y → x = y

def wr3 (arr : Array Value) (o k : Nat) (x : Int × Bool) (f : Bool) : Array Value := ((arr.setIfInBounds (o + k * 2) (.int .i64 x.1)).setIfInBounds (o + k * 2 + 1) (.bool x.2)).setIfInBounds (o + 8 + k) (.bool f)
theorem wr3_size (arr : Array Value) (o k : Nat) (x : Int × Bool) (f : Bool) : (wr3 arr o k x f).size = arr.size := by simp [wr3]
theorem wr3_get {arr : Array Value} {o k : Nat} (x : Int × Bool) (f : Bool) (hk : k < 4) (hs : o + 12 ≤ arr.size) (i : Nat) :
    (wr3 arr o k x f)[i]? = if i = o + 8 + k then some (.bool f) else if i = o + k * 2 + 1 then some (.bool x.2) else if i = o + k * 2 then some (.int .i64 x.1) else arr[i]? := by
  unfold wr3
  by_cases h1 : i = o + 8 + k
  · rw [if_pos h1, h1, Array.getElem?_setIfInBounds_self_of_lt (by simp; omega)]
  · rw [if_neg h1, Array.getElem?_setIfInBounds_ne (by omega)]
    by_cases h2 : i = o + k * 2 + 1
    · rw [if_pos h2, h2, Array.getElem?_setIfInBounds_self_of_lt (by simp; omega)]
    · rw [if_neg h2, Array.getElem?_setIfInBounds_ne (by omega)]
      by_cases h3 : i = o + k * 2
      · rw [if_pos h3, h3, Array.getElem?_setIfInBounds_self_of_lt (by omega)]
      · rw [if_neg h3, Array.getElem?_setIfInBounds_ne (by omega)]

theorem TblA.wr {arr : Array Value} {o : Nat} {t t' : Tb} (h : TblA arr o t) {k : Nat} (hk : k < 4) (x : Int × Bool) (f : Bool) (hok : TbOk t') (h1 : ∀ j : Int, j ≠ k → t' j = t j) (h2 : (t' (k : Int)).isSome = f) (h3 : ∀ y, t' (k : Int) = some y → x = y) :
    TblA (wr3 arr o k x f) o t' := by
  obtain ⟨-, hs, hc⟩ := h
  refine ⟨hok, by rw [wr3_size]; exact hs, fun i hi => ?_⟩
  by_cases hik : i = k
  · subst hik
    refine ⟨x, ?_, ?_, ?_, h3⟩
    · rw [wr3_get x f hk hs, if_neg (by omega), if_neg (by omega), if_pos rfl]
    · rw [wr3_get x f hk hs, if_neg (by omega), if_pos rfl]
    · rw [wr3_get x f hk hs, if_pos rfl, h2]
  · obtain ⟨y, c1, c2, c3, c4⟩ := hc i hi
    have e := h1 (i : Int) (by omega)
    refine ⟨y, ?_, ?_, ?_, by rw [e]; exact c4⟩
    · rw [wr3_get x f hk hs, if_neg (by omega), if_neg (by omega), if_neg (by omega)]; exact c1
    · rw [wr3_get x f hk hs, if_neg (by omega), if_neg (by omega), if_neg (by omega)]; exact c2
    · rw [wr3_get x f hk hs, if_neg (by omega), if_neg (by omega), if_neg (by omega), e]; exact c3
theorem wr3_out {arr : Array Value} {o k : Nat} (x : Int × Bool) (f : Bool) (hk : k < 4) (hs : o + 12 ≤ arr.size) (i : Nat) (hi : i < o ∨ o + 12 ≤ i) : (wr3 arr o k x f)[i]? = arr[i]? := by
  rw [wr3_get x f hk hs, if_neg (by omega), if_neg (by omega), if_neg (by omega)]

theorem TblA.at {arr : Array Value} {o : Nat} {t : Tb} (h : TblA arr o t) {w : World} {b : Nat} {T : TypeId} (hb : w.heap[b]? = some (.cells arr T (0, 0))) {k : Nat} (hk : k < 4) :
    ∃ x : Int × Bool, w.cell? ⟨b, o + k * 2, none⟩ = some (.int .i64 x.1) ∧ w.cell? ⟨b, o + k * 2 + 1, none⟩ = some (.bool x.2) ∧ w.cell? ⟨b, o + 8 + k, none⟩ = some (.bool (t (k : Int)).isSome) ∧ ∀ y, t (k : Int) = some y → x = y := by
  obtain ⟨x, c1, c2, c3, c4⟩ := h.2.2 k hk
  exact ⟨x, by rw [cell_get hb]; exact c1, by rw [cell_get hb]; exact c2, by rw [cell_get hb]; exact c3, c4⟩

section
variable {w : World} {b o : Nat} {arr : Array Value} {T : TypeId} {t : Tb}

theorem tblr_map (hb : w.heap[b]? = some (.cells arr T (0, 0))) (h : TblA arr o t) (k f : Int) (g : Bool) {K : Value → World → Prop}
    (hK : ∀ (arr' : Array Value) (w' : World), w'.heap[b]? = some (.cells arr' T (0, 0)) → arr'.size = arr.size → TblA arr' o (tMap t k (f, g)) → (∀ i, i < o ∨ o + 12 ≤ i → arr'[i]? = arr[i]?) → Mod [b] w w' → K (.int .i64 (tMapE k f)) w') :
    CallsR Try.prog F_janusref02_Table_Map #[.pointer (some ⟨b, o, none⟩), .int .i64 k, .agg #[.int .i64 f, .bool g]] w K := by
  apply R_janusref02_Table_Map_ok
  simp only [R_janusref02_Table_Map, newK_eq, spl_decide, nilK_some, drK_eq, addr_add]
  generalize hbn : w.heap.size = bn
  have hblt := lt_of_get hb
  have hm1 : Mod [] w (w.alloc (.cells #[.int .i64 f, .bool g] 24)) := (Mod.refl _ _).alloc _
  have hn := alloc_new w (.cells #[.int .i64 f, .bool g] 24)
  rw [hbn] at hn
  have hb1 := alloc_get (.cells #[.int .i64 f, .bool g] 24) hb
  generalize w.alloc (.cells #[.int .i64 f, .bool g] 24) = w1 at hm1 hn hb1 ⊢
  have bad : (k < 0 ∨ 4 ≤ k ∨ f < 0) → K (.int .i64 101) w1 := fun hbad => by
    have := hK arr w1 hb1 rfl (by unfold tMap; rw [if_pos hbad]; exact h) (fun _ _ => rfl) hm1.of0
    rwa [tMapE, if_pos hbad] at this
  refine ⟨fun hk => bad (.inl hk), fun hk0 => ⟨fun hk => bad (.inr (.inl (by omega))), fun hk4 => ⟨f, by rw [cell_get hn]; rfl, fun hf => bad (by omega), fun hf => ?_⟩⟩⟩
  have hgood : ¬ (k < 0 ∨ 4 ≤ k ∨ f < 0) := by omega
  obtain ⟨j, rfl⟩ := nat_of (by omega : 0 ≤ k)
  have hj : j < 4 := by omega
  have hs := h.2.1
  have hnd : w1.drew.heap[bn]? = some _ := hn
  have hbd : w1.drew.heap[b]? = some (.cells arr T (0, 0)) := hb1
  refine ⟨[bn], by simp, f, g, ⟨by rw [cell_get hnd]; rfl, by rw [cell_get hnd]; rfl⟩, ⟨by omega, by omega⟩, ?_⟩
  rw [Int.toNat_natCast]
  refine stK_of hbd (by simp; omega) ⟨⟨by omega, by omega⟩, ?_⟩
  refine stK_of (upd_same hbd) (by simp; omega) ?_
  simp only [splice_cons, splice_nil]
  rw [tMapE, if_neg hgood] at hK
  exact hK (wr3 arr o j (f, g) true) _ (upd_same (upd_same hbd)) (wr3_size _ _ _ _ _) (h.wr hj (f, g) true (h.1.map _ _) (fun i hi => by unfold tMap tput; rw [if_neg hgood, if_neg (Ne.symm hi)]) (by unfold tMap tput; rw [if_neg hgood, if_pos rfl]; rfl) (fun y hy => by unfold tMap tput at hy; rw [if_neg hgood, if_pos rfl] at hy; exact Option.some.inj hy)) (wr3_out _ _ hj hs)
    (((hm1.of0.drew).upd (.inl (by simp)) _).upd (.inl (by simp)) _)

theorem tblr_unmap (hb : w.heap[b]? = some (.cells arr T (0, 0))) (h : TblA arr o t) (k : Int) {K : Value → World → Prop}
    (hK : ∀ (arr' : Array Value) (w' : World), w'.heap[b]? = some (.cells arr' T (0, 0)) → arr'.size = arr.size → TblA arr' o (tdel t k) → (∀ i, i < o ∨ o + 12 ≤ i → arr'[i]? = arr[i]?) → Mod [b] w w' → K (.int .i64 (tUnE t k)) w') :
    CallsR Try.prog F_janusref02_Table_Unmap #[.pointer (some ⟨b, o, none⟩), .int .i64 k] w K := by
  apply R_janusref02_Table_Unmap_ok
  simp only [R_janusref02_Table_Unmap, spl_decide, nilK_some, drK_eq, addr_add]
  have bad : (k < 0 ∨ 4 ≤ k) → K (.int .i64 101) w := fun hbad => by
    have := hK arr w hb rfl (by rw [tdel_none (h.1.none hbad)]; exact h) (fun _ _ => rfl) (Mod.refl _ _)
    rwa [tUnE, if_pos hbad] at this
  refine ⟨fun hk => bad (.inl hk), fun hk0 => ⟨fun hk => bad (.inr (by omega)), fun hk4 => ⟨⟨by omega, by omega⟩, ?_⟩⟩⟩
  obtain ⟨j, rfl⟩ := nat_of (by omega : 0 ≤ k)
  have hj : j < 4 := by omega
  have hs := h.2.1
  obtain ⟨x, c1, c2, c3, c4⟩ := h.at hb hj
  rw [Int.toNat_natCast]
  refine ⟨_, c3, ?_⟩
  cases ht : t (j : Int) with
  | none =>
    refine spl_f rfl ?_
    have := hK arr w hb rfl (by rw [tdel_none ht]; exact h) (fun _ _ => rfl) (Mod.refl _ _)
    rwa [tUnE, if_neg (by omega), if_pos ht] at this
  | some y =>
    refine spl_t rfl ⟨[], ⟨by omega, by omega⟩, ?_⟩
    have hbd : w.drew.heap[b]? = some (.cells arr T (0, 0)) := hb
    refine stK_of hbd (by simp; omega) ⟨⟨by omega, by omega⟩, ?_⟩
    refine stK_of (upd_same hbd) (by simp; omega) ?_
    simp only [splice_cons, splice_nil]
    rw [tUnE, if_neg (by omega), if_neg (by simp [ht])] at hK
    exact hK (wr3 arr o j (0, false) false) _ (upd_same (upd_same hbd)) (wr3_size _ _ _ _ _) (h.wr hj (0, false) false (h.1.del _) (fun i hi => by unfold tdel; rw [if_neg (Ne.symm hi)]) (by unfold tdel; rw [if_pos rfl]; rfl) (fun y hy => by unfold tdel at hy; rw [if_pos rfl] at hy; cases hy)) (wr3_out _ _ hj hs)
      (((Mod.refl _ _).drew.upd (.inl (by simp)) _).upd (.inl (by simp)) _)

theorem tblr_at (hb : w.heap[b]? = some (.cells arr T (0, 0))) (h : TblA arr o t) (k : Int) {K : Value → World → Prop} (hK : ∀ w', Mod [] w w' → K (.tuple #[.agg #[.int .i64 (pz (t k)).1, .bool (pz (t k)).2], .bool (t k).isSome]) w') :
    CallsR Try.prog F_janusref02_Table_At #[.pointer (some ⟨b, o, none⟩), .int .i64 k] w K := by
  apply R_janusref02_Table_At_ok
  simp only [R_janusref02_Table_At, newK_eq, spl_decide, nilK_some, addr_add]
  generalize hbn : w.heap.size = bn
  have hblt := lt_of_get hb
  have hm1 : Mod [] w (w.alloc (.cells #[.int .i64 0, .bool false] 24)) := (Mod.refl _ _).alloc _
  have hn := alloc_new w (.cells #[.int .i64 0, .bool false] 24)
  rw [hbn] at hn
  have hb1 := alloc_get (.cells #[.int .i64 0, .bool false] 24) hb
  generalize w.alloc (.cells #[.int .i64 0, .bool false] 24) = w1 at hm1 hn hb1 ⊢
  have fin : ∀ (x : Int × Bool) (c : Bool), x = pz (t k) → c = (t k).isSome → stK ⟨bn, 0, none⟩ [.int .i64 x.1, .bool x.2] w1 fun w5 => ∃ rf06 rf17, (w5.cell? ⟨bn, 0, none⟩ = some (.int .i64 rf06) ∧ w5.cell? ⟨bn, 1, none⟩ = some (.bool rf17)) ∧ K (.tuple #[.agg #[.int .i64 rf06, .bool rf17], .bool c]) w5 := fun x c hx hc => by
    refine stK_of hn (by simp) ?_
    simp only [splice_cons, splice_nil]
    refine ⟨x.1, x.2, ⟨by rw [cell_get (upd_same hn)]; rfl, by rw [cell_get (upd_same hn)]; rfl⟩, ?_⟩
    rw [hx, hc]
    exact hK _ (hm1.upd (.inr (by omega)) _)
  refine ⟨fun hk => fin (0, false) false (by rw [h.1.none (.inl hk)]; rfl) (by rw [h.1.none (.inl hk)]; rfl), fun hk0 => ⟨fun hk => fin (0, false) false (by rw [h.1.none (.inr (by omega))]; rfl) (by rw [h.1.none (.inr (by omega))]; rfl), fun hk4 => ⟨⟨by omega, by omega⟩, ?_⟩⟩⟩
  obtain ⟨j, rfl⟩ := nat_of (by omega : 0 ≤ k)
  obtain ⟨x, c1, c2, c3, c4⟩ := h.at hb1 (k := j) (by omega)
  rw [Int.toNat_natCast]
  refine ⟨_, c3, ?_⟩
  cases ht : t (j : Int) with
  | none => exact spl_f rfl (fin (0, false) false (by rw [ht]; rfl) (by rw [ht]; rfl))
  | some y =>
    obtain rfl := c4 y ht
    exact spl_t rfl ⟨⟨by omega, by omega⟩, x.1, x.2, ⟨c1, c2⟩, fin x true (by rw [ht]; rfl) (by rw [ht]; rfl)⟩

theorem tblr_walk (hb : w.heap[b]? = some (.cells arr T (0, 0))) (h : TblA arr o t) {addr : Int} (h0 : 0 ≤ addr) (wr : Bool) {K : Value → World → Prop} (hK : ∀ w', Mod [] w w' → K (.tuple #[.int .i64 (walk3 t addr wr).1, .int .i64 (walk3 t addr wr).2.1, .int .i64 (walk3 t addr wr).2.2]) w') :
    CallsR Try.prog F_janusref02_Table_Walk #[.pointer (some ⟨b, o, none⟩), .int .u64 addr, .bool wr] w K := by
  apply R_janusref02_Table_Walk_ok
  simp only [R_janusref02_Table_Walk, spl_decide]
  refine ⟨fun hge => ?_, fun hlt => ⟨by decide, ?_⟩⟩
  · have := hK w (Mod.refl _ _)
    rwa [walk3, if_pos (show 128 ≤ addr from hge)] at this
  · have hlt' : addr < 128 := by omega
    rw [pg h0 hlt', pw h0 hlt']
    refine tblr_at hb h (addr / 32) fun w1 hm1 => ⟨_, _, _, rfl, ?_⟩
    rw [newK_eq]
    refine stK_of (alloc_new _ _) (by simp) ?_
    simp only [splice_cons, splice_nil]
    have hm2 : ∀ o o', Mod [] w ((w1.alloc o).upd w1.heap.size o') := fun o o' => (hm1.alloc _).upd (.inr hm1.size) _
    have hb := upd_same (x := .cells ((#[.int .i64 0, .bool false] : Array Value).setIfInBounds 0 (.int .i64 (pz (t (addr / 32))).1) |>.setIfInBounds (0 + 1) (.bool (pz (t (addr / 32))).2)) 24 (0, 0)) (alloc_new w1 (.cells #[.int .i64 0, .bool false] 24))
    have hm2 := hm2 (.cells #[.int .i64 0, .bool false] 24) (.cells ((#[.int .i64 0, .bool false] : Array Value).setIfInBounds 0 (.int .i64 (pz (t (addr / 32))).1) |>.setIfInBounds (0 + 1) (.bool (pz (t (addr / 32))).2)) 24 (0, 0))
    generalize (w1.alloc _).upd _ _ = w2 at hb hm2 ⊢
    have := hK w2 hm2
    unfold walk3 at this
    rw [if_neg (by omega)] at this
    cases ht : t (addr / 32) with
    | none => rw [ht] at this; exact spl_f rfl this
    | some x =>
      rw [ht] at this hb
      have c0 : w2.cell? ⟨w1.heap.size, 0, none⟩ = some (.int .i64 x.1) := by rw [cell_get hb]; rfl
      have c1 : w2.cell? ⟨w1.heap.size, 1, none⟩ = some (.bool x.2) := by rw [cell_get hb]; rfl
      simp only at this
      refine spl_t rfl ⟨fun w' => w' = w2 ∧ ¬ (wr = true ∧ x.2 = false), ?_, ?_⟩
      · rintro - w' ⟨rfl, hn⟩
        rw [use3, if_neg hn] at this
        exact ⟨_, c0, by decide, this⟩
      · cases wr with
        | false => exact ⟨fun h => (by cases h), fun _ => ⟨rfl, by simp⟩⟩
        | true =>
          rw [spl_true]
          refine ⟨x.2, c1, ?_⟩
          cases hx : x.2 with
          | true => exact spl_t rfl ⟨rfl, by simp⟩
          | false =>
            rw [use3, if_pos ⟨rfl, hx⟩] at this
            exact spl_f rfl this

theorem tblr_frames (hb : w.heap[b]? = some (.cells arr T (0, 0))) (h : TblA arr o t) {K : Value → World → Prop} (hK : ∀ A L C G w', SlB w' A L C 1 (i64s (tFrames t 4)) G → Beyond w.heap.size G → Mod [] w w' → K (.slice A L C) w') :
    CallsR Try.prog F_janusref02_Table_Frames #[.pointer (some ⟨b, o, none⟩)] w K := by
  apply R_janusref02_Table_Frames_ok
  simp only [R_janusref02_Table_Frames, spl_decide, newK_eq, nilK_some, addr_add]
  refine ⟨fun n A L C i w' => ∃ (k : Nat) (G : List Nat), i = k ∧ k ≤ 4 ∧ n = 4 - k ∧ SlB w' A L C 1 (i64s (tFrames t k)) G ∧ Beyond w.heap.size G ∧ Mod [] w w', ⟨4, 0, [], rfl, by omega, rfl, by simpa [tFrames] using SlB.nil w 1, by simp [Beyond], Mod.refl _ _⟩, ?_⟩
  rintro n A L C i - w2 ⟨k, G, rfl, hk, rfl, hs, hG, hm⟩
  have hl := hs.i64
  have hle := tFrames_le t k
  refine ⟨fun hlt => ?_, fun hge => ?_⟩
  · refine ⟨fun A' L' C' w' => ∃ G', SlB w' A' L' C' 1 (i64s (tFrames t (k + 1))) G' ∧ Beyond w.heap.size G' ∧ Mod [] w w', ?_, ⟨by omega, by omega⟩, ?_⟩
    · rintro A' L' C' - w3 ⟨G', hs', hG', hm'⟩
      exact ⟨4 - (k + 1), by omega, k + 1, G', by rw [w64 (by omega) (by omega)]; omega, by omega, rfl, hs', hG', hm'⟩
    obtain ⟨x, c1, c2, c3, c4⟩ := h.at (hm.get hb (by simp)) (k := k) (by omega)
    rw [Int.toNat_natCast]
    refine ⟨_, c3, ?_⟩
    rw [tFrames_succ]
    cases ht : t (k : Int) with
    | none => exact spl_f rfl ⟨G, by simpa using hs, hG, hm⟩
    | some y =>
      obtain rfl := c4 y ht
      refine spl_t rfl ⟨⟨by omega, by omega⟩, x.1, c1, ?_⟩
      refine push_K slT_int (by decide) hs hG hm (us := [.int .i64 x.1]) rfl (by simp [isCell]) (by omega) (by omega) fun A' C' w5 G' hs' hG' hm' _ _ => ⟨_, _, _, rfl, G', ?_, hG', hm'⟩
      rw [i64s_append]
      exact hs'
  · have : k = 4 := by omega
    subst this
    exact hK A L C G w2 hs hG hm
end

end Go.Proofs
