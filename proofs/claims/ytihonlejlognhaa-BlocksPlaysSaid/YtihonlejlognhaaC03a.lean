/-
  Layer 3: contracts of the program's disk: what each call answers and leaves, over a list of blocks.
-/
import Derived.Test.YtihonlejlognhaaRes
set_option linter.unusedSimpArgs false
namespace Go.Proofs
open Go Go.Den

def u64s (l : List Int) : List Value := l.map (.int .u64)
theorem u64s_length (l : List Int) : (u64s l).length = l.length := by simp [u64s]
theorem u64s_cell (l : List Int) : ∀ u ∈ u64s l, isCell u = true := by
  intro u hu
  simp only [u64s, List.mem_map] at hu
  obtain ⟨n, _, rfl⟩ := hu
  rfl

/-- The program's disk at block 'p': the blocks 'bs', read 'g' times and written 'u' times. -/
def DiskP (w : World) (p : Nat) (bs : List (List Int)) (g u : Int) (F : List Nat) : Prop :=
  ∃ (q : Nat) (T : TypeId), w.heap[p]? = some (.cells #[.int .i64 (bs.length : Int), .slice (some ⟨q, 0, none⟩) (bs.length * 32) (bs.length * 32), .int .i64 g, .int .i64 u] T (0, 0)) ∧
    SlB w (some ⟨q, 0, none⟩) (bs.length * 32) (bs.length * 32) 1 (u64s bs.flatten) [q] ∧ F = [p, q] ∧ p ≠ q ∧ (∀ b ∈ bs, b.length = 32) ∧ bs.length ≤ 1024

theorem DiskP.keep {w w' : World} {p : Nat} {bs : List (List Int)} {g u : Int} {F : List Nat} (h : DiskP w p bs g u F) (hk : ∀ b ∈ F, w'.heap[b]? = w.heap[b]?) : DiskP w' p bs g u F := by
  obtain ⟨q, T, h1, h2, rfl, h3⟩ := h
  exact ⟨q, T, (hk p (by simp)).trans h1, h2.keep (fun b hb => hk b (by simp at hb; simp [hb])), rfl, h3⟩

theorem DiskP.lt {w : World} {p : Nat} {bs : List (List Int)} {g u : Int} {F : List Nat} (h : DiskP w p bs g u F) : ∀ b ∈ F, b < w.heap.size := by
  obtain ⟨q, T, h1, h2, rfl, h3⟩ := h
  intro b hb
  simp at hb
  rcases hb with rfl | rfl
  · exact lt_of_get h1
  · exact h2.lt _ (by simp)

theorem flatten_take {bs : List (List Int)} (h : ∀ b ∈ bs, b.length = 32) : ∀ (k : Nat) (b : List Int), bs[k]? = some b → (bs.flatten.drop (k * 32)).take 32 = b := by
  induction bs with
  | nil => intro k b hk; simp at hk
  | cons x bs ih =>
    intro k b hk
    have hx : x.length = 32 := h x (by simp)
    cases k with
    | zero => simp at hk; subst hk; simp [hx]
    | succ k =>
      have := ih (fun b hb => h b (by simp [hb])) k b (by simpa using hk)
      rw [List.flatten_cons, show (k + 1) * 32 = x.length + k * 32 by omega, List.drop_append, List.drop_eq_nil_of_le (by omega), List.nil_append, show x.length + k * 32 - x.length = k * 32 by omega]
      exact this

theorem disk_at {w : World} {p : Nat} {bs : List (List Int)} {g u : Int} {F : List Nat} (h : DiskP w p bs g u F) (block : Int) {K : Value → World → Prop}
    (h0 : block < 0 ∨ (bs.length : Int) ≤ block → K (.slice none 0 0) w)
    (h1 : ∀ (k : Nat) (b : List Int) (a : Option Addr) (q : Nat), block = k → bs[k]? = some b → F = [p, q] → SlB w a 32 32 1 (u64s b) [q] → a = some ⟨q, k * 32, none⟩ → K (.slice a 32 32) w) :
    CallsR Try.prog F_blocks_Disk_at #[.pointer (some ⟨p, 0, none⟩), .int .i64 block] w K := by
  apply R_blocks_Disk_at_ok
  obtain ⟨q, T, hp, hs, rfl, hpq, hb, hn⟩ := h
  simp only [R_blocks_Disk_at, Option.isNone_some, spl_false, spl_decide, nilK_some, addr_add, cell_get hp]
  refine ⟨fun h => h0 (.inl h), fun hge => ⟨_, rfl, fun h => h0 (.inr h), fun hlt => ⟨_, _, _, rfl, ?_⟩⟩⟩
  obtain ⟨k, rfl⟩ := nat_of (by omega : 0 ≤ block)
  have hk : k < bs.length := by omega
  have e1 : IntKind.i64.wrap ((k : Int) * 32) = ((k * 32 : Nat) : Int) := by rw [w64 (by omega) (by omega)]; omega
  have e2 : IntKind.i64.wrap ((k : Int) + 1) = ((k + 1 : Nat) : Int) := by rw [w64 (by omega) (by omega)]; omega
  have e3 : IntKind.i64.wrap (((k + 1 : Nat) : Int) * 32) = (((k + 1) * 32 : Nat) : Int) := by rw [w64 (by omega) (by omega)]; omega
  rw [e1, e2, e3]
  refine slK_of hs (L := k * 32) (H := (k + 1) * 32) (M := (k + 1) * 32) (.inl rfl) (.inl rfl) (.inl ⟨rfl, rfl⟩) (by omega) (by omega) (by omega) (by omega) ?_
  intro a' hadr ha
  have e : (k + 1) * 32 - k * 32 = 32 := by omega
  rw [e] at ha ⊢
  obtain ⟨b, hbk⟩ : ∃ b, bs[k]? = some b := ⟨bs[k], by simp⟩
  have hv : ((u64s bs.flatten).drop (k * 32 * 1)).take (32 * 1) = u64s b := by
    simp only [u64s, Nat.mul_one, ← List.map_drop, ← List.map_take, flatten_take hb k b hbk]
  rw [hv] at ha
  refine h1 k b a' q rfl hbk rfl ha ?_
  rw [hadr, slA, if_neg (by omega)]
  simp

theorem disk_new (n : Int) (w : World) {K : Value → World → Prop} (h0 : n < 1 ∨ 1024 < n → K (.pointer none) w)
    (h1 : ∀ (k p : Nat) (F : List Nat) (w' : World), n = k → 1 ≤ k → k ≤ 1024 → DiskP w' p (List.replicate k (List.replicate 32 0)) 0 0 F → Mod [] w w' → (∀ b ∈ F, w.heap.size ≤ b) → K (.pointer (some ⟨p, 0, none⟩)) w') :
    CallsR Try.prog F_blocks_New #[.int .i64 n] w K := by
  apply R_blocks_New_ok
  simp only [R_blocks_New, spl_decide]
  refine ⟨fun h => h0 (.inl h), fun hge => ⟨fun h => h0 (.inr h), fun hle => ?_⟩⟩
  obtain ⟨k, rfl⟩ := nat_of (by omega : 0 ≤ n)
  have e1 : IntKind.i64.wrap ((k : Int) * 32) = ((k * 32 : Nat) : Int) := by rw [w64 (by omega) (by omega)]; omega
  rw [e1]
  obtain ⟨w1, hr, hs, hm⟩ := makeSlice_run slT_u64 w (k := .i64) (k' := .i64) (l := k * 32) (c := k * 32) (Nat.le_refl _) (by omega) (by omega)
  refine ⟨_, _, hr, _, _, _, rfl, ?_⟩
  simp only [newK_eq]
  have hlt := hs.lt w.heap.size (by simp)
  refine h1 k w1.heap.size [w1.heap.size, w.heap.size] _ rfl (by omega) (by omega) ⟨w.heap.size, _, by simpa using alloc_new _ _, ?_, rfl, by omega, ?_, by simp; omega⟩ (hm.alloc _) ?_
  · have e2 : zrow (.int .u64 0) (k * 32 * 1) = u64s (List.replicate k (List.replicate 32 (0 : Int))).flatten := by
      rw [zrow_one rfl, List.flatten_replicate_replicate]; simp [u64s]
    rw [e2] at hs
    have := hs.mod (S := []) ((Mod.refl _ w1).alloc (.cells #[.int .i64 (k : Int), .slice (some ⟨w.heap.size, 0, none⟩) (k * 32) (k * 32), .int .i64 0, .int .i64 0] 52)) (by simp)
    simpa using this
  · intro b hb
    rw [List.eq_of_mem_replicate hb]; simp
  · intro b hb
    simp at hb
    have := hm.size
    omega

theorem flatten_length {bs : List (List Int)} (h : ∀ b ∈ bs, b.length = 32) : bs.flatten.length = bs.length * 32 := by
  induction bs with
  | nil => rfl
  | cons x bs ih =>
    have := ih (fun b hb => h b (by simp [hb]))
    have hx := h x (by simp)
    rw [List.flatten_cons, List.length_append, List.length_cons, this, hx]; omega

theorem flatten_set {bs : List (List Int)} (h : ∀ b ∈ bs, b.length = 32) {ws : List Int} (hw : ws.length = 32) : ∀ (k : Nat), k < bs.length → (bs.set k ws).flatten = bs.flatten.take (k * 32) ++ ws ++ bs.flatten.drop (k * 32 + 32) := by
  induction bs with
  | nil => intro k hk; simp at hk
  | cons x bs ih =>
    intro k hk
    have hx : x.length = 32 := h x (by simp)
    cases k with
    | zero => simp [List.drop_append, hx, List.drop_eq_nil_of_le]
    | succ k =>
      have := ih (fun b hb => h b (by simp [hb])) k (by simpa using hk)
      have e1 : (x ++ bs.flatten).take ((k + 1) * 32) = x ++ bs.flatten.take (k * 32) := by
        rw [List.take_append, List.take_of_length_le (by omega), hx, show (k + 1) * 32 - 32 = k * 32 by omega]
      have e2 : (x ++ bs.flatten).drop ((k + 1) * 32 + 32) = bs.flatten.drop (k * 32 + 32) := by
        rw [List.drop_append, List.drop_eq_nil_of_le (by omega), hx, show (k + 1) * 32 + 32 - 32 = k * 32 + 32 by omega, List.nil_append]
      rw [List.set_cons_succ, List.flatten_cons, this, List.flatten_cons, e1, e2]
      simp

theorem disk_put {w : World} {p : Nat} {bs : List (List Int)} {g u : Int} {F : List Nat} (h : DiskP w p bs g u F) (hu : 0 ≤ u ∧ u < 4611686018427387904) (block : Int) {a : Option Addr} {l c : Nat} {ws : List Int} {G : List Nat}
    (hw : SlB w a l c 1 (u64s ws) G) (hG : ∀ b ∈ G, b ∉ F) {K : Value → World → Prop} (h0 : block < 0 ∨ (bs.length : Int) ≤ block ∨ ws.length ≠ 32 → K (.int .i64 101) w)
    (h1 : ∀ (k : Nat) (w' : World), block = k → k < bs.length → ws.length = 32 → DiskP w' p (bs.set k ws) g (u + 1) F → Mod F w w' → K (.int .i64 0) w') :
    CallsR Try.prog F_blocks_Disk_Put #[.pointer (some ⟨p, 0, none⟩), .int .i64 block, .slice a l c] w K := by
  apply R_blocks_Disk_Put_ok
  have hl : ws.length = l := by have := hw.length; simpa [u64s] using this
  refine disk_at h block (fun hb => ?_) (fun k b a' q hk hbk hF hs ha => ?_)
  · exact ⟨_, _, _, rfl, by simpa using h0 (by omega)⟩
  · refine ⟨_, _, _, rfl, ?_⟩
    subst ha
    simp only [Option.isNone_some, spl_false, spl_bne]
    refine ⟨fun hne => h0 (.inr (.inr (by omega))), fun heq => ?_⟩
    have hl32 : l = 32 := by omega
    subst hl32
    have h' := h
    obtain ⟨q', T, hp, hsq, rfl, hpq, hb32, hn⟩ := h
    simp only [List.cons.injEq, true_and, and_true] at hF
    subst hF
    simp only [nilK_some, addr_add, cell_get hp]
    refine ⟨_, rfl, stK_of hp (by simp) ?_⟩
    rw [w64 (by omega) (by omega)]
    obtain ⟨arr, T2, hq, hcap, _⟩ := hsq.block
    have hq2 : (w.upd p (.cells (splice #[.int .i64 (bs.length : Int), .slice (some ⟨q', 0, none⟩) (bs.length * 32) (bs.length * 32), .int .i64 g, .int .i64 u] 3 [.int .i64 (u + 1)]) T (0, 0))).heap[q']? = some (.cells arr T2 (0, 0)) := by
      rw [upd_ne _ hpq]; exact hq
    have hklt : k < bs.length := (List.getElem?_eq_some_iff.1 hbk).1
    have hw2 : SlB (w.upd p (.cells (splice #[.int .i64 (bs.length : Int), .slice (some ⟨q', 0, none⟩) (bs.length * 32) (bs.length * 32), .int .i64 g, .int .i64 u] 3 [.int .i64 (u + 1)]) T (0, 0))) a 32 c 1 (u64s ws) G :=
      hw.keep fun b hb => upd_ne _ (by rintro rfl; exact hG _ hb (by simp))
    refine ⟨_, _, copy_at slT_u64 hq2 (o := k * 32) (l := 32) (c := 32) (by omega) hw2 (u64s_cell ws) 3, _, rfl, ?_⟩
    refine h1 k _ hk hklt hl ?_ ?_
    · refine ⟨q', T, ?_, ?_, rfl, hpq, ?_, by simpa using hn⟩
      · rw [upd_ne _ (Ne.symm hpq), upd_same hp]; simp
      · have hsq2 := hsq.keep (w' := w.upd p (.cells (splice #[.int .i64 (bs.length : Int), .slice (some ⟨q', 0, none⟩) (bs.length * 32) (bs.length * 32), .int .i64 g, .int .i64 u] 3 [.int .i64 (u + 1)]) T (0, 0)))
          (fun b hb => upd_ne _ (by rintro rfl; simp at hb; exact hpq hb))
        have := hsq2.splice hq2 (j := k * 32) (us := u64s ws) (by rw [u64s_length, u64s_length, flatten_length hb32, hl]; omega)
        simp only [Nat.zero_add, u64s_length, hl] at this
        have e : (u64s ws).take (Nat.min 32 32 * 1) = u64s ws := List.take_of_length_le (by simp [u64s, hl])
        rw [e, List.length_set, flatten_set hb32 hl k hklt]
        simpa [u64s] using this
      · intro b hb
        rcases List.mem_or_eq_of_mem_set hb with hb | rfl
        · exact hb32 b hb
        · exact hl
    · exact ((Mod.refl _ _).upd (.inl (by simp)) _).upd (.inl (by simp)) _

theorem disk_get {w : World} {p : Nat} {bs : List (List Int)} {g u : Int} {F : List Nat} (h : DiskP w p bs g u F) (hu : 0 ≤ g ∧ g < 4611686018427387904) (block : Int) {K : Value → World → Prop}
    (h0 : block < 0 ∨ (bs.length : Int) ≤ block → K (.tuple #[.slice none 0 0, .int .i64 101]) w)
    (h1 : ∀ (k : Nat) (b : List Int) (w' : World) (a : Option Addr) (c : Nat) (G : List Nat), block = k → bs[k]? = some b → SlB w' a 32 c 1 (u64s b) G → (∀ b ∈ G, w.heap.size ≤ b) → DiskP w' p bs (g + 1) u F → Mod F w w' → K (.tuple #[.slice a 32 c, .int .i64 0]) w') :
    CallsR Try.prog F_blocks_Disk_Get #[.pointer (some ⟨p, 0, none⟩), .int .i64 block] w K := by
  apply R_blocks_Disk_Get_ok
  refine disk_at h block (fun hb => ?_) (fun k b a' q hk hbk hF hs ha => ?_)
  · exact ⟨_, _, _, rfl, by simpa using h0 hb⟩
  · refine ⟨_, _, _, rfl, ?_⟩
    subst ha
    simp only [Option.isNone_some, spl_false, spl_bne]
    obtain ⟨q', T, hp, hsq, rfl, hpq, hb32, hn⟩ := h
    simp only [List.cons.injEq, true_and, and_true] at hF
    subst hF
    simp only [nilK_some, addr_add, cell_get hp]
    refine ⟨_, rfl, stK_of hp (by simp) ?_⟩
    rw [w64 (by omega) (by omega)]
    generalize hw1 : (w.upd p (.cells (splice #[.int .i64 (bs.length : Int), .slice (some ⟨q', 0, none⟩) (bs.length * 32) (bs.length * 32), .int .i64 g, .int .i64 u] (0 + 2) [.int .i64 (g + 1)]) T (0, 0))) = w1
    have hm1 : Mod [p, q'] w w1 := by rw [← hw1]; exact (Mod.refl _ _).upd (.inl (by simp)) _
    have hp1 : w1.heap[p]? = some (.cells #[.int .i64 (bs.length : Int), .slice (some ⟨q', 0, none⟩) (bs.length * 32) (bs.length * 32), .int .i64 (g + 1), .int .i64 u] T (0, 0)) := by rw [← hw1, upd_same hp]; simp
    have hk1 : ∀ b ∈ [q'], w1.heap[b]? = w.heap[b]? := fun b hb => by simp at hb; subst hb; rw [← hw1]; exact upd_ne _ hpq
    have hs1 := hs.keep hk1
    have hb' : b.length = 32 := hb32 b (List.mem_of_getElem? hbk)
    obtain ⟨a2, c2, w2, G, hr, hs2, hm2, ho⟩ := append_run slT_u64 (by decide) (SlB.nil w1 1) hs1 (u64s_cell b) (by omega) (by omega) 29
    simp only [Nat.zero_add, List.nil_append] at hr hs2
    refine ⟨_, _, hr, _, _, _, rfl, h1 k b w2 a2 c2 G hk hbk hs2 (fun b hb => ?_) ⟨q', T, hm2.get hp1 (by simp), (hsq.keep hk1).mod hm2 (by simp), rfl, hpq, hb32, hn⟩ (hm1.trans hm2 (by simp))⟩
    rcases ho b hb with h | h
    · simp at h
    · exact Nat.le_trans hm1.size h

theorem disk_len {w : World} {p : Nat} {bs : List (List Int)} {g u : Int} {F : List Nat} (h : DiskP w p bs g u F) {K : Value → World → Prop} (h1 : K (.int .i64 (bs.length : Int)) w) :
    CallsR Try.prog F_blocks_Disk_Len #[.pointer (some ⟨p, 0, none⟩)] w K := by
  apply R_blocks_Disk_Len_ok
  obtain ⟨q', T, hp, _⟩ := h
  simp only [R_blocks_Disk_Len, Option.isNone_some, spl_false, nilK_some, addr_add, cell_get hp]
  exact ⟨_, rfl, h1⟩

theorem disk_moves {w : World} {p : Nat} {bs : List (List Int)} {g u : Int} {F : List Nat} (h : DiskP w p bs g u F) {K : Value → World → Prop} (h1 : K (.tuple #[.int .i64 g, .int .i64 u]) w.drew) :
    CallsR Try.prog F_blocks_Disk_Moves #[.pointer (some ⟨p, 0, none⟩)] w K := by
  apply R_blocks_Disk_Moves_ok
  obtain ⟨q', T, hp, _⟩ := h
  simp only [R_blocks_Disk_Moves, Option.isNone_some, spl_false, nilK_some, addr_add, drK_eq, World.cell?_drew, cell_get hp]
  exact ⟨_, rfl, _, rfl, h1⟩

/-! ### A disk that is none -/

theorem none_at (block : Int) {w : World} {K : Value → World → Prop} (h : K (.slice none 0 0) w) : CallsR Try.prog F_blocks_Disk_at #[.pointer none, .int .i64 block] w K := by
  apply R_blocks_Disk_at_ok
  simpa [R_blocks_Disk_at] using h

end Go.Proofs
