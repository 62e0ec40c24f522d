/-
  exodisk, as plain functions: what the document says of a disk under capabilities with a cache.
  The program's disk: contracts over a list of blocks.
-/
import Derived.Test.YthpcakhhemdibaaGreatMemA
import Derived.Test.YthpcakhhemdibaaGreatCapsA
import Derived.Test.YthpcakhhemdibaaGreatDenC
set_option linter.unusedVariables false
set_option linter.unusedSimpArgs false
namespace Go.Proofs
open Go Go.Den

/-- The disk; capabilities; what is in the cache; what of it is changed; the cached blocks. -/
structure S12 where
  d : List (List Int)
  c : S8
  I : List Int
  N : List Int
  W : List (List Int)

def inD (d : List (List Int)) (b : Int) : Prop := 0 ≤ b ∧ b < (d.length : Int)
instance (d : List (List Int)) (b : Int) : Decidable (inD d b) := inferInstanceAs (Decidable (_ ∧ _))
def row12 (l : List (List Int)) (b : Int) : List Int := (l[b.toNat]?).getD []
def may12 (s : S12) (e sl b r : Int) : Bool := (getV8 s.c.L e sl).2 && (hasR (getV8 s.c.L e sl).1.r r && (decide ((getV8 s.c.L e sl).1.i ≤ b) && decide (b < (getV8 s.c.L e sl).1.i + (getV8 s.c.L e sl).1.n)))
def look12 (s : S12) (b : Int) : List Int := if b ∈ s.I then row12 s.W b else if inD s.d b then row12 s.d b else []
def getS12 (s : S12) (e sl b : Int) : S12 := if may12 s e sl b 1 then { s with I := putL s.I b, W := s.W.set b.toNat (look12 s b) } else s
def getV12 (s : S12) (e sl b : Int) : List Int × Int := if may12 s e sl b 1 then (look12 s b, 0) else ([], 104)
def putV12 (s : S12) (e sl b : Int) (ws : List Int) : Int := if may12 s e sl b 2 then (if ws.length = 32 then 0 else 101) else 104
def putS12 (s : S12) (e sl b : Int) (ws : List Int) : S12 := if may12 s e sl b 2 = true ∧ ws.length = 32 then { s with I := putL s.I b, N := putL s.N b, W := s.W.set b.toNat ws } else s
def syncD (W : List (List Int)) : List Int → List (List Int) → List (List Int)
  | [], d => d
  | b :: l, d => syncD W l (d.set b.toNat (row12 W b))
def syncS12 (s : S12) : S12 := { s with d := syncD s.W s.N s.d, N := [] }
def range12 (s : S12) (e f n : Int) : Prop := env12 e ∧ 1 ≤ n ∧ 0 ≤ f ∧ f < (s.d.length : Int) ∧ n ≤ (s.d.length : Int) - f
instance (s : S12) (e f n : Int) : Decidable (range12 s e f n) := inferInstanceAs (Decidable (_ ∧ _ ∧ _ ∧ _ ∧ _))
def allFree (s : S12) (f : Int) (n : Nat) : Bool := (List.range n).all fun j => (holders8 s.c.L 2 (f + (j : Nat))).isEmpty
def allocV12 (s : S12) (e f n : Int) : Int × Int := if range12 s e f n then (if allFree s f n.toNat then addV8 s.c e ⟨2, f, n, 7⟩ else (0, 104)) else (0, 101)
def allocS12 (s : S12) (e f n : Int) : S12 := if range12 s e f n ∧ allFree s f n.toNat = true then { s with c := addS8 s.c e ⟨2, f, n, 7⟩ } else s
def grantS12 (s : S12) (e sl to r : Int) : S12 := { s with c := giveS8 s.c e sl to r }
def revS12 (s : S12) (e sl : Int) : S12 := { s with c := revokeS8 s.c e sl }
/-! ### What holds of all that comes of these -/
def capIn (n : Nat) (c : S8) : Prop := ∀ x ∈ c.L, x.x.i + x.x.n ≤ (n : Int)
structure T12 (s : S12) : Prop where
  all : All32 s.d
  le : s.d.length ≤ 1024
  len : s.W.length = s.d.length
  rI : Rising s.I
  rN : Rising s.N
  sub : ∀ x ∈ s.N, x ∈ s.I
  inI : ∀ x ∈ s.I, inD s.d x
  row : ∀ x ∈ s.I, (row12 s.W x).length = 32
  cap : capIn s.d.length s.c

theorem may12_in {s : S12} (h : T12 s) (hw : W8 s.c) {e sl b r : Int} (hm : may12 s e sl b r = true) : inD s.d b := by
  unfold may12 getV8 at hm
  cases hl : look8 s.c.L e sl with
  | none => rw [hl] at hm; simp at hm
  | some c =>
    rw [hl] at hm
    have hc := (look8_some hl).1
    have h1 := h.cap c hc
    obtain ⟨-, h2, -⟩ := (hw.in_ c hc).2.2.2.1
    simp only [Bool.and_eq_true, decide_eq_true_eq, true_and] at hm
    exact ⟨by omega, by omega⟩
theorem row12_set {W : List (List Int)} {b x : Int} (hb : 0 ≤ b) (hx : 0 ≤ x) (hl : b.toNat < W.length) (ws : List Int) : row12 (W.set b.toNat ws) x = if x = b then ws else row12 W x := by
  unfold row12
  rw [List.getElem?_set]
  by_cases h : x = b
  · subst h; rw [if_pos rfl, if_pos hl, if_pos rfl]; rfl
  · rw [if_neg (by omega), if_neg h]
theorem row12_32 {d : List (List Int)} (h : All32 d) {b : Int} (hb : inD d b) : (row12 d b).length = 32 := by
  unfold row12
  obtain ⟨h1, h2⟩ := hb
  rw [List.getElem?_eq_getElem (show b.toNat < d.length by omega)]
  exact h _ (List.getElem_mem _)
theorem look12_32 {s : S12} (h : T12 s) {b : Int} (hb : inD s.d b) : (look12 s b).length = 32 := by
  unfold look12
  split
  · rename_i hi; exact h.row b hi
  · first | exact row12_32 h.all hb | (rw [if_pos hb]; exact row12_32 h.all hb)

theorem getV12_le {s : S12} (h : T12 s) (hw : W8 s.c) (e sl b : Int) : (getV12 s e sl b).1.length ≤ 32 := by
  unfold getV12
  split
  · rename_i hm
    show (look12 s b).length ≤ 32
    rw [look12_32 h (may12_in h hw hm)]
    exact Nat.le_refl _
  · exact Nat.zero_le _

/-- A block comes into the cache. -/
theorem T12.ent {s : S12} (h : T12 s) {b : Int} (hb : inD s.d b) {ws : List Int} (hl : ws.length = 32) {N : List Int} (rN : Rising N) (hN : ∀ x ∈ N, x = b ∨ x ∈ s.N) : T12 { s with I := putL s.I b, N := N, W := s.W.set b.toNat ws } := by
  have hlen := h.len
  refine ⟨h.all, h.le, by simp only [List.length_set]; exact hlen, h.rI.put b, rN, fun x hx => mem_putL.2 ((hN x hx).imp id (h.sub x)), fun x hx => ?_, fun x hx => ?_, h.cap⟩
  · rcases mem_putL.1 hx with rfl | hx
    · exact hb
    · exact h.inI x hx
  · have hx0 : 0 ≤ x := by
      rcases mem_putL.1 hx with rfl | hx
      · exact hb.1
      · exact (h.inI x hx).1
    show (row12 (s.W.set b.toNat ws) x).length = 32
    rw [row12_set hb.1 hx0 (by have := hb.2; have := hb.1; omega)]
    split
    · exact hl
    · rename_i hne
      rcases mem_putL.1 hx with hx | hx
      · exact absurd hx hne
      · exact h.row x hx
theorem T12.get {s : S12} (h : T12 s) (hw : W8 s.c) (e sl b : Int) : T12 (getS12 s e sl b) := by
  unfold getS12
  split
  · rename_i hm
    have hb := may12_in h hw hm
    exact h.ent hb (look12_32 h hb) h.rN fun x hx => .inr hx
  · exact h
theorem T12.put {s : S12} (h : T12 s) (hw : W8 s.c) (e sl b : Int) (ws : List Int) : T12 (putS12 s e sl b ws) := by
  unfold putS12
  split
  · rename_i hm
    exact h.ent (may12_in h hw hm.1) hm.2 (h.rN.put b) fun x hx => mem_putL.1 hx
  · exact h
theorem syncD_len (W : List (List Int)) : ∀ (l : List Int) (d : List (List Int)), (syncD W l d).length = d.length
  | [], d => rfl
  | b :: l, d => by rw [syncD, syncD_len W l, List.length_set]
theorem syncD_all {W : List (List Int)} : ∀ {l : List Int} {d : List (List Int)}, All32 d → (∀ x ∈ l, (row12 W x).length = 32) → All32 (syncD W l d)
  | [], d, h, _ => h
  | b :: l, d, h, hr => by
    rw [syncD]
    exact syncD_all (h.set _ (hr b (by simp))) fun x hx => hr x (by simp [hx])
theorem T12.sync {s : S12} (h : T12 s) : T12 (syncS12 s) := by
  have e : (syncS12 s).d.length = s.d.length := syncD_len ..
  refine ⟨syncD_all h.all fun x hx => h.row x (h.sub x hx), by rw [e]; exact h.le, by rw [e]; exact h.len, h.rI, List.Pairwise.nil, fun x hx => (by cases hx), fun x hx => ?_, h.row, by rw [e]; exact h.cap⟩
  have := h.inI x hx
  unfold inD at this ⊢
  rw [e]; exact this
theorem T12.c {s : S12} (h : T12 s) {c : S8} (hc : capIn s.d.length c) : T12 { s with c := c } := ⟨h.all, h.le, h.len, h.rI, h.rN, h.sub, h.inI, h.row, hc⟩
theorem T12.alloc {s : S12} (h : T12 s) (e f n : Int) : T12 (allocS12 s e f n) := by
  unfold allocS12
  split
  · rename_i hm
    obtain ⟨h1, h2, h3, h4, h5⟩ := hm.1
    refine h.c fun x hx => ?_
    rcases mem_add hx with hx | ⟨-, hx, -⟩
    · exact h.cap x hx
    · rw [hx]; simp only; omega
  · exact h
theorem T12.grant {s : S12} (h : T12 s) (e sl to r : Int) : T12 (grantS12 s e sl to r) := h.c fun x hx => by
  rcases mem_give hx with hx | ⟨d, hd, -, -, -, -, hx, -⟩
  · exact h.cap x hx
  · rw [hx]; exact h.cap d hd
theorem T12.rev {s : S12} (h : T12 s) (e sl : Int) : T12 (revS12 s e sl) := h.c fun x hx => h.cap x (mem_revoke hx)
/-- A new kernel. -/
def init12 (n : Nat) : S12 := ⟨List.replicate n (List.replicate 32 0), ⟨[], 0⟩, [], [], List.replicate n []⟩
theorem T12.init {n : Nat} (hn : n ≤ 1024) : T12 (init12 n) :=
  ⟨All32.rep n, by simp [init12]; omega, by simp [init12], List.Pairwise.nil, List.Pairwise.nil, fun x hx => (by cases hx), fun x hx => (by cases hx), fun x hx => (by cases hx), fun x hx => (by cases hx)⟩

theorem putL_mem {l : List Int} {n : Int} (hr : Rising l) (h : n ∈ l) : putL l n = l := Rising.ext (hr.put n) hr fun x => by
  rw [mem_putL]
  exact ⟨fun hx => hx.elim (fun e => e ▸ h) id, .inr⟩
theorem getS12_in {s : S12} (h : T12 s) {e sl b : Int} (hb : b ∈ s.I) : getS12 s e sl b = s := by
  unfold getS12
  split
  · have e1 : look12 s b = row12 s.W b := by unfold look12; rw [if_pos hb]
    have hin := h.inI b hb
    have e2 : s.W.set b.toNat (row12 s.W b) = s.W := by
      unfold row12
      have : b.toNat < s.W.length := by have := h.len; have := hin.1; have := hin.2; omega
      rw [List.getElem?_eq_getElem this]
      exact List.set_getElem_self this
    rw [e1, e2, putL_mem h.rI hb]
  · rfl

end Go.Proofs

set_option linter.unusedSimpArgs false
namespace Go.Proofs
open Go Go.Den

/-- A row of words is copied into a new one. -/
theorem fresh_K {w : World} {a2 : Option Addr} {l2 c2 : Nat} {xs : List Int} {H : List Nat} (hx : Rd w a2 l2 1 (u64s xs) H) (hl : l2 ≤ 1000000) {ty : TypeId} {t : TypeId} {bys : Nat} {z : Value} {e : TypeId} (hT : SlT Tryz.prog t e 1 bys z) (hb : bys ≤ 8) {K : Value → World → Prop}
    (h : ∀ A C w' G, SlB w' A l2 C 1 (u64s xs) G → Beyond w.heap.size G → Mod [] w w' → K (.slice A l2 C) w') :
    runK ((Builtin.append_ #[t, t] ty #[.slice none 0 0, .slice a2 l2 c2]).run Tryz.prog w) K := by
  have hle : (0 + l2) * bys ≤ 1000000 * 8 := Nat.mul_le_mul (by omega) hb
  refine grow_rd_K hT (by decide) (SlB.nil w 1) hx (u64s_cell xs) (by omega) (by omega) fun A C w' G hs hm ho => ?_
  rw [Nat.zero_add, List.nil_append] at hs
  rw [Nat.zero_add]
  exact h A C w' G hs (fun b hb => (ho b hb).elim (fun h => by cases h) id) hm

/-- The program's disk at block 'p': the blocks 'bs'. -/
def DiskP (w : World) (p : Nat) (bs : List (List Int)) (F : List Nat) : Prop :=
  ∃ (q : Nat) (T : TypeId) (g u : Int), w.heap[p]? = some (.cells #[.int .i64 (bs.length : Int), .slice (some ⟨q, 0, none⟩) (bs.length * 32) (bs.length * 32), .int .i64 g, .int .i64 u] T (0, 0)) ∧
    SlB w (some ⟨q, 0, none⟩) (bs.length * 32) (bs.length * 32) 1 (u64s bs.flatten) [q] ∧ F = [p, q] ∧ p ≠ q ∧ All32 bs ∧ bs.length ≤ 1024

theorem DiskP.keep {w w' : World} {p : Nat} {bs : List (List Int)} {F : List Nat} (h : DiskP w p bs F) (hk : ∀ b ∈ F, w'.heap[b]? = w.heap[b]?) : DiskP w' p bs F := by
  obtain ⟨q, T, g, u, h1, h2, rfl, h3⟩ := h
  exact ⟨q, T, g, u, (hk p (by simp)).trans h1, h2.keep (fun b hb => hk b (by simp at hb; simp [hb])), rfl, h3⟩
theorem DiskP.lt {w : World} {p : Nat} {bs : List (List Int)} {F : List Nat} (h : DiskP w p bs F) : ∀ b ∈ F, b < w.heap.size := by
  obtain ⟨q, T, g, u, h1, h2, rfl, h3⟩ := h
  intro b hb
  simp at hb
  rcases hb with rfl | rfl
  · exact lt_of_get h1
  · exact h2.lt _ (by simp)
theorem DiskP.all {w : World} {p : Nat} {bs : List (List Int)} {F : List Nat} (h : DiskP w p bs F) : All32 bs ∧ bs.length ≤ 1024 := by
  obtain ⟨q, T, g, u, h1, h2, rfl, h3, h4⟩ := h
  exact h4

theorem disk_at {w : World} {p : Nat} {bs : List (List Int)} {F : List Nat} (h : DiskP w p bs F) (block : Int) {K : Value → World → Prop}
    (h0 : block < 0 ∨ (bs.length : Int) ≤ block → K (.slice none 0 0) w)
    (h1 : ∀ (k : Nat) (b : List Int) (a : Option Addr) (q : Nat), block = k → bs[k]? = some b → F = [p, q] → SlB w a 32 32 1 (u64s b) [q] → a = some ⟨q, k * 32, none⟩ → K (.slice a 32 32) w) :
    CallsR Tryz.prog F_blocks_Disk_at #[.pointer (some ⟨p, 0, none⟩), .int .i64 block] w K := by
  apply R_blocks_Disk_at_ok
  obtain ⟨q, T, g, u, hp, hs, rfl, hpq, hb, hn⟩ := h
  simp only [R_blocks_Disk_at, Option.isNone_some, spl_false, spl_decide, nilK_some, addr_add, cell_get hp]
  refine ⟨fun h => h0 (.inl h), fun hge => ⟨_, rfl, fun h => h0 (.inr h), fun hlt => ⟨_, _, _, rfl, ?_⟩⟩⟩
  obtain ⟨k, rfl⟩ := nat_of (by omega : 0 ≤ block)
  have hk : k < bs.length := by omega
  have e1 : IntKind.i64.wrap ((k : Int) * 32) = ((k * 32 : Nat) : Int) := by rw [w64 (by omega) (by omega)]; omega
  have e2 : IntKind.i64.wrap ((k : Int) + 1) = ((k + 1 : Nat) : Int) := by rw [w64 (by omega) (by omega)]; omega
  have e3 : IntKind.i64.wrap (((k + 1 : Nat) : Int) * 32) = (((k + 1) * 32 : Nat) : Int) := by rw [w64 (by omega) (by omega)]; omega
  rw [e1, e2, e3]
  refine slK_of hs (L := k * 32) (H := (k + 1) * 32) (M := (k + 1) * 32) (.inl rfl) (.inl rfl) (.inl ⟨rfl, rfl⟩) (by omega) (by omega) (by omega) (by omega) ?_
  intro a' hadr ha
  have e : (k + 1) * 32 - k * 32 = 32 := by omega
  rw [e] at ha ⊢
  obtain ⟨b, hbk⟩ : ∃ b, bs[k]? = some b := ⟨bs[k], by simp⟩
  have hv : ((u64s bs.flatten).drop (k * 32 * 1)).take (32 * 1) = u64s b := by
    simp only [u64s, Nat.mul_one, ← List.map_drop, ← List.map_take, flatten_take hb k b hbk]
  rw [hv] at ha
  refine h1 k b a' q rfl hbk rfl ha ?_
  rw [hadr, slA, if_neg (by omega)]
  simp

theorem disk_new (n : Int) (w : World) {K : Value → World → Prop} (h0 : n < 1 ∨ 1024 < n → K (.pointer none) w)
    (h1 : ∀ (k p : Nat) (F : List Nat) (w' : World), n = k → 1 ≤ k → k ≤ 1024 → DiskP w' p (List.replicate k (List.replicate 32 0)) F → Mod [] w w' → (∀ b ∈ F, w.heap.size ≤ b) → K (.pointer (some ⟨p, 0, none⟩)) w') :
    CallsR Tryz.prog F_blocks_New #[.int .i64 n] w K := by
  apply R_blocks_New_ok
  simp only [R_blocks_New, spl_decide]
  refine ⟨fun h => h0 (.inl h), fun hge => ⟨fun h => h0 (.inr h), fun hle => ?_⟩⟩
  obtain ⟨k, rfl⟩ := nat_of (by omega : 0 ≤ n)
  have e1 : IntKind.i64.wrap ((k : Int) * 32) = ((k * 32 : Nat) : Int) := by rw [w64 (by omega) (by omega)]; omega
  rw [e1]
  obtain ⟨w1, hr, hs, hm⟩ := makeSlice_run slT_u64 w (k := .i64) (k' := .i64) (l := k * 32) (c := k * 32) (Nat.le_refl _) (by omega) (by omega)
  refine ⟨_, _, hr, _, _, _, rfl, ?_⟩
  simp only [newK_eq]
  have hlt := hs.lt w.heap.size (by simp)
  refine h1 k w1.heap.size [w1.heap.size, w.heap.size] _ rfl (by omega) (by omega) ⟨w.heap.size, _, 0, 0, by simpa using alloc_new _ _, ?_, rfl, by omega, ?_, by simp; omega⟩ (hm.alloc _) ?_
  · have e2 : zrow (.int .u64 0) (k * 32 * 1) = u64s (List.replicate k (List.replicate 32 (0 : Int))).flatten := by
      rw [zrow_one rfl, List.flatten_replicate_replicate]; simp [u64s]
    rw [e2] at hs
    have := fun T : TypeId => hs.mod (S := []) ((Mod.refl _ w1).alloc (.cells #[.int .i64 (k : Int), .slice (some ⟨w.heap.size, 0, none⟩) (k * 32) (k * 32), .int .i64 0, .int .i64 0] T)) (by simp)
    simpa using this _
  · intro b hb
    rw [List.eq_of_mem_replicate hb]; simp
  · intro b hb
    simp at hb
    have := hm.size
    omega

theorem disk_get {w : World} {p : Nat} {bs : List (List Int)} {F : List Nat} (h : DiskP w p bs F) (block : Int) {K : Value → World → Prop}
    (h0 : block < 0 ∨ (bs.length : Int) ≤ block → K (.tuple #[.slice none 0 0, .int .i64 101]) w)
    (h1 : ∀ (k : Nat) (b : List Int) (w' : World) (a : Option Addr) (c : Nat) (G : List Nat), block = k → bs[k]? = some b → SlB w' a 32 c 1 (u64s b) G → (∀ b ∈ G, w.heap.size ≤ b) → DiskP w' p bs F → Mod F w w' → K (.tuple #[.slice a 32 c, .int .i64 0]) w') :
    CallsR Tryz.prog F_blocks_Disk_Get #[.pointer (some ⟨p, 0, none⟩), .int .i64 block] w K := by
  apply R_blocks_Disk_Get_ok
  refine disk_at h block (fun hb => ?_) (fun k b a' q hk hbk hF hs ha => ?_)
  · exact ⟨_, _, _, rfl, by simpa using h0 hb⟩
  · refine ⟨_, _, _, rfl, ?_⟩
    subst ha
    simp only [Option.isNone_some, spl_false, spl_bne]
    obtain ⟨q', T, g, u, hp, hsq, rfl, hpq, hb32, hn⟩ := h
    simp only [List.cons.injEq, true_and, and_true] at hF
    subst hF
    simp only [nilK_some, addr_add, cell_get hp]
    refine ⟨_, rfl, stK_of hp (by simp) ?_⟩
    generalize hw1 : (w.upd p (.cells (splice #[.int .i64 (bs.length : Int), .slice (some ⟨q', 0, none⟩) (bs.length * 32) (bs.length * 32), .int .i64 g, .int .i64 u] (0 + 2) [.int .i64 (IntKind.i64.wrap (g + 1))]) T (0, 0))) = w1
    have hm1 : Mod [p, q'] w w1 := by rw [← hw1]; exact (Mod.refl _ _).upd (.inl (by simp)) _
    have hp1 : w1.heap[p]? = some (.cells #[.int .i64 (bs.length : Int), .slice (some ⟨q', 0, none⟩) (bs.length * 32) (bs.length * 32), .int .i64 (IntKind.i64.wrap (g + 1)), .int .i64 u] T (0, 0)) := by rw [← hw1, upd_same hp]; simp
    have hk1 : ∀ b ∈ [q'], w1.heap[b]? = w.heap[b]? := fun b hb => by simp at hb; subst hb; rw [← hw1]; exact upd_ne _ hpq
    have hs1 := hs.keep hk1
    have hb' : b.length = 32 := hb32 b (List.mem_of_getElem? hbk)
    refine fresh_K hs1.rd (by omega) slT_u64 (by decide) fun a2 c2 w2 G hs2 hG hm2 => ⟨_, _, _, rfl, h1 k b w2 a2 c2 G hk hbk hs2 (fun b hb => Nat.le_trans hm1.size (hG b hb)) ⟨q', T, _, u, hm2.get hp1 (by simp), (hsq.keep hk1).mod hm2 (by simp), rfl, hpq, hb32, hn⟩ (hm1.trans hm2 (by simp))⟩

def diskPart (p : Nat) (bs : List (List Int)) (F : List Nat) : Part := ⟨F, fun w => DiskP w p bs F, fun h k => h.keep k, fun h => h.lt⟩

end Go.Proofs
