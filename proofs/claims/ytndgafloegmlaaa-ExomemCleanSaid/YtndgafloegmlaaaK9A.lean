/-
  exomem, as plain functions: what the document says of a kernel of frames under capabilities.
  Memory and tables as parts; their contracts, as the plain functions say them.
  exomem, as plain functions: whatever others do, a frame of one holder is what it wrote; what was freed by all is free.
-/
import Derived.Test.YtndgafloegmlaaaMemA
import Derived.Test.YtndgafloegmlaaaPCapsA
import Derived.Test.YtndgafloegmlaaaDenC
import Derived.Test.YtndgafloegmlaaaCapsA
set_option linter.unusedSimpArgs false
namespace Go.Proofs
open Go Go.Den

/-- Memory, capabilities, of each environment a table. -/
structure S9 where
  m : List (List Int)
  c : S8
  t : Nat → Tb

/-! ### Memory -/
def inM (m : List (List Int)) (f : Int) : Prop := 0 ≤ f ∧ f < (m.length : Int)
instance (m : List (List Int)) (f : Int) : Decidable (inM m f) := inferInstanceAs (Decidable (_ ∧ _))
def in32 (w : Int) : Prop := 0 ≤ w ∧ w < 32
instance (w : Int) : Decidable (in32 w) := inferInstanceAs (Decidable (_ ∧ _))
def row9 (m : List (List Int)) (f : Int) : List Int := (m[f.toNat]?).getD []
def rdV (m : List (List Int)) (f w : Int) : Int × Int := if inM m f ∧ in32 w then (((row9 m f)[w.toNat]?).getD 0, 0) else (0, 101)
def wrV (m : List (List Int)) (f w : Int) : Int := if inM m f ∧ in32 w then 0 else 101
def wrM (m : List (List Int)) (f w v : Int) : List (List Int) := if inM m f ∧ in32 w then m.set f.toNat ((row9 m f).set w.toNat v) else m
def cpV (m : List (List Int)) (a b : Int) : Int := if inM m a ∧ inM m b then 0 else 101
def cpM (m : List (List Int)) (a b : Int) : List (List Int) := if inM m a ∧ inM m b then m.set a.toNat (row9 m b) else m
def zrM (m : List (List Int)) (f : Int) : List (List Int) := if inM m f then m.set f.toNat (List.replicate 32 0) else m

/-! ### The kernel -/
def need9 (w : Bool) : Int := if w then 3 else 1
def holds9 (c : S8) (e : Nat) (x : Int × Bool) : Bool := has8 c.L e 1 x.1 (need9 x.2)
def tidyT (c : S8) (e : Nat) (t : Tb) : Tb := fun p => match t p with
  | none => none
  | some x => if holds9 c e x then some x else none
def tidyS (s : S9) : S9 := { s with t := fun e => tidyT s.c e (s.t e) }
def free9 (c : S8) (f : Int) : Bool := (holders8 c.L 1 f).isEmpty
def left9 (s : S9) : Nat := ((List.range s.m.length).filter fun f => free9 s.c (f : Nat)).length
def first9 (s : S9) : Option Nat := (List.range s.m.length).find? fun f => free9 s.c (f : Nat)
def fcap (f : Nat) : Cap8 := ⟨1, f, 1, 7⟩
def allocS (s : S9) (e : Int) : S9 := if env12 e then (match first9 s with
  | none => s
  | some f => ⟨if (addV8 s.c e (fcap f)).2 = 0 then zrM s.m f else s.m, addS8 s.c e (fcap f), s.t⟩) else s
def allocV (s : S9) (e : Int) : Int × Int := if env12 e then (match first9 s with
  | none => (0, 106)
  | some f => addV8 s.c e (fcap f)) else (0, 101)
def grantS (s : S9) (e sl to r : Int) : S9 := { s with c := giveS8 s.c e sl to r }
def freeS (s : S9) (e sl : Int) : S9 := tidyS { s with c := dropS8 s.c e sl }
def revS (s : S9) (e sl : Int) : S9 := tidyS { s with c := revokeS8 s.c e sl }
def goneS (s : S9) (e : Int) : S9 := tidyS { s with c := goneS8 s.c e 64 }
theorem goneS_eq (s : S9) (e : Int) : goneS s e = tidyS { s with c := goneS8 s.c e 64 } := by unfold goneS; rfl
theorem goneS_m (s : S9) (e : Int) : (goneS s e).m = s.m := by unfold goneS tidyS; rfl
theorem goneS_c (s : S9) (e : Int) : (goneS s e).c = goneS8 s.c e 64 := by unfold goneS tidyS; dsimp only
/-- A slot's frame, if it has rights. -/
def cap9 (c : S8) (e sl r : Int) : Int × Bool := ((getV8 c.L e sl).1.i, (getV8 c.L e sl).2 && hasR (getV8 c.L e sl).1.r r)
def in4 (p : Int) : Prop := 0 ≤ p ∧ p < 4
instance (p : Int) : Decidable (in4 p) := inferInstanceAs (Decidable (_ ∧ _))
def mapV (s : S9) (e p sl : Int) (w : Bool) : Int := if env12 e ∧ in4 p then (if (cap9 s.c e sl (need9 w)).2 then tMapE p (cap9 s.c e sl (need9 w)).1 else 104) else 101
def upT (t : Nat → Tb) (i : Nat) (x : Tb) : Nat → Tb := fun j => if i = j then x else t j
def mapS (s : S9) (e p sl : Int) (w : Bool) : S9 := if (env12 e ∧ in4 p) ∧ (cap9 s.c e sl (need9 w)).2 then { s with t := upT s.t e.toNat (tMap (s.t e.toNat) p ((cap9 s.c e sl (need9 w)).1, w)) } else s
def unmapV (s : S9) (e p : Int) : Int := if env12 e then tUnE (s.t e.toNat) p else 101
def unmapS (s : S9) (e p : Int) : S9 := if env12 e then { s with t := upT s.t e.toNat (tdel (s.t e.toNat) p) } else s
def loadV (s : S9) (e a : Int) : Int × Int := if env12 e then (if (walk3 (s.t e.toNat) a false).2.2 = 0 then rdV s.m (walk3 (s.t e.toNat) a false).1 (walk3 (s.t e.toNat) a false).2.1 else (0, (walk3 (s.t e.toNat) a false).2.2)) else (0, 101)
def storeV (s : S9) (e a : Int) : Int := if env12 e then (if (walk3 (s.t e.toNat) a true).2.2 = 0 then wrV s.m (walk3 (s.t e.toNat) a true).1 (walk3 (s.t e.toNat) a true).2.1 else (walk3 (s.t e.toNat) a true).2.2) else 101
def storeS (s : S9) (e a v : Int) : S9 := if env12 e ∧ (walk3 (s.t e.toNat) a true).2.2 = 0 then { s with m := wrM s.m (walk3 (s.t e.toNat) a true).1 (walk3 (s.t e.toNat) a true).2.1 v } else s
def copyV (s : S9) (e to fr : Int) : Int := if (cap9 s.c e to 2).2 ∧ (cap9 s.c e fr 1).2 then cpV s.m (cap9 s.c e to 2).1 (cap9 s.c e fr 1).1 else 104
def copyS (s : S9) (e to fr : Int) : S9 := if (cap9 s.c e to 2).2 ∧ (cap9 s.c e fr 1).2 then { s with m := cpM s.m (cap9 s.c e to 2).1 (cap9 s.c e fr 1).1 } else s
def readV (s : S9) (e sl w : Int) : Int × Int := if (cap9 s.c e sl 1).2 then rdV s.m (cap9 s.c e sl 1).1 w else (0, 104)
def writeV (s : S9) (e sl w : Int) : Int := if (cap9 s.c e sl 2).2 then wrV s.m (cap9 s.c e sl 2).1 w else 104
def writeS (s : S9) (e sl w v : Int) : S9 := if (cap9 s.c e sl 2).2 then { s with m := wrM s.m (cap9 s.c e sl 2).1 w v } else s
def refsV (s : S9) (e sl : Int) : Nat := if (getV8 s.c.L e sl).2 then (s.c.L.filter fun c => c.x.i == (getV8 s.c.L e sl).1.i).length else 0
def isSlot (s : S9) (e f : Int) (j : Nat) : Bool := (getV8 s.c.L e j).2 && ((getV8 s.c.L e j).1.i == f)
def slotIn (s : S9) (e f : Int) : Nat → Nat → Int
  | _, 0 => 0
  | j, n + 1 => if isSlot s e f j then j else slotIn s e f (j + 1) n
def slotV (s : S9) (e f : Int) : Int := slotIn s e f 1 64
def pageT (s : S9) (e p : Int) : Option (Int × Bool) := if env12 e then s.t e.toNat p else none

/-- The pages' frames are numbers of capabilities. -/
def T9 (s : S9) : Prop := ∀ (e : Nat) (q : Int) (x : Int × Bool), s.t e q = some x → 0 ≤ x.1 ∧ x.1 ≤ 1048576
theorem T9.wf {s : S9} (h : T9 s) {e : Nat} {q : Int} {x : Int × Bool} (hx : s.t e q = some x) : (Lit.int .i64 x.1).wf = true := by
  have := h e q x hx
  simp [Lit.wf, IntKind.min, IntKind.max, IntKind.bits, IntKind.signed]
  omega
theorem tidyT_some {c : S8} {e : Nat} {t : Tb} {q : Int} {x : Int × Bool} (h : tidyT c e t q = some x) : t q = some x ∧ holds9 c e x = true := by
  unfold tidyT at h
  split at h
  · cases h
  · rename_i y hy
    split at h
    · rename_i hh
      obtain rfl := Option.some.inj h
      exact ⟨hy, hh⟩
    · cases h
theorem T9.c {s : S9} (h : T9 s) (c : S8) : T9 { s with c := c } := h
theorem T9.m {s : S9} (h : T9 s) (m : List (List Int)) : T9 { s with m := m } := h
theorem T9.tidy {s : S9} (h : T9 s) : T9 (tidyS s) := fun e q x hx => h e q x (tidyT_some hx).1
theorem T9.up {s : S9} (h : T9 s) (e : Nat) {t : Tb} (ht : ∀ q x, t q = some x → 0 ≤ x.1 ∧ x.1 ≤ 1048576) : T9 { s with t := upT s.t e t } := fun e' q x hx => by
  simp only [upT] at hx
  split at hx
  · exact ht q x hx
  · exact h e' q x hx
theorem cap9_le {c : S8} (hw : W8 c) {e sl r : Int} (h : (cap9 c e sl r).2 = true) : 0 ≤ (cap9 c e sl r).1 ∧ (cap9 c e sl r).1 ≤ 1048576 := by
  unfold cap9 getV8 at h ⊢
  cases hl : look8 c.L e sl with
  | none => rw [hl] at h; cases h
  | some d =>
    obtain ⟨-, b2, b3, -⟩ := (hw.in_ d (look8_some hl).1).2.2.2.1
    exact ⟨b2, b3⟩
theorem T9.map {s : S9} (hw : W8 s.c) (h : T9 s) (e p sl : Int) (w : Bool) : T9 (mapS s e p sl w) := by
  unfold mapS
  split
  · rename_i hh
    refine h.up _ fun q x hx => ?_
    unfold tMap at hx
    split at hx
    · exact h _ q x hx
    · unfold tput at hx
      split at hx
      · rw [← Option.some.inj hx]; exact cap9_le hw hh.2
      · exact h _ q x hx
  · exact h
theorem T9.unmap {s : S9} (h : T9 s) (e p : Int) : T9 (unmapS s e p) := by
  unfold unmapS
  split
  · refine h.up _ fun q x hx => ?_
    unfold tdel at hx
    split at hx
    · cases hx
    · exact h _ q x hx
  · exact h
theorem T9.alloc {s : S9} (h : T9 s) (e : Int) : T9 (allocS s e) := by
  unfold allocS
  split
  · split <;> exact h
  · exact h
theorem T9.store {s : S9} (h : T9 s) (e a v : Int) : T9 (storeS s e a v) := by unfold storeS; split <;> exact h
theorem T9.copy {s : S9} (h : T9 s) (e a b : Int) : T9 (copyS s e a b) := by unfold copyS; split <;> exact h
theorem T9.write {s : S9} (h : T9 s) (e sl d v : Int) : T9 (writeS s e sl d v) := by unfold writeS; split <;> exact h

end Go.Proofs

set_option linter.unusedSimpArgs false
namespace Go.Proofs
open Go Go.Den

def memPart (p : Nat) (bs : List (List Int)) (F : List Nat) : Part := ⟨F, fun w => MemP w p bs F, fun h k => h.keep k, fun h => h.lt⟩
def memrPart (p : Nat) (bs : List (List Int)) (F : List Nat) : Part := ⟨F, fun w => MemR w p bs F, fun h k => h.keep k, fun h => h.lt⟩
def tblPart (p : Nat) (t : Tb) (F : List Nat) : Part := ⟨F, fun w => TblP w p t F, fun h k => h.keep k, fun h => h.lt⟩

section
variable {m : List (List Int)} {k j : Nat} {b : List Int}
theorem inM_of (hb : m[k]? = some b) : inM m (k : Int) := by
  have := (List.getElem?_eq_some_iff.1 hb).1
  exact ⟨by omega, by omega⟩
theorem row9_of (hb : m[k]? = some b) : row9 m (k : Int) = b := by
  unfold row9; rw [Int.toNat_natCast, hb]; rfl
theorem rdV_of {x : Int} (hb : m[k]? = some b) (hx : b[j]? = some x) (hj : j < 32) : rdV m k j = (x, 0) := by
  unfold rdV
  rw [if_pos ⟨inM_of hb, ⟨by omega, by omega⟩⟩, row9_of hb, Int.toNat_natCast, hx]
  rfl
theorem rdV_out {f w : Int} (h : f < 0 ∨ (m.length : Int) ≤ f ∨ w < 0 ∨ 32 ≤ w) : rdV m f w = (0, 101) := by
  unfold rdV inM in32
  rw [if_neg (by omega)]
theorem wr_of (hb : m[k]? = some b) (hj : j < 32) (v : Int) : wrM m k j v = m.set k (b.set j v) ∧ wrV m k j = 0 := by
  unfold wrM wrV
  rw [if_pos ⟨inM_of hb, ⟨by omega, by omega⟩⟩, if_pos ⟨inM_of hb, ⟨by omega, by omega⟩⟩, row9_of hb, Int.toNat_natCast, Int.toNat_natCast]
  exact ⟨rfl, rfl⟩
theorem wr_out {f w : Int} (h : f < 0 ∨ (m.length : Int) ≤ f ∨ w < 0 ∨ 32 ≤ w) (v : Int) : wrM m f w v = m ∧ wrV m f w = 101 := by
  unfold wrM wrV inM in32
  rw [if_neg (by omega), if_neg (by omega)]
  exact ⟨rfl, rfl⟩
theorem cp_of {t : Nat} (ht : t < m.length) (hb : m[k]? = some b) : cpM m t k = m.set t b ∧ cpV m t k = 0 := by
  unfold cpM cpV
  have h1 : inM m (t : Int) := ⟨by omega, by omega⟩
  rw [if_pos ⟨h1, inM_of hb⟩, if_pos ⟨h1, inM_of hb⟩, row9_of hb, Int.toNat_natCast]
  exact ⟨rfl, rfl⟩
theorem cp_out {f g : Int} (h : f < 0 ∨ (m.length : Int) ≤ f ∨ g < 0 ∨ (m.length : Int) ≤ g) : cpM m f g = m ∧ cpV m f g = 101 := by
  unfold cpM cpV inM
  rw [if_neg (by omega), if_neg (by omega)]
  exact ⟨rfl, rfl⟩
theorem zr_of (hk : k < m.length) : zrM m k = m.set k (List.replicate 32 0) := by
  unfold zrM
  rw [if_pos ⟨by omega, by omega⟩, Int.toNat_natCast]
theorem zr_out {f : Int} (h : f < 0 ∨ (m.length : Int) ≤ f) : zrM m f = m := by
  unfold zrM
  rw [if_neg (show ¬ inM m f by unfold inM; omega)]
theorem wrM_len (f w v : Int) : (wrM m f w v).length = m.length := by unfold wrM; split <;> simp
theorem cpM_len (f g : Int) : (cpM m f g).length = m.length := by unfold cpM; split <;> simp
theorem zrM_len (f : Int) : (zrM m f).length = m.length := by unfold zrM; split <;> simp
end

section
variable {w : World} {p : Nat} {m : List (List Int)} {F : List Nat}
theorem pmRead (h : MemP w p m F) (f d : Int) {K : Value → World → Prop} (hK : K (.tuple #[.int .u64 (rdV m f d).1, .int .i64 (rdV m f d).2]) w) : CallsR Try.prog F_mem_Mem_Read #[.pointer (some ⟨p, 0, none⟩), .int .i64 f, .int .i64 d] w K :=
  mem_read h f d (fun ho => by rw [rdV_out ho] at hK; exact hK) (fun k j b x hf hd hj hb hx => by subst hf hd; rw [rdV_of hb hx hj] at hK; exact hK)
theorem pmWrite (h : MemP w p m F) (f d v : Int) {K : Value → World → Prop} (hK : ∀ w', MemP w' p (wrM m f d v) F → Mod F w w' → K (.int .i64 (wrV m f d)) w') : CallsR Try.prog F_mem_Mem_Write #[.pointer (some ⟨p, 0, none⟩), .int .i64 f, .int .i64 d, .int .u64 v] w K :=
  mem_write h f d v (fun ho => by obtain ⟨e1, e2⟩ := wr_out ho v; rw [e1, e2] at hK; exact hK w h (Mod.refl _ _)) (fun k j b w' hf hd hj hb h' m' => by subst hf hd; obtain ⟨e1, e2⟩ := wr_of hb hj v; rw [e1, e2] at hK; exact hK w' h' m')
theorem pmCopy (h : MemP w p m F) (f g : Int) {K : Value → World → Prop} (hK : ∀ w', MemP w' p (cpM m f g) F → Mod F w w' → K (.int .i64 (cpV m f g)) w') : CallsR Try.prog F_mem_Mem_Copy #[.pointer (some ⟨p, 0, none⟩), .int .i64 f, .int .i64 g] w K :=
  mem_copy h f g (fun ho => by obtain ⟨e1, e2⟩ := cp_out ho; rw [e1, e2] at hK; exact hK w h (Mod.refl _ _)) (fun t k b w' hf hg ht hb h' m' => by subst hf hg; obtain ⟨e1, e2⟩ := cp_of ht hb; rw [e1, e2] at hK; exact hK w' h' m')
theorem pmZero (h : MemP w p m F) (f : Int) {K : Value → World → Prop} (hK : ∀ w' n, MemP w' p (zrM m f) F → Mod F w w' → K (.int .i64 n) w') : CallsR Try.prog F_mem_Mem_Zero #[.pointer (some ⟨p, 0, none⟩), .int .i64 f] w K :=
  mem_zero h f (fun ho => by rw [zr_out ho] at hK; exact hK w _ h (Mod.refl _ _)) (fun k w' hf hk h' m' => by subst hf; rw [zr_of hk] at hK; exact hK w' _ h' m')
theorem rmRead (h : MemR w p m F) (f d : Int) {K : Value → World → Prop} (hK : K (.tuple #[.int .u64 (rdV m f d).1, .int .i64 (rdV m f d).2]) w) : CallsR Try.prog F_janusref01_Mem_Read #[.pointer (some ⟨p, 0, none⟩), .int .i64 f, .int .i64 d] w K :=
  memr_read h f d (fun ho => by rw [rdV_out ho] at hK; exact hK) (fun k j b x hf hd hj hb hx => by subst hf hd; rw [rdV_of hb hx hj] at hK; exact hK)
theorem rmWrite (h : MemR w p m F) (f d v : Int) {K : Value → World → Prop} (hK : ∀ w', MemR w' p (wrM m f d v) F → Mod F w w' → K (.int .i64 (wrV m f d)) w') : CallsR Try.prog F_janusref01_Mem_Write #[.pointer (some ⟨p, 0, none⟩), .int .i64 f, .int .i64 d, .int .u64 v] w K :=
  memr_write h f d v (fun ho => by obtain ⟨e1, e2⟩ := wr_out ho v; rw [e1, e2] at hK; exact hK w h (Mod.refl _ _)) (fun k j b w' hf hd hj hb h' m' => by subst hf hd; obtain ⟨e1, e2⟩ := wr_of hb hj v; rw [e1, e2] at hK; exact hK w' h' m')
theorem rmCopy (h : MemR w p m F) (f g : Int) {K : Value → World → Prop} (hK : ∀ w', MemR w' p (cpM m f g) F → Mod F w w' → K (.int .i64 (cpV m f g)) w') : CallsR Try.prog F_janusref01_Mem_Copy #[.pointer (some ⟨p, 0, none⟩), .int .i64 f, .int .i64 g] w K :=
  memr_copy h f g (fun ho => by obtain ⟨e1, e2⟩ := cp_out ho; rw [e1, e2] at hK; exact hK w h (Mod.refl _ _)) (fun t k b w' hf hg ht hb h' m' => by subst hf hg; obtain ⟨e1, e2⟩ := cp_of ht hb; rw [e1, e2] at hK; exact hK w' h' m')
theorem rmZero (h : MemR w p m F) (f : Int) {K : Value → World → Prop} (hK : ∀ w' n, MemR w' p (zrM m f) F → Mod F w w' → K (.int .i64 n) w') : CallsR Try.prog F_janusref01_Mem_Zero #[.pointer (some ⟨p, 0, none⟩), .int .i64 f] w K :=
  memr_zero h f (fun ho => by rw [zr_out ho] at hK; exact hK w _ h (Mod.refl _ _)) (fun k w' hf hk h' m' => by subst hf; rw [zr_of hk] at hK; exact hK w' _ h' m')
end

end Go.Proofs

set_option linter.unusedSimpArgs false
namespace Go.Proofs
open Go Go.Den

/-- A deed: as the law has them. -/
structure D9 where
  kind : Int
  env : Int
  slot : Int
  to : Int
  n : Int
  w : Bool
  addr : Int
  v : Int
def do9 (s : S9) (d : D9) : S9 :=
  if d.kind = 0 then allocS s d.env else if d.kind = 1 then grantS s d.env d.slot d.to d.n else if d.kind = 2 then freeS s d.env d.slot else if d.kind = 3 then revS s d.env d.slot else
  if d.kind = 4 then mapS s d.env d.n d.slot d.w else if d.kind = 5 then unmapS s d.env d.n else if d.kind = 6 then s else if d.kind = 7 then storeS s d.env d.addr d.v else
  if d.kind = 8 then copyS s d.env d.slot d.n else if d.kind = 9 then s else if d.kind = 10 then writeS s d.env d.slot d.n d.v else goneS s d.env

theorem allocS_c (s : S9) (e : Int) : Grows 1 s.c (allocS s e).c := by
  unfold allocS
  split
  · split
    · exact Grows.refl ..
    · exact addS8_len ..
  · exact Grows.refl ..
theorem do9_len (s : S9) (d : D9) : Grows 1 s.c (do9 s d).c := by
  unfold do9
  repeat' split
  · exact allocS_c ..
  · exact giveS8_len ..
  · exact (dropS8_len ..).mono (by omega)
  · exact (revokeS8_len ..).mono (by omega)
  · unfold mapS; split <;> exact Grows.refl ..
  · unfold unmapS; split <;> exact Grows.refl ..
  · exact Grows.refl ..
  · unfold storeS; split <;> exact Grows.refl ..
  · unfold copyS; split <;> exact Grows.refl ..
  · exact Grows.refl ..
  · unfold writeS; split <;> exact Grows.refl ..
  · rw [goneS_c]; exact (goneS8_len s.c d.env 64).mono (by omega)
theorem allocS_m (s : S9) (e : Int) : (allocS s e).m.length = s.m.length := by
  unfold allocS
  split
  · split
    · rfl
    · simp only; split
      · exact zrM_len _
      · rfl
  · rfl
theorem do9_m (s : S9) (d : D9) : (do9 s d).m.length = s.m.length := by
  unfold do9
  repeat' split
  · exact allocS_m ..
  · rfl
  · rfl
  · rfl
  · unfold mapS; split <;> rfl
  · unfold unmapS; split <;> rfl
  · rfl
  · unfold storeS; split
    · exact wrM_len ..
    · rfl
  · unfold copyS; split
    · exact cpM_len ..
    · rfl
  · rfl
  · unfold writeS; split
    · exact wrM_len ..
    · rfl
  · rw [goneS_m]

/-! ### One holder -/

/-- Of frame 0 environment 0 is the one holder; its words are 'r'. -/
structure Hold (r : List Int) (s : S9) : Prop where
  g : ∃ g ∈ s.c.L, g.env = 0 ∧ g.slot = 1 ∧ g.of_ = 0 ∧ g.x = ⟨1, 0, 1, 7⟩ ∧ ∀ c ∈ s.c.L, c ≠ g → c.x.i ≠ 0
  t : ∀ e : Nat, e ≠ 0 → e < 12 → ∀ p x, s.t e p = some x → x.1 ≠ 0
  m : s.m[0]? = some r

theorem getV8_mem {L : List CE} {e sl : Int} (h : (getV8 L e sl).2 = true) : ∃ c ∈ L, c.env = e ∧ c.slot = sl ∧ (getV8 L e sl).1 = c.x := by
  unfold getV8 at h ⊢
  cases hl : look8 L e sl with
  | none => rw [hl] at h; cases h
  | some c =>
    obtain ⟨h1, h2, h3⟩ := look8_some hl
    exact ⟨c, h1, h2, h3, rfl⟩
theorem Hold.cap {r : List Int} {s : S9} (h : Hold r s) {e sl q : Int} (he : e ≠ 0) (hc : (cap9 s.c e sl q).2 = true) : (cap9 s.c e sl q).1 ≠ 0 := by
  unfold cap9 at hc ⊢
  simp only [Bool.and_eq_true] at hc
  obtain ⟨c, h1, h2, h3, h4⟩ := getV8_mem hc.1
  obtain ⟨g, g1, g2, g3, g4, g5, g6⟩ := h.g
  simp only
  rw [h4]
  exact g6 c h1 fun e => he (by rw [← h2, e]; exact g2)
theorem Hold.used {r : List Int} {s : S9} (h : Hold r s) : free9 s.c 0 = false := by
  obtain ⟨g, g1, g2, g3, g4, g5, g6⟩ := h.g
  have hh : has8 s.c.L 0 1 0 0 = true := List.any_eq_true.2 ⟨g, g1, by
    have : covers8 ⟨1, 0, 1, 7⟩ 1 0 0 = true := by decide +kernel
    rw [g5, g2, this]; rfl⟩
  unfold free9
  rw [List.isEmpty_eq_false_iff]
  refine List.ne_nil_of_mem (a := 0) ?_
  unfold holders8
  exact List.mem_filter.2 ⟨by decide, hh⟩
theorem wrM_zero {m : List (List Int)} {f w v : Int} (hf : f ≠ 0) : (wrM m f w v)[0]? = m[0]? := by
  unfold wrM
  split
  · rename_i h
    unfold inM at h
    rw [List.getElem?_set, if_neg (by omega)]
  · rfl
theorem cpM_zero {m : List (List Int)} {f g : Int} (hf : f ≠ 0) : (cpM m f g)[0]? = m[0]? := by
  unfold cpM
  split
  · rename_i h
    unfold inM at h
    rw [List.getElem?_set, if_neg (by omega)]
  · rfl
theorem zrM_zero {m : List (List Int)} {f : Int} (hf : f ≠ 0) : (zrM m f)[0]? = m[0]? := by
  unfold zrM
  split
  · rename_i h
    unfold inM at h
    rw [List.getElem?_set, if_neg (by omega)]
  · rfl
theorem Hold.tidy {r : List Int} {s : S9} (h : Hold r s) : Hold r (tidyS s) := by
  refine ⟨h.g, fun e he he2 p x hx => ?_, h.m⟩
  simp only [tidyS, tidyT] at hx
  split at hx
  · cases hx
  · rename_i y hy
    split at hx
    · rw [← Option.some.inj hx]; exact h.t e he he2 p y hy
    · cases hx
theorem Hold.caps {r : List Int} {s : S9} {c : S8} (h : Hold r s) (hk : ∀ g ∈ s.c.L, g.env = 0 → g.slot = 1 → g.of_ = 0 → g ∈ c.L) (hw' : W8 c) (hm : ∀ d ∈ c.L, d.x.i ≠ 0 ∨ ∃ d' ∈ s.c.L, d'.no = d.no ∧ d'.env = d.env ∧ d'.slot = d.slot ∧ d'.x = d.x) : Hold r { s with c := c } := by
  obtain ⟨g, g1, g2, g3, g4, g5, g6⟩ := h.g
  refine ⟨⟨g, hk g g1 g2 g3 g4, g2, g3, g4, g5, fun d hd hne => ?_⟩, h.t, h.m⟩
  rcases hm d hd with h1 | ⟨d', h1, h2, h3, h4, h5⟩
  · exact h1
  · rw [← h5]
    refine g6 d' h1 fun e => hne ?_
    refine no_same hw'.no hd (hk g g1 g2 g3 g4) ?_
    rw [← h2, e]
theorem Hold.do_ {r : List Int} {s : S9} (hw : W8 s.c) (h : Hold r s) {d : D9} (he : d.env ≠ 0) : Hold r (do9 s d) := by
  unfold do9
  repeat' split
  · unfold allocS
    split
    · split
      · exact h
      · rename_i f hf
        have hf0 : (f : Int) ≠ 0 := by
          intro e
          have := List.find?_some hf
          rw [e, h.used] at this
          cases this
        have h1 := h.caps (c := addS8 s.c d.env (fcap f)) (fun g hg _ _ _ => keep_add hg) (hw.add ..) (fun c hc => by
          rcases mem_add hc with hc | ⟨-, e, -⟩
          · exact .inr ⟨c, hc, rfl, rfl, rfl, rfl⟩
          · rw [e]; exact .inl hf0)
        refine ⟨h1.g, h1.t, ?_⟩
        simp only
        split
        · rw [zrM_zero hf0]; exact h.m
        · exact h.m
    · exact h
  · exact h.caps (fun g hg _ _ _ => keep_give hg) (hw.give ..) (fun c hc => by
      rcases mem_give hc with hc | ⟨d', h1, h2, h3, h4, h5, h6, h7⟩
      · exact .inr ⟨c, hc, rfl, rfl, rfl, rfl⟩
      · left
        obtain ⟨g, g1, g2, g3, g4, g5, g6⟩ := h.g
        rw [h6]
        exact g6 d' h1 fun e => he (by rw [← h2, e]; exact g2))
  · exact (h.caps (c := dropS8 s.c d.env d.slot) (fun g hg g2 _ g4 => keep_drop hw hg g4 fun z => he (by rw [← z.1]; exact g2)) (hw.drop ..) (fun c hc => by
      obtain ⟨d', h1, h2, h3, h4, h5, -⟩ := mem_drop hc
      exact .inr ⟨d', h1, h2, h3, h4, h5⟩)).tidy
  · exact (h.caps (c := revokeS8 s.c d.env d.slot) (fun g hg _ _ g4 => keep_revoke hw hg g4) (hw.revoke ..) (fun c hc => .inr ⟨c, mem_revoke hc, rfl, rfl, rfl, rfl⟩)).tidy
  · unfold mapS
    split
    · rename_i hh
      obtain ⟨⟨⟨e0, e1⟩, hp⟩, hc⟩ := hh
      refine ⟨h.g, fun e hne he2 p x hx => ?_, h.m⟩
      simp only [upT] at hx
      split at hx
      · unfold tMap at hx
        split at hx
        · exact h.t _ (by omega) (by omega) p x hx
        · unfold tput at hx
          split at hx
          · rw [← Option.some.inj hx]; exact h.cap he hc
          · exact h.t _ (by omega) (by omega) p x hx
      · exact h.t e hne he2 p x hx
    · exact h
  · unfold unmapS
    split
    · rename_i hh
      obtain ⟨e0, e1⟩ := hh
      refine ⟨h.g, fun e hne he2 p x hx => ?_, h.m⟩
      simp only [upT] at hx
      split at hx
      · unfold tdel at hx
        split at hx
        · cases hx
        · exact h.t _ (by omega) (by omega) p x hx
      · exact h.t e hne he2 p x hx
    · exact h
  · exact h
  · unfold storeS
    split
    · rename_i hh
      obtain ⟨⟨e0, e1⟩, hz⟩ := hh
      refine ⟨h.g, h.t, ?_⟩
      simp only
      rw [wrM_zero]
      · exact h.m
      · unfold walk3 at hz ⊢
        split at hz
        · cases hz
        · rename_i hlt
          rw [if_neg hlt]
          cases ht : s.t d.env.toNat (d.addr / 32) with
          | none => rw [ht] at hz; cases hz
          | some x =>
            rw [ht] at hz
            simp only at hz ⊢
            unfold use3 at hz ⊢
            split at hz
            · cases hz
            · rename_i hu
              rw [if_neg hu]
              exact h.t _ (by omega) (by omega) _ x ht
    · exact h
  · unfold copyS
    split
    · rename_i hh
      refine ⟨h.g, h.t, ?_⟩
      simp only
      rw [cpM_zero (h.cap he hh.1)]
      exact h.m
    · exact h
  · exact h
  · unfold writeS
    split
    · rename_i hh
      refine ⟨h.g, h.t, ?_⟩
      simp only
      rw [wrM_zero (h.cap he hh)]
      exact h.m
    · exact h
  · exact (h.caps (c := goneS8 s.c d.env 64) (fun g hg g2 _ g4 => keep_gone hw hg g4 (fun z => he (by rw [← z]; exact g2)) 64) (hw.gone d.env 64) (fun c hc => by
      obtain ⟨⟨d', h1, h2, h3, h4, h5⟩, -⟩ := mem_gone hc
      exact .inr ⟨d', h1, h2, h3, h4, h5⟩)).tidy
/-- What it reads. -/
theorem Hold.read {r : List Int} {s : S9} (hw : W8 s.c) (h : Hold r s) (hr : r.length = 32) {w : Nat} (hw32 : w < 32) : readV s 0 1 w = ((r[w]?).getD 0, 0) := by
  obtain ⟨g, g1, g2, g3, g4, g5, g6⟩ := h.g
  have hl : look8 s.c.L 0 1 = some g := by have := look8_of hw.key g1; rwa [g2, g3] at this
  have hc : cap9 s.c 0 1 1 = (0, true) := by
    unfold cap9 getV8
    rw [hl]
    simp only [g5]
    decide +kernel
  unfold readV
  rw [hc]
  simp only [if_true]
  have hx : r[w]? = some r[w] := List.getElem?_eq_getElem (by omega)
  have e := rdV_of (k := 0) (m := s.m) h.m hx hw32
  rw [hx]
  exact e

/-! ### All gone -/
def allGone (s : S9) : Nat → S9
  | 0 => s
  | n + 1 => goneS (allGone s n) (n : Nat)
theorem allGone_mem (s : S9) : ∀ (n : Nat) (c : CE), c ∈ (allGone s n).c.L → (∃ d ∈ s.c.L, d.no = c.no ∧ d.env = c.env ∧ d.slot = c.slot ∧ d.x = c.x) ∧ ¬ (0 ≤ c.env ∧ c.env < n ∧ 1 ≤ c.slot ∧ c.slot ≤ 64)
  | 0, c, h => ⟨⟨c, h, rfl, rfl, rfl, rfl⟩, by omega⟩
  | n + 1, c, h => by
    unfold allGone at h
    rw [goneS_c] at h
    obtain ⟨⟨d, h1, h2, h3, h4, h5⟩, h6⟩ := mem_gone h
    obtain ⟨⟨d', g1, g2, g3, g4, g5⟩, g6⟩ := allGone_mem s n d h1
    refine ⟨⟨d', g1, g2.trans h2, g3.trans h3, g4.trans h4, g5.trans h5⟩, fun hk => ?_⟩
    by_cases he : c.env = (n : Nat)
    · exact h6 ⟨he, hk.2.2.1, by omega⟩
    · exact g6 (by rw [h3, h4]; omega)
theorem allGone_nil {s : S9} (hw : W8 s.c) : (allGone s 12).c.L = [] := by
  cases hL : (allGone s 12).c.L with
  | nil => rfl
  | cons c l =>
    exfalso
    obtain ⟨⟨d, h1, h2, h3, h4, h5⟩, h6⟩ := allGone_mem s 12 c (by rw [hL]; simp)
    obtain ⟨⟨a0, a1⟩, a2, a3, -⟩ := hw.in_ d h1
    exact h6 (by omega)
theorem allGone_m (s : S9) : ∀ n : Nat, (allGone s n).m = s.m
  | 0 => rfl
  | n + 1 => (goneS_m _ _).trans (allGone_m s n)
theorem allGone_w {s : S9} (hw : W8 s.c) : ∀ n : Nat, W8 (allGone s n).c
  | 0 => hw
  | n + 1 => by
    have := (allGone_w hw n).gone (n : Nat) 64
    unfold allGone
    rw [goneS_c]
    exact this

def cl (l0 : Int) (i : Nat) : S8 := ⟨(List.range i).map fun j => ⟨l0 + (j + 1 : Nat), 0, 5, (j + 1 : Nat), fcap j⟩, l0 + i⟩
theorem cl_has (l0 : Int) (i : Nat) (e : Int) (f : Nat) : has8 (cl l0 i).L e 1 f 0 = (decide (e = 5) && decide (f < i)) := by
  have hc : ∀ j : Nat, covers8 (fcap j) 1 f 0 = decide (f = j) := fun j => by
    have h0 : hasR 7 0 = true := by decide +kernel
    unfold covers8 fcap
    simp only [beq_self_eq_true, Bool.true_and, h0, Bool.and_true]
    rw [Bool.eq_iff_iff]
    simp only [Bool.and_eq_true, decide_eq_true_eq]
    omega
  unfold has8 cl
  simp only [List.any_map]
  rw [Bool.eq_iff_iff]
  simp only [List.any_eq_true, List.mem_range, Function.comp, Bool.and_eq_true, beq_iff_eq, decide_eq_true_eq, hc]
  constructor
  · rintro ⟨j, h1, h2, h3⟩; exact ⟨h2.symm, by omega⟩
  · rintro ⟨h1, h2⟩; exact ⟨f, h2, h1.symm, rfl⟩
theorem cl_free (l0 : Int) (i f : Nat) : free9 (cl l0 i) (f : Nat) = decide (i ≤ f) := by
  unfold free9 holders8
  simp only [cl_has]
  by_cases h : i ≤ f
  · have : ((ups 12).filter fun e => decide (e = 5) && decide (f < i)) = [] := by
      rw [List.filter_eq_nil_iff]
      intro a _
      simp; omega
    rw [this, decide_eq_true h]; rfl
  · rw [decide_eq_false h, List.isEmpty_eq_false_iff]
    refine List.ne_nil_of_mem (a := 5) (List.mem_filter.2 ⟨by decide, ?_⟩)
    simp; omega
theorem cl_look (l0 : Int) (i : Nat) (j : Nat) (hj : 1 ≤ j) : look8 (cl l0 i).L 5 j = if j ≤ i then some ⟨l0 + (j : Nat), 0, 5, (j : Nat), fcap (j - 1)⟩ else none := by
  cases hl : look8 (cl l0 i).L 5 j with
  | none =>
    rw [if_neg]
    intro hji
    have := look8_none hl ⟨l0 + (j - 1 + 1 : Nat), 0, 5, (j - 1 + 1 : Nat), fcap (j - 1)⟩ (List.mem_map.2 ⟨j - 1, List.mem_range.2 (by omega), rfl⟩)
    exact this ⟨rfl, by simp only; omega⟩
  | some c =>
    obtain ⟨h1, h2, h3⟩ := look8_some hl
    obtain ⟨q, hq, rfl⟩ := List.mem_map.1 h1
    rw [List.mem_range] at hq
    simp only at h3
    have : j = q + 1 := by omega
    subst this
    rw [if_pos (by omega)]
    rfl
theorem cl_add (l0 : Int) (i : Nat) (hi : i < 64) : addS8 (cl l0 i) 5 (fcap i) = cl l0 (i + 1) ∧ addV8 (cl l0 i) 5 (fcap i) = (((i + 1 : Nat) : Int), 0) := by
  have hf : free8 (cl l0 i).L 5 = (i + 1 : Nat) := by
    rcases free8_spec (cl l0 i).L 5 with ⟨h1, h2⟩ | ⟨j, h1, h2, h3, h4, h5⟩
    · exact absurd (by rw [cl_look _ _ _ (by omega), if_neg (by omega)]) (h2 (i + 1) (by omega) (by omega))
    · rw [h3]
      rw [cl_look _ _ _ h1] at h4
      split at h4
      · cases h4
      · rcases Nat.lt_or_ge (i + 1) j with z | z
        · exact absurd (by rw [cl_look _ _ _ (by omega), if_neg (by omega)]) (h5 (i + 1) (by omega) z)
        · have : j = i + 1 := by omega
          rw [this]
  have hc : env12 5 ∧ May8 (fcap i) := ⟨by decide, .inr ⟨rfl, rfl⟩, by simp only [fcap]; omega, by simp only [fcap]; omega, by simp only [fcap]; omega, by simp only [fcap]; omega, by simp only [fcap]; omega, by simp only [fcap]; omega⟩
  unfold addS8 addV8
  rw [if_pos hc, if_pos hc]
  unfold putS8 putV8
  rw [hf, if_neg (by omega), if_neg (by omega)]
  refine ⟨?_, rfl⟩
  unfold cl
  simp only [List.range_succ, List.map_append, List.map_cons, List.map_nil, S8.mk.injEq]
  refine ⟨?_, by omega⟩
  congr 1
  simp only [List.cons.injEq, CE.mk.injEq, and_true]
  omega
theorem find_range (p : Nat → Bool) (n i : Nat) (hi : i ≤ n) (h : ∀ j < n, p j = decide (i ≤ j)) : (List.range n).find? p = if i < n then some i else none := by
  by_cases hin : i < n
  · rw [if_pos hin, List.find?_range_eq_some]
    exact ⟨by rw [h i hin]; simp, List.mem_range.2 hin, fun j hj => by rw [h j (by omega)]; simp; omega⟩
  · rw [if_neg hin, List.find?_eq_none]
    intro j hj
    rw [List.mem_range] at hj
    rw [h j hj]
    simp; omega
/-- Behind all gone, frame by frame is had again, and all 0. -/
theorem cl_alloc {s : S9} {l0 : Int} {i : Nat} (hc : s.c = cl l0 i) (hm : s.m.length = 4) (hi : i ≤ 4) :
    (i < 4 → (allocS s 5).c = cl l0 (i + 1) ∧ (allocS s 5).m.length = 4 ∧ allocV s 5 = (((i + 1 : Nat) : Int), 0) ∧ ∀ w : Nat, w < 32 → readV (allocS s 5) 5 (i + 1 : Nat) w = (0, 0)) ∧ (i = 4 → allocV s 5 = (0, 106)) := by
  have hfirst : first9 s = if i < 4 then some i else none := by
    unfold first9
    rw [hm, hc]
    exact find_range _ 4 i hi fun j _ => cl_free l0 i j
  have he : env12 5 := by decide
  refine ⟨fun hi4 => ?_, fun hi4 => ?_⟩
  · rw [if_pos hi4] at hfirst
    obtain ⟨e1, e2⟩ := cl_add l0 i (by omega)
    have hV : allocV s 5 = (((i + 1 : Nat) : Int), 0) := by
      unfold allocV
      rw [if_pos he, hfirst]
      simp only
      rw [hc]
      exact e2
    have hS : allocS s 5 = ⟨s.m.set i (List.replicate 32 0), cl l0 (i + 1), s.t⟩ := by
      unfold allocS
      rw [if_pos he, hfirst]
      simp only
      rw [hc, e1, e2, if_pos rfl, zr_of (by omega)]
    refine ⟨by rw [hS], by rw [hS]; simpa using hm, hV, fun w hw => ?_⟩
    rw [hS]
    have hcap : cap9 (cl l0 (i + 1)) 5 (i + 1 : Nat) 1 = ((i : Int), true) := by
      unfold cap9 getV8
      rw [cl_look _ _ _ (by omega), if_pos (by omega)]
      simp only [Nat.add_sub_cancel]
      have : hasR (fcap i).r 1 = true := by show hasR 7 1 = true; decide +kernel
      rw [this]
      rfl
    unfold readV
    simp only
    rw [hcap]
    simp only [if_true]
    have hb : (s.m.set i (List.replicate 32 0))[i]? = some (List.replicate 32 0) := by rw [List.getElem?_set, if_pos rfl, if_pos (by omega)]
    exact rdV_of hb (x := 0) (by rw [List.getElem?_replicate, if_pos hw]) hw
  · rw [if_neg (by omega)] at hfirst
    unfold allocV
    rw [if_pos he, hfirst]
theorem cl_nil {c : S8} (h : c.L = []) : c = cl c.last 0 := by
  obtain ⟨L, last⟩ := c
  simp only at h
  subst h
  simp [cl]
theorem cl_left {s : S9} {l0 : Int} (hc : s.c = cl l0 0) (hm : s.m.length = 4) : left9 s = 4 := by
  unfold left9
  rw [hm, hc]
  have : (List.range 4).filter (fun f => free9 (cl l0 0) (f : Nat)) = List.range 4 := List.filter_eq_self.2 fun f _ => by rw [cl_free]; simp
  rw [this]
  simp

end Go.Proofs
