/-
  exomem, as plain functions: what the document says of a kernel of frames under capabilities.
  Memory and tables as parts; their contracts, as the plain functions say them.
-/
import Derived.Test.YthpcakhhemdibaaGreatMemA
import Derived.Test.YthpcakhhemdibaaGreatPCapsA
import Derived.Test.YthpcakhhemdibaaGreatDenC
set_option linter.unusedVariables false
set_option linter.unusedSimpArgs false
namespace Go.Proofs
open Go Go.Den

/-- Memory, capabilities, of each environment a table. -/
structure S9 where
  m : List (List Int)
  c : S8
  t : Nat → Tb

/-! ### Memory -/
def inM (m : List (List Int)) (f : Int) : Prop := 0 ≤ f ∧ f < (m.length : Int)
instance (m : List (List Int)) (f : Int) : Decidable (inM m f) := inferInstanceAs (Decidable (_ ∧ _))
def in32 (w : Int) : Prop := 0 ≤ w ∧ w < 32
instance (w : Int) : Decidable (in32 w) := inferInstanceAs (Decidable (_ ∧ _))
def row9 (m : List (List Int)) (f : Int) : List Int := (m[f.toNat]?).getD []
def rdV (m : List (List Int)) (f w : Int) : Int × Int := if inM m f ∧ in32 w then (((row9 m f)[w.toNat]?).getD 0, 0) else (0, 101)
def wrV (m : List (List Int)) (f w : Int) : Int := if inM m f ∧ in32 w then 0 else 101
def wrM (m : List (List Int)) (f w v : Int) : List (List Int) := if inM m f ∧ in32 w then m.set f.toNat ((row9 m f).set w.toNat v) else m
def cpV (m : List (List Int)) (a b : Int) : Int := if inM m a ∧ inM m b then 0 else 101
def cpM (m : List (List Int)) (a b : Int) : List (List Int) := if inM m a ∧ inM m b then m.set a.toNat (row9 m b) else m
def zrM (m : List (List Int)) (f : Int) : List (List Int) := if inM m f then m.set f.toNat (List.replicate 32 0) else m

/-! ### The kernel -/
def need9 (w : Bool) : Int := if w then 3 else 1
def holds9 (c : S8) (e : Nat) (x : Int × Bool) : Bool := has8 c.L e 1 x.1 (need9 x.2)
def tidyT (c : S8) (e : Nat) (t : Tb) : Tb := fun p => match t p with
  | none => none
  | some x => if holds9 c e x then some x else none
def tidyS (s : S9) : S9 := { s with t := fun e => tidyT s.c e (s.t e) }
def free9 (c : S8) (f : Int) : Bool := (holders8 c.L 1 f).isEmpty
def first9 (s : S9) : Option Nat := (List.range s.m.length).find? fun f => free9 s.c (f : Nat)
def fcap (f : Nat) : Cap8 := ⟨1, f, 1, 7⟩
def allocS (s : S9) (e : Int) : S9 := if env12 e then (match first9 s with
  | none => s
  | some f => ⟨if (addV8 s.c e (fcap f)).2 = 0 then zrM s.m f else s.m, addS8 s.c e (fcap f), s.t⟩) else s
def allocV (s : S9) (e : Int) : Int × Int := if env12 e then (match first9 s with
  | none => (0, 106)
  | some f => addV8 s.c e (fcap f)) else (0, 101)
def grantS (s : S9) (e sl to r : Int) : S9 := { s with c := giveS8 s.c e sl to r }
def freeS (s : S9) (e sl : Int) : S9 := tidyS { s with c := dropS8 s.c e sl }
def revS (s : S9) (e sl : Int) : S9 := tidyS { s with c := revokeS8 s.c e sl }
/-- A slot's frame, if it has rights. -/
def cap9 (c : S8) (e sl r : Int) : Int × Bool := ((getV8 c.L e sl).1.i, (getV8 c.L e sl).2 && hasR (getV8 c.L e sl).1.r r)
def in4 (p : Int) : Prop := 0 ≤ p ∧ p < 4
instance (p : Int) : Decidable (in4 p) := inferInstanceAs (Decidable (_ ∧ _))
def mapV (s : S9) (e p sl : Int) (w : Bool) : Int := if env12 e ∧ in4 p then (if (cap9 s.c e sl (need9 w)).2 then tMapE p (cap9 s.c e sl (need9 w)).1 else 104) else 101
def upT (t : Nat → Tb) (i : Nat) (x : Tb) : Nat → Tb := fun j => if i = j then x else t j
def mapS (s : S9) (e p sl : Int) (w : Bool) : S9 := if (env12 e ∧ in4 p) ∧ (cap9 s.c e sl (need9 w)).2 then { s with t := upT s.t e.toNat (tMap (s.t e.toNat) p ((cap9 s.c e sl (need9 w)).1, w)) } else s
def unmapV (s : S9) (e p : Int) : Int := if env12 e then tUnE (s.t e.toNat) p else 101
def unmapS (s : S9) (e p : Int) : S9 := if env12 e then { s with t := upT s.t e.toNat (tdel (s.t e.toNat) p) } else s
def loadV (s : S9) (e a : Int) : Int × Int := if env12 e then (if (walk3 (s.t e.toNat) a false).2.2 = 0 then rdV s.m (walk3 (s.t e.toNat) a false).1 (walk3 (s.t e.toNat) a false).2.1 else (0, (walk3 (s.t e.toNat) a false).2.2)) else (0, 101)
def storeV (s : S9) (e a : Int) : Int := if env12 e then (if (walk3 (s.t e.toNat) a true).2.2 = 0 then wrV s.m (walk3 (s.t e.toNat) a true).1 (walk3 (s.t e.toNat) a true).2.1 else (walk3 (s.t e.toNat) a true).2.2) else 101
def storeS (s : S9) (e a v : Int) : S9 := if env12 e ∧ (walk3 (s.t e.toNat) a true).2.2 = 0 then { s with m := wrM s.m (walk3 (s.t e.toNat) a true).1 (walk3 (s.t e.toNat) a true).2.1 v } else s
def copyV (s : S9) (e to fr : Int) : Int := if (cap9 s.c e to 2).2 ∧ (cap9 s.c e fr 1).2 then cpV s.m (cap9 s.c e to 2).1 (cap9 s.c e fr 1).1 else 104
def copyS (s : S9) (e to fr : Int) : S9 := if (cap9 s.c e to 2).2 ∧ (cap9 s.c e fr 1).2 then { s with m := cpM s.m (cap9 s.c e to 2).1 (cap9 s.c e fr 1).1 } else s
def readV (s : S9) (e sl w : Int) : Int × Int := if (cap9 s.c e sl 1).2 then rdV s.m (cap9 s.c e sl 1).1 w else (0, 104)
def writeV (s : S9) (e sl w : Int) : Int := if (cap9 s.c e sl 2).2 then wrV s.m (cap9 s.c e sl 2).1 w else 104
def writeS (s : S9) (e sl w v : Int) : S9 := if (cap9 s.c e sl 2).2 then { s with m := wrM s.m (cap9 s.c e sl 2).1 w v } else s
def pageT (s : S9) (e p : Int) : Option (Int × Bool) := if env12 e then s.t e.toNat p else none

/-- The pages' frames are numbers of capabilities. -/
def T9 (s : S9) : Prop := ∀ (e : Nat) (q : Int) (x : Int × Bool), s.t e q = some x → 0 ≤ x.1 ∧ x.1 ≤ 1048576
theorem T9.wf {s : S9} (h : T9 s) {e : Nat} {q : Int} {x : Int × Bool} (hx : s.t e q = some x) : (Lit.int .i64 x.1).wf = true := by
  have := h e q x hx
  simp [Lit.wf, IntKind.min, IntKind.max, IntKind.bits, IntKind.signed]
  omega
theorem tidyT_some {c : S8} {e : Nat} {t : Tb} {q : Int} {x : Int × Bool} (h : tidyT c e t q = some x) : t q = some x ∧ holds9 c e x = true := by
  unfold tidyT at h
  split at h
  · cases h
  · rename_i y hy
    split at h
    · rename_i hh
      obtain rfl := Option.some.inj h
      exact ⟨hy, hh⟩
    · cases h
theorem T9.c {s : S9} (h : T9 s) (c : S8) : T9 { s with c := c } := h
theorem T9.m {s : S9} (h : T9 s) (m : List (List Int)) : T9 { s with m := m } := h
theorem T9.tidy {s : S9} (h : T9 s) : T9 (tidyS s) := fun e q x hx => h e q x (tidyT_some hx).1
theorem T9.up {s : S9} (h : T9 s) (e : Nat) {t : Tb} (ht : ∀ q x, t q = some x → 0 ≤ x.1 ∧ x.1 ≤ 1048576) : T9 { s with t := upT s.t e t } := fun e' q x hx => by
  simp only [upT] at hx
  split at hx
  · exact ht q x hx
  · exact h e' q x hx
theorem cap9_le {c : S8} (hw : W8 c) {e sl r : Int} (h : (cap9 c e sl r).2 = true) : 0 ≤ (cap9 c e sl r).1 ∧ (cap9 c e sl r).1 ≤ 1048576 := by
  unfold cap9 getV8 at h ⊢
  cases hl : look8 c.L e sl with
  | none => rw [hl] at h; cases h
  | some d =>
    obtain ⟨-, b2, b3, -⟩ := (hw.in_ d (look8_some hl).1).2.2.2.1
    exact ⟨b2, b3⟩
theorem T9.map {s : S9} (hw : W8 s.c) (h : T9 s) (e p sl : Int) (w : Bool) : T9 (mapS s e p sl w) := by
  unfold mapS
  split
  · rename_i hh
    refine h.up _ fun q x hx => ?_
    unfold tMap at hx
    split at hx
    · exact h _ q x hx
    · unfold tput at hx
      split at hx
      · rw [← Option.some.inj hx]; exact cap9_le hw hh.2
      · exact h _ q x hx
  · exact h
theorem T9.unmap {s : S9} (h : T9 s) (e p : Int) : T9 (unmapS s e p) := by
  unfold unmapS
  split
  · refine h.up _ fun q x hx => ?_
    unfold tdel at hx
    split at hx
    · cases hx
    · exact h _ q x hx
  · exact h
theorem T9.alloc {s : S9} (h : T9 s) (e : Int) : T9 (allocS s e) := by
  unfold allocS
  split
  · split <;> exact h
  · exact h
theorem T9.store {s : S9} (h : T9 s) (e a v : Int) : T9 (storeS s e a v) := by unfold storeS; split <;> exact h
theorem T9.copy {s : S9} (h : T9 s) (e a b : Int) : T9 (copyS s e a b) := by unfold copyS; split <;> exact h
theorem T9.write {s : S9} (h : T9 s) (e sl d v : Int) : T9 (writeS s e sl d v) := by unfold writeS; split <;> exact h

end Go.Proofs

set_option linter.unusedSimpArgs false
namespace Go.Proofs
open Go Go.Den

def memPart (p : Nat) (bs : List (List Int)) (F : List Nat) : Part := ⟨F, fun w => MemP w p bs F, fun h k => h.keep k, fun h => h.lt⟩
def tblPart (p : Nat) (t : Tb) (F : List Nat) : Part := ⟨F, fun w => TblP w p t F, fun h k => h.keep k, fun h => h.lt⟩

section
variable {m : List (List Int)} {k j : Nat} {b : List Int}
theorem inM_of (hb : m[k]? = some b) : inM m (k : Int) := by
  have := (List.getElem?_eq_some_iff.1 hb).1
  exact ⟨by omega, by omega⟩
theorem row9_of (hb : m[k]? = some b) : row9 m (k : Int) = b := by
  unfold row9; rw [Int.toNat_natCast, hb]; rfl
theorem rdV_of {x : Int} (hb : m[k]? = some b) (hx : b[j]? = some x) (hj : j < 32) : rdV m k j = (x, 0) := by
  unfold rdV
  rw [if_pos ⟨inM_of hb, ⟨by omega, by omega⟩⟩, row9_of hb, Int.toNat_natCast, hx]
  rfl
theorem rdV_out {f w : Int} (h : f < 0 ∨ (m.length : Int) ≤ f ∨ w < 0 ∨ 32 ≤ w) : rdV m f w = (0, 101) := by
  unfold rdV inM in32
  rw [if_neg (by omega)]
theorem wr_of (hb : m[k]? = some b) (hj : j < 32) (v : Int) : wrM m k j v = m.set k (b.set j v) ∧ wrV m k j = 0 := by
  unfold wrM wrV
  rw [if_pos ⟨inM_of hb, ⟨by omega, by omega⟩⟩, if_pos ⟨inM_of hb, ⟨by omega, by omega⟩⟩, row9_of hb, Int.toNat_natCast, Int.toNat_natCast]
  exact ⟨rfl, rfl⟩
theorem wr_out {f w : Int} (h : f < 0 ∨ (m.length : Int) ≤ f ∨ w < 0 ∨ 32 ≤ w) (v : Int) : wrM m f w v = m ∧ wrV m f w = 101 := by
  unfold wrM wrV inM in32
  rw [if_neg (by omega), if_neg (by omega)]
  exact ⟨rfl, rfl⟩
theorem cp_of {t : Nat} (ht : t < m.length) (hb : m[k]? = some b) : cpM m t k = m.set t b ∧ cpV m t k = 0 := by
  unfold cpM cpV
  have h1 : inM m (t : Int) := ⟨by omega, by omega⟩
  rw [if_pos ⟨h1, inM_of hb⟩, if_pos ⟨h1, inM_of hb⟩, row9_of hb, Int.toNat_natCast]
  exact ⟨rfl, rfl⟩
theorem cp_out {f g : Int} (h : f < 0 ∨ (m.length : Int) ≤ f ∨ g < 0 ∨ (m.length : Int) ≤ g) : cpM m f g = m ∧ cpV m f g = 101 := by
  unfold cpM cpV inM
  rw [if_neg (by omega), if_neg (by omega)]
  exact ⟨rfl, rfl⟩
theorem zr_of (hk : k < m.length) : zrM m k = m.set k (List.replicate 32 0) := by
  unfold zrM
  rw [if_pos ⟨by omega, by omega⟩, Int.toNat_natCast]
theorem zr_out {f : Int} (h : f < 0 ∨ (m.length : Int) ≤ f) : zrM m f = m := by
  unfold zrM
  rw [if_neg (show ¬ inM m f by unfold inM; omega)]
theorem wrM_len (f w v : Int) : (wrM m f w v).length = m.length := by unfold wrM; split <;> simp
theorem cpM_len (f g : Int) : (cpM m f g).length = m.length := by unfold cpM; split <;> simp
end

section
variable {w : World} {p : Nat} {m : List (List Int)} {F : List Nat}
theorem pmRead (h : MemP w p m F) (f d : Int) {K : Value → World → Prop} (hK : K (.tuple #[.int .u64 (rdV m f d).1, .int .i64 (rdV m f d).2]) w) : CallsR Tryz.prog F_mem_Mem_Read #[.pointer (some ⟨p, 0, none⟩), .int .i64 f, .int .i64 d] w K :=
  mem_read h f d (fun ho => by rw [rdV_out ho] at hK; exact hK) (fun k j b x hf hd hj hb hx => by subst hf hd; rw [rdV_of hb hx hj] at hK; exact hK)
theorem pmWrite (h : MemP w p m F) (f d v : Int) {K : Value → World → Prop} (hK : ∀ w', MemP w' p (wrM m f d v) F → Mod F w w' → K (.int .i64 (wrV m f d)) w') : CallsR Tryz.prog F_mem_Mem_Write #[.pointer (some ⟨p, 0, none⟩), .int .i64 f, .int .i64 d, .int .u64 v] w K :=
  mem_write h f d v (fun ho => by obtain ⟨e1, e2⟩ := wr_out ho v; rw [e1, e2] at hK; exact hK w h (Mod.refl _ _)) (fun k j b w' hf hd hj hb h' m' => by subst hf hd; obtain ⟨e1, e2⟩ := wr_of hb hj v; rw [e1, e2] at hK; exact hK w' h' m')
theorem pmCopy (h : MemP w p m F) (f g : Int) {K : Value → World → Prop} (hK : ∀ w', MemP w' p (cpM m f g) F → Mod F w w' → K (.int .i64 (cpV m f g)) w') : CallsR Tryz.prog F_mem_Mem_Copy #[.pointer (some ⟨p, 0, none⟩), .int .i64 f, .int .i64 g] w K :=
  mem_copy h f g (fun ho => by obtain ⟨e1, e2⟩ := cp_out ho; rw [e1, e2] at hK; exact hK w h (Mod.refl _ _)) (fun t k b w' hf hg ht hb h' m' => by subst hf hg; obtain ⟨e1, e2⟩ := cp_of ht hb; rw [e1, e2] at hK; exact hK w' h' m')
theorem pmZero (h : MemP w p m F) (f : Int) {K : Value → World → Prop} (hK : ∀ w' n, MemP w' p (zrM m f) F → Mod F w w' → K (.int .i64 n) w') : CallsR Tryz.prog F_mem_Mem_Zero #[.pointer (some ⟨p, 0, none⟩), .int .i64 f] w K :=
  mem_zero h f (fun ho => by rw [zr_out ho] at hK; exact hK w _ h (Mod.refl _ _)) (fun k w' hf hk h' m' => by subst hf; rw [zr_of hk] at hK; exact hK w' _ h' m')
end

end Go.Proofs
