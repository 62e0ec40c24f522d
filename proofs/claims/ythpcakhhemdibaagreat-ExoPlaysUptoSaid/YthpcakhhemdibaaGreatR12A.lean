/-
  janusref12: the reference's kernel in the heap; its contracts.
  janusref12: contracts of the reference's kernel: sync, capabilities, a new one.
-/
import Derived.Test.YthpcakhhemdibaaGreatP12A
import Derived.Test.YthpcakhhemdibaaGreatD3rA
import Derived.Test.YthpcakhhemdibaaGreatRCapsA
set_option linter.unusedVariables false
set_option linter.unusedSimpArgs false
namespace Go.Den
open Go

/-- A part turns, and may take over what belongs to no other. -/
theorem Prts.take {w w' : World} {l : List Part} (h : Prts w l) (i : Nat) {p : Part} (hi : l[i]? = some p) (p' : Part) (hp : p'.P w') (hm : Mod p.F w w') (ho : ∀ x ∈ p'.F, x ∈ p.F ∨ x ∉ PF l) : Prts w' (l.set i p') := by
  have other : ∀ {j : Nat} {q}, i ≠ j → l[j]? = some q → q.P w' ∧ (∀ x ∈ p'.F, x ∉ q.F) := fun {j q} hij hj => by
    have hq := h.nth hj
    refine ⟨q.keep hq fun b hb => hm.keep b (q.lt hq b hb) fun hh => h.dj hij hi hj b hh hb, fun x hx hx' => ?_⟩
    rcases ho x hx with hh | hh
    · exact h.dj hij hi hj x hh hx'
    · exact hh (mem_PF.2 ⟨j, q, hj, hx'⟩)
  refine ⟨fun {j q} hj => ?_, fun {j k q r} hjk hj hk => ?_⟩
  · rw [List.getElem?_set] at hj
    by_cases hij : i = j
    · rw [if_pos hij] at hj
      split at hj
      · obtain rfl := Option.some.inj hj; exact hp
      · cases hj
    · rw [if_neg hij] at hj
      exact (other hij hj).1
  · rw [List.getElem?_set] at hj hk
    by_cases hij : i = j <;> by_cases hik : i = k
    · omega
    · rw [if_pos hij] at hj
      rw [if_neg hik] at hk
      split at hj
      · obtain rfl := Option.some.inj hj; exact (other hik hk).2
      · cases hj
    · rw [if_pos hik] at hk
      rw [if_neg hij] at hj
      split at hk
      · obtain rfl := Option.some.inj hk; exact fun x hx hx' => (other hij hj).2 x hx' hx
      · cases hk
    · rw [if_neg hij] at hj
      rw [if_neg hik] at hk
      exact h.dj hjk hj hk

end Go.Den
namespace Go.Proofs
open Go Go.Den

structure RA12 where
  pd : Nat
  pc : Nat
  T : TypeId
  Fd : List Nat
  Fc : List Nat
  aI : Option Addr
  cI : Nat
  GI : List Nat
  aN : Option Addr
  cN : Nat
  GN : List Nat
  aW : Option Addr
  cW : Nat
  FW : List Nat
def robj12 (A : RA12) (s : S12) : Obj := .cells #[.pointer (some ⟨A.pd, 0, none⟩), .pointer (some ⟨A.pc, 0, none⟩), .slice A.aI s.I.length A.cI, .slice A.aN s.N.length A.cN, .slice A.aW s.W.length A.cW] A.T (0, 0)
def rparts12 (p : Nat) (A : RA12) (s : S12) : List Part := [blk p (robj12 A s), diskrPart A.pd s.d A.Fd, crPart A.pc s.c A.Fc, sl A.aI s.I.length A.cI 1 (i64s s.I) A.GI, sl A.aN s.N.length A.cN 1 (i64s s.N) A.GN, rwPart A.aW s.W.length A.cW s.W A.FW]

/-- The reference's kernel at block 'p'. -/
def KR12 (w : World) (p : Nat) (s : S12) (F : List Nat) : Prop := T12 s ∧ ∃ A, Prts w (rparts12 p A s) ∧ F = PF (rparts12 p A s)
theorem KR12.lt {w : World} {p : Nat} {s : S12} {F : List Nat} (h : KR12 w p s F) : ∀ b ∈ F, b < w.heap.size := by
  obtain ⟨-, A, h1, rfl⟩ := h; exact h1.lt
theorem KR12.keep {w w' : World} {p : Nat} {s : S12} {F : List Nat} (h : KR12 w p s F) (hk : ∀ b ∈ F, w'.heap[b]? = w.heap[b]?) : KR12 w' p s F := by
  obtain ⟨h0, A, h1, rfl⟩ := h; exact ⟨h0, A, h1.keep hk, rfl⟩
theorem KR12.t {w : World} {p : Nat} {s : S12} {F : List Nat} (h : KR12 w p s F) : T12 s := h.1
theorem KR12.w8 {w : World} {p : Nat} {s : S12} {F : List Nat} (h : KR12 w p s F) : W8 s.c := by
  obtain ⟨-, A, h1, rfl⟩ := h
  exact (h1.nth (i := 2) rfl : CR w A.pc s.c A.Fc).1
def krPart12 (p : Nat) (s : S12) (F : List Nat) : Part := ⟨F, fun w => KR12 w p s F, fun h k => h.keep k, fun h => h.lt⟩

def Small12 (c : S8) : Prop := c.L.length ≤ 10000 ∧ c.last ≤ 10000
theorem Small12.grows {c c' : S8} (h : Grows 0 c c') (hs : Small12 c) : Small12 c' := ⟨Nat.le_trans h.1 hs.1, Int.le_trans h.2 (by have := hs.2; omega)⟩

section
variable {w w' : World} {p : Nat} {A : RA12} {s : S12}
theorem r12d (h : Prts w (rparts12 p A s)) : DiskR w A.pd s.d A.Fd := h.nth (i := 1) rfl
theorem r12c (h : Prts w (rparts12 p A s)) : CR w A.pc s.c A.Fc := h.nth (i := 2) rfl
theorem r12I (h : Prts w (rparts12 p A s)) : SlB w A.aI s.I.length A.cI 1 (i64s s.I) A.GI := h.nth (i := 3) rfl
theorem r12N (h : Prts w (rparts12 p A s)) : SlB w A.aN s.N.length A.cN 1 (i64s s.N) A.GN := h.nth (i := 4) rfl
theorem r12W (h : Prts w (rparts12 p A s)) : RwP w A.aW s.W.length A.cW s.W A.FW := h.nth (i := 5) rfl
theorem r12blk (h : Prts w (rparts12 p A s)) : w.heap[p]? = some (robj12 A s) := h.nth (i := 0) rfl
theorem r12c0 (h : Prts w (rparts12 p A s)) : w.cell? ⟨p, 0, none⟩ = some (.pointer (some ⟨A.pd, 0, none⟩)) := by rw [cell_get (r12blk h)]; rfl
theorem r12c1 (h : Prts w (rparts12 p A s)) : w.cell? ⟨p, 1, none⟩ = some (.pointer (some ⟨A.pc, 0, none⟩)) := by rw [cell_get (r12blk h)]; rfl
theorem r12c2 (h : Prts w (rparts12 p A s)) : w.cell? ⟨p, 2, none⟩ = some (.slice A.aI s.I.length A.cI) := by rw [cell_get (r12blk h)]; rfl
theorem r12c3 (h : Prts w (rparts12 p A s)) : w.cell? ⟨p, 3, none⟩ = some (.slice A.aN s.N.length A.cN) := by rw [cell_get (r12blk h)]; rfl
theorem r12c4 (h : Prts w (rparts12 p A s)) : w.cell? ⟨p, 4, none⟩ = some (.slice A.aW s.W.length A.cW) := by rw [cell_get (r12blk h)]; rfl
theorem r12_cap (h : Prts w (rparts12 p A s)) {c' : S8} {Fc' : List Nat} (hp : CR w' A.pc c' Fc') (hm : Mod A.Fc w w') (ho : Own w A.Fc Fc') : Prts w' (rparts12 p { A with Fc := Fc' } { s with c := c' }) ∧ Mod (PF (rparts12 p A s)) w w' ∧ Own w (PF (rparts12 p A s)) (PF (rparts12 p { A with Fc := Fc' } { s with c := c' })) :=
  h.step 2 rfl (crPart A.pc c' Fc') hp hm ho
theorem r12pin (p : Nat) (A : RA12) (s : S12) : p ∈ PF (rparts12 p A s) := mem_PF.2 ⟨0, _, rfl, by simp [blk]⟩

/-- The numbers of what is in the cache are others. -/
theorem r12_setI (h : Prts w (rparts12 p A s)) {w1 : World} (m1 : Mod [] w w1) {I' : List Int} {a : Option Addr} {c l : Nat} {G : List Nat} (hs : SlB w1 a l c 1 (i64s I') G) (hG : Beyond w.heap.size G) {K : World → Prop}
    (hK : ∀ w', Prts w' (rparts12 p { A with aI := a, cI := c, GI := G } { s with I := I' }) → Mod (PF (rparts12 p A s)) w w' → Mod (PF (rparts12 p A s)) w1 w' → Own w (PF (rparts12 p A s)) (PF (rparts12 p { A with aI := a, cI := c, GI := G } { s with I := I' })) → K w') : Go.Den.stK ⟨p, 2, none⟩ [.slice a l c] w1 K := by
  obtain rfl : I'.length = l := hs.i64
  obtain ⟨g1, g2, g3⟩ := h.step 3 rfl (sl a I'.length c 1 (i64s I') G) hs m1.of0 (fun x hx => .inr (hG x hx))
  have hb : w1.heap[p]? = some (robj12 A s) := g1.nth (i := 0) rfl
  unfold robj12 at hb
  refine stK_of hb (by simp) ?_
  simp only [splice_cons, splice_nil]
  generalize hw' : w1.upd p _ = w'
  have hm : Mod [p] w1 w' := by rw [← hw']; exact (Mod.refl _ _).upd (.inl (by simp)) _
  have hq : w'.heap[p]? = some (robj12 { A with aI := a, cI := c, GI := G } { s with I := I' }) := by rw [← hw', upd_same hb]; simp [robj12]
  obtain ⟨i1, i2, i3⟩ := g1.step 0 rfl (blk p (robj12 { A with aI := a, cI := c, GI := G } { s with I := I' })) hq hm (Own.refl _ _)
  have mM : Mod (PF (rparts12 p A s)) w1 w' := hm.mono fun x hx => by simp only [List.mem_singleton] at hx; subst hx; exact r12pin x A s
  exact hK w' i1 (m1.of0.trans' mM) mM g3
theorem r12_setN (h : Prts w (rparts12 p A s)) {w1 : World} (m1 : Mod [] w w1) {N' : List Int} {a : Option Addr} {c l : Nat} {G : List Nat} (hs : SlB w1 a l c 1 (i64s N') G) (hG : Beyond w.heap.size G) {K : World → Prop}
    (hK : ∀ w', Prts w' (rparts12 p { A with aN := a, cN := c, GN := G } { s with N := N' }) → Mod (PF (rparts12 p A s)) w w' → Mod (PF (rparts12 p A s)) w1 w' → Own w (PF (rparts12 p A s)) (PF (rparts12 p { A with aN := a, cN := c, GN := G } { s with N := N' })) → K w') : Go.Den.stK ⟨p, 3, none⟩ [.slice a l c] w1 K := by
  obtain rfl : N'.length = l := hs.i64
  obtain ⟨g1, g2, g3⟩ := h.step 4 rfl (sl a N'.length c 1 (i64s N') G) hs m1.of0 (fun x hx => .inr (hG x hx))
  have hb : w1.heap[p]? = some (robj12 A s) := g1.nth (i := 0) rfl
  unfold robj12 at hb
  refine stK_of hb (by simp) ?_
  simp only [splice_cons, splice_nil]
  generalize hw' : w1.upd p _ = w'
  have hm : Mod [p] w1 w' := by rw [← hw']; exact (Mod.refl _ _).upd (.inl (by simp)) _
  have hq : w'.heap[p]? = some (robj12 { A with aN := a, cN := c, GN := G } { s with N := N' }) := by rw [← hw', upd_same hb]; simp [robj12]
  obtain ⟨i1, i2, i3⟩ := g1.step 0 rfl (blk p (robj12 { A with aN := a, cN := c, GN := G } { s with N := N' })) hq hm (Own.refl _ _)
  have mM : Mod (PF (rparts12 p A s)) w1 w' := hm.mono fun x hx => by simp only [List.mem_singleton] at hx; subst hx; exact r12pin x A s
  exact hK w' i1 (m1.of0.trans' mM) mM g3
/-- A cached block is another. -/
theorem r12_setW (h : Prts w (rparts12 p A s)) {k : Nat} (hk : k < s.W.length) {a : Option Addr} {c l : Nat} {ws : List Int} {G : List Nat} (hs : SlB w a l c 1 (u64s ws) G) (hG : ∀ x ∈ G, x ∉ PF (rparts12 p A s)) {ad : Addr} (ha : A.aW = some ad) {K : World → Prop}
    (hK : ∀ w', Prts w' (rparts12 p { A with FW := A.FW ++ G } { s with W := s.W.set k ws }) → Mod (PF (rparts12 p A s)) w w' → (∀ x ∈ PF (rparts12 p { A with FW := A.FW ++ G } { s with W := s.W.set k ws }), x ∈ PF (rparts12 p A s) ∨ x ∈ G) → SlB w' a l c 1 (u64s ws) G → K w') : Go.Den.stK (Addr.add ad k) [.slice a l c] w K := by
  obtain rfl : ws.length = l := hs.u64
  have hWin : ∀ x ∈ A.FW, x ∈ PF (rparts12 p A s) := fun x hx => mem_PF.2 ⟨5, _, rfl, hx⟩
  refine (r12W h).set hk hs (fun x hx hx' => hG x hx (hWin x hx')) ha fun w' g m => ?_
  have g' : RwP w' A.aW (s.W.set k ws).length A.cW (s.W.set k ws) (A.FW ++ G) := by rw [List.length_set]; exact g
  have i1 := h.take 5 rfl (rwPart A.aW (s.W.set k ws).length A.cW (s.W.set k ws) (A.FW ++ G)) g' m fun x hx => (List.mem_append.1 hx).imp id (hG x)
  have e : (rparts12 p A s).set 5 (rwPart A.aW (s.W.set k ws).length A.cW (s.W.set k ws) (A.FW ++ G)) = rparts12 p { A with FW := A.FW ++ G } { s with W := s.W.set k ws } := by
    unfold rparts12 robj12
    simp only [List.set_cons_succ, List.set_cons_zero, List.length_set]
  rw [e] at i1
  refine hK w' i1 (m.mono hWin) (fun x hx => ?_) (hs.keep fun x hx => m.keep x (hs.lt x hx) fun hh => hG x hx (hWin x hh))
  rw [← e] at hx
  obtain ⟨i, q, hq, hx⟩ := mem_PF.1 hx
  rw [List.getElem?_set] at hq
  split at hq
  · split at hq
    · obtain rfl := Option.some.inj hq
      exact (List.mem_append.1 hx).imp (hWin x) id
    · cases hq
  · exact .inl (mem_PF.2 ⟨i, q, hq, hx⟩)

theorem rmay12_run (h : Prts w (rparts12 p A s)) (hS : Small12 s.c) (e sl b r : Int) (hb : b ≤ 9223372036854775807) {K : Value → World → Prop} (hK : ∀ w', Mod [] w w' → K (.bool (may12 s e sl b r)) w') : CallsR Tryz.prog F_janusref12_Kernel_may #[.pointer (some ⟨p, 0, none⟩), .int .i64 e, .int .i64 sl, .int .i64 b, .int .i64 r] w K := by
  apply R_janusref12_Kernel_may_ok
  simp only [R_janusref12_Kernel_may, nilK_some, addr_add, Nat.zero_add]
  refine ⟨_, r12c1 h, get8_run (r12c h) (by have := hS.1; omega) e sl fun w1 m1 => ⟨_, _, _, _, _, rfl, ?_⟩⟩
  refine (Sep.nil m1).new fun bx w2 s2 m2 hbx => s2.st0 0 rfl rfl fun w3 s3 m3 => ?_
  have hK := hK w3 s3.mod
  obtain ⟨b1, b2, b3, b4, b5, b6⟩ := getV8_le (r12c h).1 e sl
  unfold may12 at hK
  generalize getV8 s.c.L e sl = x at *
  refine spl_of (fun ht => ⟨_, s3.cell 0 rfl rfl, ?_⟩) (fun hf => by rw [hf, Bool.false_and] at hK; exact hK)
  rw [ht, Bool.true_and] at hK
  unfold hasR at hK
  refine spl_of (fun h1 => ⟨_, s3.cell 0 rfl rfl, ?_⟩) (fun hf => by rw [hf, Bool.false_and] at hK; exact hK)
  rw [h1, Bool.true_and] at hK
  refine spl_of (fun h2 => ⟨_, s3.cell 0 rfl rfl, _, s3.cell 0 rfl rfl, ?_⟩) (fun hf => ?_)
  · have h2' : x.1.i ≤ b := by simpa using h2
    rw [decide_eq_true h2', Bool.true_and] at hK
    rw [w64 (by omega) (by omega), show decide (b - x.1.i < x.1.n) = decide (b < x.1.i + x.1.n) from decide_eq_decide.2 (by omega)]
    exact hK
  · rw [decide_eq_false (show ¬ x.1.i ≤ b by simpa using hf), Bool.false_and] at hK
    exact hK

theorem rlook12_run (hT : T12 s) (h : Prts w (rparts12 p A s)) (b : Int) {K : Value → World → Prop}
    (hK : ∀ a c G, SlB w a (look12 s b).length c 1 (u64s (look12 s b)) G → K (.slice a (look12 s b).length c) w) :
    CallsR Tryz.prog F_janusref12_Kernel_Look #[.pointer (some ⟨p, 0, none⟩), .int .i64 b] w K := by
  apply R_janusref12_Kernel_Look_ok
  simp only [R_janusref12_Kernel_Look, nilK_some, addr_add, Nat.zero_add]
  have hIl : s.I.length ≤ 1024 := by
    have hle := hT.le
    have := hT.rI.is_filter (n := 1024) fun x hx => by have := hT.inI x hx; unfold inD at this; omega
    have h2 := List.length_filter_le (fun x => decide (x ∈ s.I)) (ups 1024)
    rw [this] at h2
    simpa [ups] using h2
  refine ⟨_, _, _, r12c2 h, has_rd (r12I h).rd (by omega) b ⟨_, rfl, ?_⟩⟩
  rw [spl_decide]
  refine ⟨fun hb => ?_, fun hb => ?_⟩
  · have e0 : look12 s b = row12 s.W b := by unfold look12; rw [if_pos hb]
    obtain ⟨h1, h2⟩ := hT.inI b hb
    obtain ⟨k, rfl⟩ := nat_of h1
    have hk : k < s.W.length := by have := hT.len; omega
    obtain ⟨ad, a2, c2, G, ha, hc, hs, -⟩ := (r12W h).row (List.getElem?_eq_getElem hk)
    have e1 : look12 s (k : Int) = s.W[k] := by rw [e0]; unfold row12; rw [Int.toNat_natCast, List.getElem?_eq_getElem hk]; rfl
    refine ⟨_, _, _, r12c4 h, ?_⟩
    rw [ha, nilK_some, Int.toNat_natCast]
    rw [← e1] at hc hs
    exact ⟨⟨by omega, by omega⟩, _, _, _, hc, hK a2 c2 G hs⟩
  · have e0 : look12 s b = if inD s.d b then row12 s.d b else [] := by unfold look12; rw [if_neg hb]
    have out : ¬ inD s.d b → K (.slice none 0 0) w := fun hn => by
      have e1 : look12 s b = [] := by rw [e0, if_neg hn]
      have := hK none 0 []
      rw [e1] at this
      exact this (SlB.nil w 1)
    obtain ⟨aD, cD, hcD, hrow⟩ := (r12d h).ptr
    rw [spl_decide]
    refine ⟨fun hlt => out (by unfold inD; omega), fun hge => ⟨_, r12c0 h, ?_⟩⟩
    rw [nilK_some]
    refine ⟨_, _, _, hcD, ?_⟩
    rw [spl_decide]
    refine ⟨fun hlt => out (by unfold inD; omega), fun hlt => ⟨_, r12c0 h, ?_⟩⟩
    rw [nilK_some]
    refine ⟨_, _, _, hcD, ?_⟩
    obtain ⟨k, rfl⟩ := nat_of (by omega : 0 ≤ b)
    have hk : k < s.d.length := by omega
    obtain ⟨ad, a2, c2, G, ha, hc, hs, -⟩ := hrow k _ (List.getElem?_eq_getElem hk)
    have e1 : look12 s (k : Int) = s.d[k] := by rw [e0, if_pos ⟨by omega, by omega⟩]; unfold row12; rw [Int.toNat_natCast, List.getElem?_eq_getElem hk]; rfl
    rw [ha, nilK_some, Int.toNat_natCast]
    rw [← e1] at hc hs
    exact ⟨⟨by omega, by omega⟩, _, _, _, hc, hK a2 c2 G hs⟩
end

section
variable {w : World} {p : Nat} {s : S12} {F : List Nat}
theorem kr12_get (h : KR12 w p s F) (hS : Small12 s.c) (e sl b : Int) (hb : b ≤ 9223372036854775807) {K : Value → World → Prop}
    (hK : ∀ w' F' a c G, KR12 w' p (getS12 s e sl b) F' → Mod F w w' → Own w F F' → SlB w' a (getV12 s e sl b).1.length c 1 (u64s (getV12 s e sl b).1) G → K (.tuple #[.slice a (getV12 s e sl b).1.length c, .int .i64 (getV12 s e sl b).2]) w') :
    CallsR Tryz.prog F_janusref12_Kernel_Get #[.pointer (some ⟨p, 0, none⟩), .int .i64 e, .int .i64 sl, .int .i64 b] w K := by
  have hw8 := h.w8
  obtain ⟨hT, A, h1, rfl⟩ := h
  apply R_janusref12_Kernel_Get_ok
  simp only [R_janusref12_Kernel_Get, nilK_some, addr_add, Nat.zero_add]
  refine rmay12_run h1 hS e sl b 1 hb fun w1 m1 => ⟨_, rfl, spl_of (fun hm => ?_) (fun hm => ?_)⟩
  rotate_left
  · have hn : ¬ may12 s e sl b 1 = true := by rw [hm]; simp
    unfold getS12 getV12 at hK
    rw [if_neg hn, if_neg hn] at hK
    exact hK w1 _ none 0 [] ⟨hT, A, h1.mod0 m1, rfl⟩ m1.of0 (Own.refl _ _) (SlB.nil w1 1)
  have hin := may12_in hT hw8 hm
  have e32 := look12_32 hT hin
  have hT' := hT.get hw8 e sl b
  have h2 := h1.mod0 m1
  have hIl : s.I.length ≤ 1024 := by
    have hle := hT.le
    have := hT.rI.is_filter (n := 1024) fun x hx => by have := hT.inI x hx; unfold inD at this; omega
    have h2 := List.length_filter_le (fun x => decide (x ∈ s.I)) (ups 1024)
    rw [this] at h2
    simpa [ups] using h2
  refine rlook12_run hT h2 b fun a c G hs => ⟨_, _, _, rfl, fresh_K hs.rd (by omega) slT_u64 (by decide) fun a3 c3 w3 G3 hs3 hG3 m3 => ⟨_, _, _, rfl, _, _, _, r12c2 (h2.mod0 m3), ?_⟩⟩
  have h3 := h2.mod0 m3
  have hlt3 := h3.lt
  refine put_rd (r12I h3).rd (r12I h3).le (by omega) b fun a4 l4 c4 w4 G4 hs4 hG4 m4 => ⟨_, _, _, rfl, ?_⟩
  refine r12_setI h3 m4 hs4 hG4 fun w5 h5 m5 m5' o5 => ?_
  obtain ⟨k, rfl⟩ := nat_of hin.1
  have hk : k < s.W.length := by have := hT.len; have := hin.2; omega
  obtain ⟨ad, a6, c6, G6, ha, -, -, -⟩ := (r12W h5).row (List.getElem?_eq_getElem hk)
  refine ⟨_, _, _, r12c4 h5, ?_⟩
  simp only
  rw [show A.aW = some ad from ha, nilK_some, Int.toNat_natCast]
  refine ⟨⟨by omega, by omega⟩, ?_⟩
  have hlt1 := h2.lt
  have hGn : ∀ x ∈ G3, x ∉ PF (rparts12 p A s) := fun x hx hx' => by have := hlt1 x hx'; have := hG3 x hx; omega
  have hs5 : SlB w5 a3 (look12 s k).length c3 1 (u64s (look12 s k)) G3 := (hs3.mod m4 (by simp)).mod m5' hGn
  have hG5 : ∀ x ∈ G3, x ∉ PF (rparts12 p { A with aI := a4, cI := c4, GI := G4 } { s with I := putL s.I k }) := fun x hx hx' => by
    rcases o5 x hx' with hh | hh
    · exact hGn x hx hh
    · have := hs3.lt x hx; omega
  refine r12_setW h5 hk hs5 hG5 ha fun w7 h7 m7 o7 hs7 => ?_
  have eS : getS12 s e sl (k : Int) = { s with I := putL s.I k, W := s.W.set k (look12 s k) } := by unfold getS12; rw [if_pos hm, Int.toNat_natCast]
  have eV : getV12 s e sl (k : Int) = (look12 s k, 0) := by unfold getV12; rw [if_pos hm]
  rw [eS] at hT' hK
  rw [eV] at hK
  have hsz : w.heap.size ≤ w3.heap.size := (m1.trans' m3).size
  have ow : ∀ x ∈ PF (rparts12 p { A with aI := a4, cI := c4, GI := G4 } { s with I := putL s.I k }), x ∈ PF (rparts12 p A s) ∨ w.heap.size ≤ x := fun x hx => (o5 x hx).imp id fun hh => by omega
  refine hK w7 _ a3 c3 G3 ⟨hT', _, h7, rfl⟩ (((m1.trans' m3).of0.trans' m5).trans m7 fun x hx hlt => (ow x hx).resolve_right (by omega)) (fun x hx => ?_) hs7
  rcases o7 x hx with hh | hh
  · exact ow x hh
  · right; have := hG3 x hh; have := m1.size; omega

theorem kr12_put (h : KR12 w p s F) (hS : Small12 s.c) (e sl b : Int) (hb : b ≤ 9223372036854775807) {a : Option Addr} {l c : Nat} {ws : List Int} {G : List Nat} (hw : Rd w a l 1 (u64s ws) G) (hGF : ∀ x ∈ G, x ∉ F) {K : Value → World → Prop}
    (hK : ∀ w' F', KR12 w' p (putS12 s e sl b ws) F' → Mod F w w' → Own w F F' → K (.int .i64 (putV12 s e sl b ws)) w') :
    CallsR Tryz.prog F_janusref12_Kernel_Put #[.pointer (some ⟨p, 0, none⟩), .int .i64 e, .int .i64 sl, .int .i64 b, .slice a l c] w K := by
  have hw8 := h.w8
  obtain ⟨hT, A, h1, rfl⟩ := h
  have hlen := hw.u64
  apply R_janusref12_Kernel_Put_ok
  simp only [R_janusref12_Kernel_Put, nilK_some, addr_add, Nat.zero_add, spl_bne]
  refine rmay12_run h1 hS e sl b 2 hb fun w1 m1 => ⟨_, rfl, spl_of (fun hm => ⟨fun hne => ?_, fun heq => ?_⟩) (fun hm => ?_)⟩
  · have hn : ¬ (may12 s e sl b 2 = true ∧ ws.length = 32) := fun z => by have := z.2; omega
    have hn2 : ¬ ws.length = 32 := by omega
    unfold putS12 putV12 at hK
    rw [if_neg hn, if_pos hm, if_neg hn2] at hK
    exact hK w1 _ ⟨hT, A, h1.mod0 m1, rfl⟩ m1.of0 (Own.refl _ _)
  · have hn2 : ws.length = 32 := by omega
    have hn : may12 s e sl b 2 = true ∧ ws.length = 32 := ⟨hm, hn2⟩
    have hin := may12_in hT hw8 hm
    have hT' := hT.put hw8 e sl b ws
    unfold putS12 putV12 at hK
    unfold putS12 at hT'
    rw [if_pos hn, if_pos hm, if_pos hn2] at hK
    rw [if_pos hn] at hT'
    have hcnt : ∀ {l : List Int}, Rising l → (∀ x ∈ l, x ∈ s.I) → l.length ≤ 1024 := fun {l} hr hl => by
      have hle := hT.le
      have := hr.is_filter (n := 1024) fun x hx => by have := hT.inI x (hl x hx); unfold inD at this; omega
      have h2 := List.length_filter_le (fun x => decide (x ∈ l)) (ups 1024)
      rw [this] at h2
      simpa [ups] using h2
    have hIl := hcnt hT.rI fun x hx => hx
    have hNl := hcnt hT.rN hT.sub
    have h3 := h1.mod0 m1
    have hw3 := hw.mod0 m1
    refine ⟨_, _, _, r12c2 h3, put_rd (r12I h3).rd (r12I h3).le (by omega) b fun a4 l4 c4 w4 G4 hs4 hG4 m4 => ⟨_, _, _, rfl, ?_⟩⟩
    refine r12_setI h3 m4 hs4 hG4 fun w5 h5 m5 m5' o5 => ?_
    have hw5 : Rd w5 a l 1 (u64s ws) G := hw3.mod m5 hGF
    refine ⟨_, _, _, r12c3 h5, put_rd (r12N h5).rd (r12N h5).le (show s.N.length ≤ 1000000 by omega) b fun a6 l6 c6 w6 G6 hs6 hG6 m6 => ⟨_, _, _, rfl, ?_⟩⟩
    refine r12_setN h5 m6 hs6 hG6 fun w7 h7 m7 m7' o7 => ?_
    have hw7 : Rd w7 a l 1 (u64s ws) G := hw5.mod m7 fun x hx hx' => by
      rcases o5 x hx' with hh | hh
      · exact hGF x hx hh
      · have := hw3.lt x hx; omega
    rw [drK_eq]
    have m8 : Mod [] w7 w7.drew := (Mod.refl [] w7).drew
    generalize w7.drew = w8 at m8 ⊢
    have h8 := h7.mod0 m8
    have hp8 := r12blk h8
    refine ⟨[p], by simp, _, _, _, r12c4 h8, fresh_K (hw7.mod0 m8) (by omega) slT_u64 (by decide) fun a9 c9 w9 G9 hs9 hG9 m9 => ⟨_, _, _, rfl, keepB1 (m9.keep _ (lt_of_get hp8) (by simp)), ?_⟩⟩
    have h9 := h8.mod0 m9
    obtain ⟨k, rfl⟩ := nat_of hin.1
    have hk : k < s.W.length := by have := hT.len; have := hin.2; omega
    obtain ⟨ad, a10, c10, G10, ha, -, -, -⟩ := (r12W h9).row (List.getElem?_eq_getElem hk)
    simp only
    rw [show A.aW = some ad from ha, nilK_some, Int.toNat_natCast]
    refine ⟨⟨by omega, by omega⟩, ?_⟩
    have hlt8 := h8.lt
    refine r12_setW h9 hk hs9 (fun x hx hx' => by have := hlt8 x hx'; have := hG9 x hx; omega) ha fun w11 h11 m11 o11 hs11 => ?_
    have hsz1 := m1.size
    have hsz5 := m5.size
    have hsz7 := m7.size
    have hsz8 := m8.size
    have ow : ∀ x ∈ PF (rparts12 p { { A with aI := a4, cI := c4, GI := G4 } with aN := a6, cN := c6, GN := G6 } { s with I := putL s.I k, N := putL s.N k }), x ∈ PF (rparts12 p A s) ∨ w.heap.size ≤ x := fun x hx => by
      rcases o7 x hx with hh | hh
      · exact (o5 x hh).imp id fun hh => by omega
      · right; omega
    have ow5 : ∀ x ∈ PF (rparts12 p { A with aI := a4, cI := c4, GI := G4 } { s with I := putL s.I k }), x ∈ PF (rparts12 p A s) ∨ w.heap.size ≤ x := fun x hx => (o5 x hx).imp id fun hh => by omega
    rw [Int.toNat_natCast] at hK hT'
    have m17 : Mod (PF (rparts12 p A s)) w w7 := (m1.of0.trans' m5).trans m7 fun x hx hlt => (ow5 x hx).resolve_right (by omega)
    refine hK w11 _ ⟨hT', _, h11, rfl⟩ ((m17.trans' (m8.trans' m9).of0).trans m11 fun x hx hlt => (ow x hx).resolve_right (by omega)) fun x hx => ?_
    rcases o11 x hx with hh | hh
    · exact ow x hh
    · right; have := hG9 x hh; omega
  · have hn : ¬ (may12 s e sl b 2 = true ∧ ws.length = 32) := fun z => by rw [hm] at z; exact absurd z.1 (by simp)
    have hn2 : ¬ may12 s e sl b 2 = true := by rw [hm]; simp
    unfold putS12 putV12 at hK
    rw [if_neg hn, if_neg hn2] at hK
    exact hK w1 _ ⟨hT, A, h1.mod0 m1, rfl⟩ m1.of0 (Own.refl _ _)
end

end Go.Proofs

set_option linter.unusedSimpArgs false
namespace Go.Den
open Go
end Go.Den
namespace Go.Proofs
open Go Go.Den

section
variable {w : World} {p : Nat} {s : S12} {F : List Nat}

/-- What acts on the capabilities alone. -/
theorem kr12_caps (h : KR12 w p s F) : ∃ pc Fc, w.cell? ⟨p, 1, none⟩ = some (.pointer (some ⟨pc, 0, none⟩)) ∧ CR w pc s.c Fc ∧ ∀ {w' : World} {c' : S8} {Fc' : List Nat}, T12 { s with c := c' } → CR w' pc c' Fc' → Mod Fc w w' → Own w Fc Fc' → ∃ F', KR12 w' p { s with c := c' } F' ∧ Mod F w w' ∧ Own w F F' := by
  obtain ⟨hT, A, h1, rfl⟩ := h
  refine ⟨A.pc, A.Fc, r12c1 h1, r12c h1, fun {w' c' Fc'} hT' hp hm ho => ?_⟩
  obtain ⟨h2, m2, o2⟩ := r12_cap h1 hp hm ho
  exact ⟨_, ⟨hT', _, h2, rfl⟩, m2, o2⟩

theorem kr12_alloc (h : KR12 w p s F) (hS : Small12 s.c) (e f n : Int) {K : Value → World → Prop} (hK : ∀ w' F', KR12 w' p (allocS12 s e f n) F' → Mod F w w' → Own w F F' → K (.tuple #[.int .i64 (allocV12 s e f n).1, .int .i64 (allocV12 s e f n).2]) w') :
    CallsR Tryz.prog F_janusref12_Kernel_Alloc #[.pointer (some ⟨p, 0, none⟩), .int .i64 e, .int .i64 f, .int .i64 n] w K := by
  obtain ⟨hT, A, h1, rfl⟩ := h
  obtain ⟨hS1, hS2⟩ := hS
  apply R_janusref12_Kernel_Alloc_ok
  simp only [R_janusref12_Kernel_Alloc, nilK_some, addr_add, Nat.zero_add, spl_decide]
  have hle := hT.le
  have hWl := hT.len
  have bad : ¬ range12 s e f n → K (.tuple #[.int .i64 0, .int .i64 101]) w := fun hn => by
    unfold allocS12 allocV12 at hK
    rw [if_neg hn, if_neg fun z => hn z.1] at hK
    exact hK w _ ⟨hT, A, h1, rfl⟩ (Mod.refl _ _) (Own.refl _ _)
  unfold range12 at bad
  refine env8_run e ⟨_, rfl, ?_⟩
  rw [spl_decide]
  refine ⟨fun he => ⟨fun _ => bad (by omega), fun _ => ⟨fun _ => bad (by omega), fun _ => ⟨_, _, _, r12c4 h1, fun _ => bad (by omega), fun _ => ⟨_, _, _, r12c4 h1, fun hn => ?_, fun hn => ?_⟩⟩⟩⟩, fun he => bad fun z => he z.1⟩
  · rw [w64 (by omega) (by omega)] at hn
    exact bad (by omega)
  rw [w64 (by omega) (by omega)] at hn
  have hr : range12 s e f n := ⟨he, by omega, by omega, by omega, by omega⟩
  obtain ⟨N, rfl⟩ := nat_of (by omega : 0 ≤ n)
  obtain ⟨f', rfl⟩ := nat_of (by omega : 0 ≤ f)
  rw [w64 (by omega) (by omega)]
  have hN : ((N : Nat) : Int).toNat = N := Int.toNat_natCast N
  refine ⟨fun m b w' => ∃ j : Nat, b = (f' : Int) + j ∧ j ≤ N ∧ m = N - j ∧ (∀ i < j, holders8 s.c.L 2 ((f' : Int) + (i : Nat)) = []) ∧ Mod [] w w', ⟨N, 0, by omega, by omega, rfl, fun i hi => by omega, Mod.refl _ _⟩, ?_⟩
  rintro m b - w1 ⟨j, rfl, hj, rfl, hno, m1⟩
  have h2 := h1.mod0 m1
  refine ⟨fun hlt => ⟨_, r12c1 h2, holders8_run (r12c h2) (by omega) 2 _ (wf64_of (by omega) (by omega)) fun a c w2 G hs hG m2 _ => ⟨_, _, _, rfl, fun hgt => ?_, fun hle2 => ?_⟩⟩, fun hge => ⟨_, r12c1 h2, add8_run (r12c h2) (by omega) (by omega) e ⟨2, f', N, 7⟩ fun w3 F3 g3 m3 o3 => ⟨_, _, rfl, ?_⟩⟩⟩
  · have hnf : ¬ allFree s f' (N : Int).toNat = true := fun hh => by
      rw [allFree_iff, hN] at hh
      rw [hh j (by omega)] at hgt
      simp at hgt
    unfold allocS12 allocV12 at hK
    rw [if_pos hr, if_neg hnf, if_neg fun z => hnf z.2] at hK
    exact hK w2 _ ⟨hT, A, h2.mod0 m2, rfl⟩ (m1.trans' m2).of0 (Own.refl _ _)
  · refine ⟨N - (j + 1), by omega, j + 1, by rw [w64 (by omega) (by omega)]; omega, by omega, rfl, fun i hi => ?_, m1.trans' m2⟩
    rcases Nat.lt_or_ge i j with z | z
    · exact hno i z
    · obtain rfl : i = j := by omega
      exact List.eq_nil_of_length_eq_zero (by omega)
  · have hf : allFree s f' (N : Int).toNat = true := by
      rw [allFree_iff, hN]
      exact fun i hi => hno i (by omega)
    obtain ⟨h4, m4, o4⟩ := r12_cap h2 g3 m3 o3
    have hT' := hT.alloc e f' N
    unfold allocS12 allocV12 at hK
    unfold allocS12 at hT'
    rw [if_pos hr, if_pos hf, if_pos ⟨hr, hf⟩] at hK
    rw [if_pos ⟨hr, hf⟩] at hT'
    exact hK w3 _ ⟨hT', _, h4, rfl⟩ (m1.of0.trans' m4) (fun x hx => (o4 x hx).imp id fun hh => by have := m1.size; omega)

end

set_option maxRecDepth 100000 in
theorem kr12_new (n : Int) (w : World) {K : Value → World → Prop} (h0 : n < 1 ∨ 1024 < n → K (.pointer none) w)
    (h1 : ∀ (k p : Nat) (F : List Nat) (w' : World), n = k → 1 ≤ k → k ≤ 1024 → KR12 w' p (init12 k) F → Mod [] w w' → Beyond w.heap.size F → K (.pointer (some ⟨p, 0, none⟩)) w') :
    CallsR Tryz.prog F_janusref12_New #[.int .i64 n] w K := by
  apply R_janusref12_New_ok
  simp only [R_janusref12_New]
  refine ref_new n w (fun h => ⟨_, rfl, spl_t rfl (h0 h)⟩) (fun k pd Fd w1 hn hk1 hk2 gd m1 bd => ⟨_, rfl, spl_f rfl ?_⟩)
  subst hn
  have s1 := (Sep.nil (Mod.refl [] w)).push (diskrPart pd _ Fd) m1 gd bd
  refine s1.new fun pc w2 s2 m2 hpc => ?_
  refine RwP.make slT_Sl_u64 (by decide) (by omega) fun aW cW w3 FW hW hFW m3 => ⟨_, _, _, rfl, ?_⟩
  have s3 := s2.push (rwPart aW k cW (List.replicate k []) FW) m3 hW hFW
  refine s3.new fun p w4 s4 m4 hp => ?_
  have key : ∃ T1 T2, Sep w w4 [blk p (.cells #[.pointer (some ⟨pd, 0, none⟩), .pointer (some ⟨pc, 0, none⟩), .slice none 0 0, .slice none 0 0, .slice aW k cW] T1 (0, 0)), rwPart aW k cW (List.replicate k []) FW, blk pc (.cells #[.slice none 0 0, .int .i64 0] T2 (0, 0)), diskrPart pd (List.replicate k (List.replicate 32 0)) Fd] := ⟨_, _, s4⟩
  obtain ⟨T1, T2, s5⟩ := key
  have hc : CR w4 pc ⟨[], 0⟩ [pc] := ⟨W8.nil, none, 0, 0, [], T2, s5.nth 2 rfl, SlB.nil w4 8, by simp, rfl⟩
  have s6 := s5.turn 2 rfl (crPart pc ⟨[], 0⟩ [pc]) hc (Mod.refl _ w4) rfl
  have s7 := s6.push (sl none 0 0 1 (i64s []) []) (Mod.refl [] w4) (SlB.nil w4 1) (by intro x hx; cases hx)
  let A : RA12 := ⟨pd, pc, T1, Fd, [pc], none, 0, [], none, 0, [], aW, cW, FW⟩
  have eW : (init12 k).W.length = k := by simp [init12]
  have hP : Prts w4 (rparts12 p A (init12 k)) := by
    have s8 := s7.push (sl none 0 0 1 (i64s []) []) (Mod.refl [] w4) (SlB.nil w4 1) (by intro x hx; cases hx)
    refine s8.prts.re (fun i => if i = 0 then 2 else if i = 1 then 5 else if i = 2 then 4 else if i = 3 then 0 else if i = 4 then 1 else 3) (fun i q hi => ?_) (by simp only [rparts12, List.length_cons, List.length_nil]; decide)
    unfold rparts12 robj12 at hi
    rw [eW] at hi
    rcases i with _ | _ | _ | _ | _ | _ | i
    · exact hi
    · exact hi
    · exact hi
    · exact hi
    · exact hi
    · exact hi
    · simp at hi
  refine h1 k p _ w4 rfl hk1 hk2 ⟨T12.init hk2, A, hP, rfl⟩ s4.mod fun x hx => ?_
  obtain ⟨i, q, hq, hx⟩ := mem_PF.1 hx
  unfold rparts12 robj12 at hq
  rw [eW] at hq
  rcases i with _ | _ | _ | _ | _ | _ | i
  · exact s6.bey 0 hq x hx
  · exact s6.bey 3 hq x hx
  · exact s6.bey 2 hq x hx
  · obtain rfl := Option.some.inj hq; cases hx
  · obtain rfl := Option.some.inj hq; cases hx
  · exact s6.bey 1 hq x hx
  · simp at hq

end Go.Proofs
