/-
  exodisk: the program's kernel in the heap; contracts of what only reads it.
  exodisk: contracts of the program's kernel: what acts.
  exodisk: contracts of the program's kernel: sync, views, a new one.
-/
import Derived.Test.YthpcakhhemdibaaGreatK12A
import Derived.Test.YthpcakhhemdibaaGreatPCapsA
set_option linter.unusedVariables false
set_option linter.unusedSimpArgs false
namespace Go.Den
open Go

/-- A method of what an interface holds. -/
theorem invK_of {P : Program} {U g : Nat} {v : Value} {name : String} {args : List Value} {w : World} {K : Value → World → Prop} (hm : methodOf P U name = some g) (hc : callable P g = true) (h : CallsR P g (v :: args).toArray w K) : invK P (.iface U v) name args w K := by
  unfold invK
  simp only [hm, hc, if_true]
  exact h
end Go.Den
namespace Go.Proofs
open Go Go.Den

theorem and_bit : ∀ (x : Fin 8), (ibits .and .i64 (x.val : Int) 1 != 0) = hasR x.val 1 ∧ (ibits .and .i64 (x.val : Int) 2 != 0) = hasR x.val 2 := by decide +kernel
theorem and_bit' {x r : Int} (hx : 0 ≤ x ∧ x ≤ 7) (hr : r = 1 ∨ r = 2) : (ibits .and .i64 x r != 0) = hasR x r := by
  have := and_bit ⟨x.toNat, by omega⟩
  simp only at this
  rw [show ((x.toNat : Nat) : Int) = x by omega] at this
  rcases hr with rfl | rfl
  · exact this.1
  · exact this.2
theorem getV8_le {c : S8} (hw : W8 c) (e sl : Int) : 0 ≤ (getV8 c.L e sl).1.i ∧ (getV8 c.L e sl).1.i ≤ 1048576 ∧ 0 ≤ (getV8 c.L e sl).1.n ∧ (getV8 c.L e sl).1.n ≤ 1048576 ∧ 0 ≤ (getV8 c.L e sl).1.r ∧ (getV8 c.L e sl).1.r ≤ 7 := by
  unfold getV8
  cases hl : look8 c.L e sl with
  | none => simp
  | some d =>
    obtain ⟨-, b2, b3, b4, b5, b6, b7⟩ := (hw.in_ d (look8_some hl).1).2.2.2.1
    show 0 ≤ d.x.i ∧ d.x.i ≤ 1048576 ∧ 0 ≤ d.x.n ∧ d.x.n ≤ 1048576 ∧ 0 ≤ d.x.r ∧ d.x.r ≤ 7
    omega

theorem clone12 {w : World} {a : Option Addr} {l c : Nat} {xs : List Int} {F : List Nat} (hs : Rd w a l 1 (u64s xs) F) (hb : l ≤ 1000000) {K : Value → World → Prop}
    (h : ∀ A C w' G, SlB w' A l C 1 (u64s xs) G → Beyond w.heap.size G → Mod [] w w' → K (.slice A l C) w') : CallsR Tryz.prog F_slices_Clone_uint64_uint64 #[.slice a l c] w K := by
  apply R_slices_Clone_uint64_uint64_ok
  unfold R_slices_Clone_uint64_uint64
  refine clone_body slT_u64 (by decide) hs (u64s_cell _) (by omega) (by omega) h (fun ha hl => ?_)
  subst ha; subst hl
  have := hs.empty
  have e : xs = [] := by simpa [u64s] using this
  subst e
  exact h none 0 w [] (SlB.nil w 1) (by simp [Beyond]) (Mod.refl _ _)

/-- A block of the cache. -/
structure E12 where
  q : Nat
  a : Option Addr
  c : Nat
  T : TypeId
  G : List Nat
def entP (e : E12) (ws : List Int) (ch : Bool) : Part := prtsPart [blk e.q (.cells #[.slice e.a 32 e.c, .bool ch] e.T (0, 0)), sl e.a 32 e.c 1 (u64s ws) e.G]
def entO (o : Option E12) (ws : List Int) (ch : Bool) : Part := match o with
  | none => prtsPart []
  | some e => entP e ws ch
def mapPart (m : Nat) (l : KV) : Part := ⟨[m], fun w => MapP w m l, fun h k => h.keep (k m (by simp)), fun h b hb => by simp only [List.mem_singleton] at hb; subst hb; exact h.lt⟩
def ptrE (o : Option E12) : Option Value := o.map fun e => .pointer (some ⟨e.q, 0, none⟩)

/-- Where the parts of a kernel lie. -/
structure KA12 where
  pd : Nat
  pc : Nat
  m : Nat
  U : TypeId
  T : TypeId
  Fd : List Nat
  Fc : List Nat
  l : KV
  e : Nat → Option E12

def kobj12 (A : KA12) (n : Nat) : Obj := .cells #[.iface A.U (.pointer (some ⟨A.pd, 0, none⟩)), .int .i64 (n : Int), .pointer (some ⟨A.pc, 0, none⟩), .map (some A.m)] A.T (0, 0)
def kent12 (A : KA12) (s : S12) (k : Nat) : Part := entO (A.e k) (row12 s.W (k : Nat)) (decide (((k : Nat) : Int) ∈ s.N))
def kparts12 (p : Nat) (A : KA12) (s : S12) : List Part := [blk p (kobj12 A s.d.length), diskPart A.pd s.d A.Fd, cpPart A.pc s.c A.Fc, mapPart A.m A.l, fam s.d.length (kent12 A s)]
structure KX12 (A : KA12) (s : S12) : Prop where
  get : methodOf Tryz.prog A.U "Get" = some F_blocks_Disk_Get
  look : ∀ k : Nat, mlook A.l (k : Int) = ptrE (A.e k)
  keys : ∀ x, x ∈ mkeys A.l ↔ x ∈ s.I

/-- The program's kernel at block 'p'. -/
def KP12 (w : World) (p : Nat) (s : S12) (F : List Nat) : Prop := T12 s ∧ ∃ A, KX12 A s ∧ Prts w (kparts12 p A s) ∧ F = PF (kparts12 p A s)
theorem KP12.lt {w : World} {p : Nat} {s : S12} {F : List Nat} (h : KP12 w p s F) : ∀ b ∈ F, b < w.heap.size := by
  obtain ⟨-, A, -, h1, rfl⟩ := h; exact h1.lt
theorem KP12.keep {w w' : World} {p : Nat} {s : S12} {F : List Nat} (h : KP12 w p s F) (hk : ∀ b ∈ F, w'.heap[b]? = w.heap[b]?) : KP12 w' p s F := by
  obtain ⟨h0, A, hX, h1, rfl⟩ := h; exact ⟨h0, A, hX, h1.keep hk, rfl⟩
theorem KP12.t {w : World} {p : Nat} {s : S12} {F : List Nat} (h : KP12 w p s F) : T12 s := h.1
theorem KP12.w8 {w : World} {p : Nat} {s : S12} {F : List Nat} (h : KP12 w p s F) : W8 s.c := by
  obtain ⟨-, A, -, h1, rfl⟩ := h
  exact (h1.nth (i := 2) rfl : CP w A.pc s.c A.Fc).1
def kpPart12 (p : Nat) (s : S12) (F : List Nat) : Part := ⟨F, fun w => KP12 w p s F, fun h k => h.keep k, fun h => h.lt⟩

section
variable {w w' : World} {p : Nat} {A : KA12} {s : S12}
theorem k12d (h : Prts w (kparts12 p A s)) : DiskP w A.pd s.d A.Fd := h.nth (i := 1) rfl
theorem k12c (h : Prts w (kparts12 p A s)) : CP w A.pc s.c A.Fc := h.nth (i := 2) rfl
theorem k12m (h : Prts w (kparts12 p A s)) : MapP w A.m A.l := h.nth (i := 3) rfl
theorem k12blk (h : Prts w (kparts12 p A s)) : w.heap[p]? = some (kobj12 A s.d.length) := h.nth (i := 0) rfl
theorem k12ent (h : Prts w (kparts12 p A s)) {k : Nat} (hk : k < s.d.length) {e : E12} (he : A.e k = some e) : w.heap[e.q]? = some (.cells #[.slice e.a 32 e.c, .bool (decide ((k : Int) ∈ s.N))] e.T (0, 0)) ∧ SlB w e.a 32 e.c 1 (u64s (row12 s.W (k : Nat))) e.G := by
  have h1 : (kent12 A s k).P w := fam_nth (h.nth (i := 4) rfl) hk
  unfold kent12 at h1
  rw [he] at h1
  exact ⟨Prts.nth (i := 0) h1 rfl, Prts.nth (i := 1) h1 rfl⟩
theorem k12c0 (h : Prts w (kparts12 p A s)) : w.cell? ⟨p, 0, none⟩ = some (.iface A.U (.pointer (some ⟨A.pd, 0, none⟩))) := by rw [cell_get (k12blk h)]; rfl
theorem k12c1 (h : Prts w (kparts12 p A s)) : w.cell? ⟨p, 1, none⟩ = some (.int .i64 (s.d.length : Int)) := by rw [cell_get (k12blk h)]; rfl
theorem k12c2 (h : Prts w (kparts12 p A s)) : w.cell? ⟨p, 2, none⟩ = some (.pointer (some ⟨A.pc, 0, none⟩)) := by rw [cell_get (k12blk h)]; rfl
theorem k12c3 (h : Prts w (kparts12 p A s)) : w.cell? ⟨p, 3, none⟩ = some (.map (some A.m)) := by rw [cell_get (k12blk h)]; rfl
theorem k12_disk (h : Prts w (kparts12 p A s)) {d' : List (List Int)} (hl : d'.length = s.d.length) (hp : DiskP w' A.pd d' A.Fd) (hm : Mod A.Fd w w') : Prts w' (kparts12 p A { s with d := d' }) ∧ Mod (PF (kparts12 p A s)) w w' ∧ PF (kparts12 p A { s with d := d' }) = PF (kparts12 p A s) := by
  have := h.step 1 rfl (diskPart A.pd d' A.Fd) hp hm (Own.refl _ _)
  have e : (kparts12 p A s).set 1 (diskPart A.pd d' A.Fd) = kparts12 p A { s with d := d' } := by
    unfold kparts12
    simp only [List.set_cons_succ, List.set_cons_zero, hl]
    rfl
  rw [e] at this
  refine ⟨this.1, this.2.1, ?_⟩
  rw [← e]
  rfl
theorem k12_cap (h : Prts w (kparts12 p A s)) {c' : S8} {Fc' : List Nat} (hp : CP w' A.pc c' Fc') (hm : Mod A.Fc w w') (ho : Own w A.Fc Fc') : Prts w' (kparts12 p { A with Fc := Fc' } { s with c := c' }) ∧ Mod (PF (kparts12 p A s)) w w' ∧ Own w (PF (kparts12 p A s)) (PF (kparts12 p { A with Fc := Fc' } { s with c := c' })) :=
  h.step 2 rfl (cpPart A.pc c' Fc') hp hm ho
theorem KX12.cap {c' : S8} {Fc' : List Nat} (h : KX12 A s) : KX12 { A with Fc := Fc' } { s with c := c' } := ⟨h.get, h.look, h.keys⟩

/-- What the map answers. -/
theorem k12_in (hX : KX12 A s) (hT : T12 s) {b : Int} (hb : b ∈ s.I) : ∃ (k : Nat) (e : E12), b = k ∧ k < s.d.length ∧ A.e k = some e ∧ mlook A.l b = some (.pointer (some ⟨e.q, 0, none⟩)) := by
  obtain ⟨h1, h2⟩ := hT.inI b hb
  obtain ⟨k, rfl⟩ := nat_of h1
  have hk := hX.look k
  have hne : mlook A.l (k : Int) ≠ none := fun hn => mlook_none.1 hn ((hX.keys _).2 hb)
  cases he : A.e k with
  | none => rw [he] at hk; exact absurd hk hne
  | some e => exact ⟨k, e, rfl, by omega, he, by rw [hk, he]; rfl⟩
theorem k12_out (hX : KX12 A s) {b : Int} (hb : b ∉ s.I) : mlook A.l b = none := mlook_none.2 fun h => hb ((hX.keys b).1 h)

theorem kmay12_run (h : Prts w (kparts12 p A s)) (e sl b r : Int) (hr : r = 1 ∨ r = 2) {K : Value → World → Prop} (hK : ∀ w', Mod [] w w' → K (.bool (may12 s e sl b r)) w') : CallsR Tryz.prog F_exodisk_Kernel_may #[.pointer (some ⟨p, 0, none⟩), .int .i64 e, .int .i64 sl, .int .i64 b, .int .i64 r] w K := by
  apply R_exodisk_Kernel_may_ok
  simp only [R_exodisk_Kernel_may, nilK_some, addr_add, Nat.zero_add]
  refine ⟨_, k12c2 h, pget_run (k12c h) e sl fun w1 m1 => ⟨_, _, _, _, _, rfl, ?_⟩⟩
  refine (Sep.nil m1).new fun bx w2 s2 m2 hb => s2.st0 0 rfl rfl fun w3 s3 m3 => ?_
  have hK := hK w3 s3.mod
  obtain ⟨b1, b2, b3, b4, b5, b6⟩ := getV8_le (k12c h).1 e sl
  unfold may12 at hK
  generalize getV8 s.c.L e sl = x at *
  refine spl_of (fun ht => ⟨_, s3.cell 0 rfl rfl, ?_⟩) (fun hf => by rw [hf, Bool.false_and] at hK; exact hK)
  rw [ht, Bool.true_and] at hK
  rw [and_bit' ⟨b5, b6⟩ hr]
  refine spl_of (fun h1 => ⟨_, s3.cell 0 rfl rfl, ?_⟩) (fun hf => by rw [hf, Bool.false_and] at hK; exact hK)
  rw [h1, Bool.true_and] at hK
  refine spl_of (fun h2 => ⟨_, s3.cell 0 rfl rfl, _, s3.cell 0 rfl rfl, ?_⟩) (fun hf => ?_)
  · rw [decide_eq_true (show x.1.i ≤ b by simpa using h2), Bool.true_and] at hK
    rw [w64 (by omega) (by omega)]
    exact hK
  · rw [decide_eq_false (show ¬ x.1.i ≤ b by simpa using hf), Bool.false_and] at hK
    exact hK

set_option maxRecDepth 100000 in
theorem klook12_run (hX : KX12 A s) (hT : T12 s) (h : Prts w (kparts12 p A s)) (b : Int) {K : Value → World → Prop}
    (hK : ∀ w' a c G, Prts w' (kparts12 p A s) → Mod (PF (kparts12 p A s)) w w' → SlB w' a (look12 s b).length c 1 (u64s (look12 s b)) G → Beyond w.heap.size G → K (.slice a (look12 s b).length c) w') :
    CallsR Tryz.prog F_exodisk_Kernel_Look #[.pointer (some ⟨p, 0, none⟩), .int .i64 b] w K := by
  apply R_exodisk_Kernel_Look_ok
  simp only [R_exodisk_Kernel_Look, Option.isNone_some, spl_false, nilK_some, addr_add, Nat.zero_add]
  refine ⟨_, k12c3 h, lookup1_K mapT_P_exodisk_entry (k12m h) ?_⟩
  by_cases hb : b ∈ s.I
  · obtain ⟨k, e, rfl, hk, he, hl⟩ := k12_in hX hT hb
    rw [hl]
    obtain ⟨g1, g2⟩ := k12ent h hk he
    have e1 : look12 s (k : Int) = row12 s.W (k : Nat) := by unfold look12; rw [if_pos hb]
    have e2 : (look12 s (k : Int)).length = 32 := look12_32 hT (hT.inI _ hb)
    refine ⟨_, rfl, spl_t rfl ?_⟩
    rw [nilK_some]
    refine ⟨_, _, _, by rw [cell_get g1]; rfl, clone12 g2.rd (by omega) fun a c w1 G hs hG m1 => ⟨_, _, _, rfl, ?_⟩⟩
    have := hK w1 a c G (h.mod0 m1) m1.of0
    rw [e2] at this
    refine this ?_ hG
    rw [e1]
    exact hs
  · rw [k12_out hX hb]
    refine ⟨_, rfl, spl_f rfl ⟨_, k12c0 h, invK_of hX.get (by kernel_rfl) ?_⟩⟩
    have e0 : look12 s b = if inD s.d b then row12 s.d b else [] := by unfold look12; rw [if_neg hb]
    refine disk_get (k12d h) b (fun ho => ⟨_, _, _, _, rfl, ?_⟩) (fun k bk w1 a c G hbk hk hs hG h1 m1 => ⟨_, _, _, _, rfl, ?_⟩)
    · have e1 : look12 s b = [] := by rw [e0, if_neg (by unfold inD; omega)]
      have := hK w none 0 [] h (Mod.refl _ _)
      rw [e1] at this
      exact this (SlB.nil w 1) (by simp [Beyond])
    · subst hbk
      have hkl : k < s.d.length := (List.getElem?_eq_some_iff.1 hk).1
      have e1 : look12 s (k : Int) = bk := by rw [e0, if_pos ⟨by omega, by omega⟩]; unfold row12; rw [Int.toNat_natCast, hk]; rfl
      have e2 : bk.length = 32 := hT.all.get hk
      obtain ⟨h2, m2, -⟩ := k12_disk h rfl h1 m1
      have := hK w1 a c G h2 m2
      rw [e1, e2] at this
      exact this hs hG
end

end Go.Proofs

set_option linter.unusedSimpArgs false
namespace Go.Den
open Go

/-- One part more. -/
theorem Sep.add {w0 w : World} {l : List Part} (h : Sep w0 w l) (q : Part) (hq : q.P w) (hb : Beyond w0.heap.size q.F) (hd : ∀ (i : Nat) (p : Part), l[i]? = some p → ∀ x ∈ q.F, x ∉ p.F) : Sep w0 w (q :: l) := by
  refine ⟨h.1, fun i p hi => ?_, fun i j p r hij hi hj => ?_⟩
  · cases i with
    | zero => obtain rfl := Option.some.inj hi; exact ⟨hq, hb⟩
    | succ i => exact h.2.1 i p hi
  · cases i with
    | zero =>
      obtain rfl := Option.some.inj hi
      cases j with
      | zero => omega
      | succ j => exact hd j r hj
    | succ i =>
      cases j with
      | zero => obtain rfl := Option.some.inj hj; exact fun x hx hx' => hd i p hi x hx' hx
      | succ j => exact h.2.2 i j p r (by omega) hi hj
end Go.Den
namespace Go.Proofs
open Go Go.Den

section
variable {w : World} {p : Nat} {s : S12} {F : List Nat}

theorem k12_new_ent {A : KA12} (h : Prts w (kparts12 p A s)) (hX : KX12 A s) (hT : T12 s) {t kt et : TypeId} {z : Value} (hM : MapT Tryz.prog t kt et z) {b : Int} (hb : inD s.d b) {ws : List Int} {w1 : World} (m1 : Mod [] w w1) {e : E12} {ch : Bool}
    (hq : w1.heap[e.q]? = some (.cells #[.slice e.a 32 e.c, .bool ch] e.T (0, 0))) (hs : SlB w1 e.a 32 e.c 1 (u64s ws) e.G) (hqG : e.q ∉ e.G) (hqb : w.heap.size ≤ e.q) (hGb : Beyond w.heap.size e.G) {N' : List Int} (hN : ∀ x, x ≠ b → (x ∈ N' ↔ x ∈ s.N)) (hch : ch = decide (b ∈ N')) {K : Unit → World → Prop}
    (hK : ∀ w' A', KX12 A' { s with I := putL s.I b, N := N', W := s.W.set b.toNat ws } → Prts w' (kparts12 p A' { s with I := putL s.I b, N := N', W := s.W.set b.toNat ws }) → Mod (PF (kparts12 p A s)) w w' → Mod (PF (kparts12 p A s)) w1 w' → Own w (PF (kparts12 p A s)) (PF (kparts12 p A' { s with I := putL s.I b, N := N', W := s.W.set b.toNat ws })) → K () w') :
    runK ((Instr.mapUpdate t (.map (some A.m)) (.int .i64 b) (.pointer (some ⟨e.q, 0, none⟩))).run Tryz.prog w1) K := by
  obtain ⟨k, rfl⟩ := nat_of hb.1
  have hk : k < s.d.length := by have := hb.2; omega
  have hWk : ((k : Nat) : Int).toNat < s.W.length := by rw [Int.toNat_natCast, hT.len]; exact hk
  have hE : (entP e ws ch).P w1 := by
    refine ((Prts.nil w1).cons (p := sl e.a 32 e.c 1 (u64s ws) e.G) hs (by intro x _ hx; cases hx)).cons (p := blk e.q (.cells #[.slice e.a 32 e.c, .bool ch] e.T (0, 0))) hq fun x hx hx' => ?_
    simp only [blk, List.mem_singleton] at hx
    simp only [PF, List.map_cons, List.map_nil, List.flatten_cons, List.flatten_nil, List.append_nil, sl] at hx'
    subst hx
    exact hqG hx'
  have hEF : ∀ x ∈ (entP e ws ch).F, w.heap.size ≤ x := fun x hx => by
    simp only [entP, prtsPart, PF, List.map_cons, List.map_nil, List.flatten_cons, List.flatten_nil, List.append_nil, sl, blk, List.mem_append, List.mem_singleton] at hx
    rcases hx with rfl | hx
    · exact hqb
    · exact hGb x hx
  obtain ⟨f1, f2, f3⟩ := fam_step (f := kent12 A s) (h.nth (i := 4) rfl) hk (entP e ws ch) hE m1.of0 (fun x hx => .inr (hEF x hx))
  obtain ⟨g1, g2, g3⟩ := h.step 4 rfl (fam s.d.length (upF (kent12 A s) k (entP e ws ch))) f1 m1.of0 f3
  refine mapUpdate_K hM (g1.nth (i := 3) rfl : MapP w1 A.m A.l) fun w2 l2 m2 => ?_
  obtain ⟨i1, i2, i3⟩ := g1.step 3 rfl (mapPart A.m (mput A.l k (.pointer (some ⟨e.q, 0, none⟩)))) l2 m2 (Own.refl _ _)
  let A' : KA12 := { A with l := mput A.l k (.pointer (some ⟨e.q, 0, none⟩)), e := fun j => if k = j then some e else A.e j }
  have ef : upF (kent12 A s) k (entP e ws ch) = kent12 A' { s with I := putL s.I k, N := N', W := s.W.set ((k : Nat) : Int).toNat ws } := by
    funext j
    unfold upF kent12
    by_cases hj : k = j
    · subst hj
      rw [if_pos rfl]
      simp only [A', if_true]
      rw [row12_set (by omega) (by omega) hWk, if_pos rfl, ← hch]
      rfl
    · rw [if_neg hj]
      simp only [A', if_neg hj]
      rw [row12_set (by omega) (by omega) hWk, if_neg (by omega)]
      congr 1
      exact decide_eq_decide.2 (hN j (by omega)).symm
  have el : ((kparts12 p A s).set 4 (fam s.d.length (upF (kent12 A s) k (entP e ws ch)))).set 3 (mapPart A.m (mput A.l k (.pointer (some ⟨e.q, 0, none⟩)))) = kparts12 p A' { s with I := putL s.I k, N := N', W := s.W.set ((k : Nat) : Int).toNat ws } := by
    rw [ef]
    rfl
  rw [el] at i1 i3
  have mM : Mod (PF (kparts12 p A s)) w1 w2 := m2.mono fun x hx => mem_PF.2 ⟨3, _, rfl, hx⟩
  have hsz := m1.size
  refine hK w2 A' ⟨hX.get, fun j => ?_, fun x => ?_⟩ i1 (m1.of0.trans' mM) mM fun x hx => ?_
  · simp only [A']
    rw [mlook_mput]
    by_cases hj : k = j
    · subst hj; rw [if_pos rfl, if_pos rfl]; rfl
    · rw [if_neg (by omega), if_neg hj]; exact hX.look j
  · simp only [A']
    rw [mem_mput, mem_putL, hX.keys]
  · rcases i3 x hx with hh | hh
    · exact g3 x hh
    · right; omega

theorem kp12_grant (h : KP12 w p s F) (e sl to r : Int) {K : Value → World → Prop} (hK : ∀ w' F', KP12 w' p (grantS12 s e sl to r) F' → Mod F w w' → Own w F F' → K (.tuple #[.int .i64 (giveV8 s.c e sl to r).1, .int .i64 (giveV8 s.c e sl to r).2]) w') :
    CallsR Tryz.prog F_exodisk_Kernel_Grant #[.pointer (some ⟨p, 0, none⟩), .int .i64 e, .int .i64 sl, .int .i64 to, .int .i64 r] w K := by
  obtain ⟨hT, A, hX, h1, rfl⟩ := h
  apply R_exodisk_Kernel_Grant_ok
  simp only [R_exodisk_Kernel_Grant, Option.isNone_some, spl_false, nilK_some, addr_add, Nat.zero_add]
  refine ⟨_, k12c2 h1, pgive_run (k12c h1) e sl to r fun w1 F1 g1 m1 o1 => ⟨_, _, rfl, ?_⟩⟩
  obtain ⟨h2, m2, o2⟩ := k12_cap h1 g1 m1 o1
  exact hK w1 _ ⟨hT.grant .., _, hX.cap, h2, rfl⟩ m2 o2
theorem kp12_revoke (h : KP12 w p s F) (e sl : Int) {K : Value → World → Prop} (hK : ∀ w' F', KP12 w' p (revS12 s e sl) F' → Mod F w w' → Own w F F' → K (.int .i64 (revokeV8 s.c e sl).2) w') :
    CallsR Tryz.prog F_exodisk_Kernel_Revoke #[.pointer (some ⟨p, 0, none⟩), .int .i64 e, .int .i64 sl] w K := by
  obtain ⟨hT, A, hX, h1, rfl⟩ := h
  apply R_exodisk_Kernel_Revoke_ok
  simp only [R_exodisk_Kernel_Revoke, Option.isNone_some, spl_false, nilK_some, addr_add, Nat.zero_add]
  refine ⟨_, k12c2 h1, prevoke_run (k12c h1) e sl fun w1 F1 g1 m1 o1 => ⟨_, _, rfl, ?_⟩⟩
  obtain ⟨h2, m2, o2⟩ := k12_cap h1 g1 m1 o1
  exact hK w1 _ ⟨hT.rev .., _, hX.cap, h2, rfl⟩ m2 o2
theorem allFree_iff (s : S12) (f : Int) (n : Nat) : allFree s f n = true ↔ ∀ j < n, holders8 s.c.L 2 (f + (j : Nat)) = [] := by
  unfold allFree
  rw [List.all_eq_true]
  simp only [List.mem_range, List.isEmpty_iff]

theorem kp12_alloc (h : KP12 w p s F) (e f n : Int) {K : Value → World → Prop} (hK : ∀ w' F', KP12 w' p (allocS12 s e f n) F' → Mod F w w' → Own w F F' → K (.tuple #[.int .i64 (allocV12 s e f n).1, .int .i64 (allocV12 s e f n).2]) w') :
    CallsR Tryz.prog F_exodisk_Kernel_Alloc #[.pointer (some ⟨p, 0, none⟩), .int .i64 e, .int .i64 f, .int .i64 n] w K := by
  obtain ⟨hT, A, hX, h1, rfl⟩ := h
  apply R_exodisk_Kernel_Alloc_ok
  simp only [R_exodisk_Kernel_Alloc, Option.isNone_some, spl_false, nilK_some, addr_add, Nat.zero_add, spl_decide]
  have hle := hT.le
  have bad : ¬ range12 s e f n → K (.tuple #[.int .i64 0, .int .i64 101]) w := fun hn => by
    unfold allocS12 allocV12 at hK
    rw [if_neg hn, if_neg fun z => hn z.1] at hK
    exact hK w _ ⟨hT, A, hX, h1, rfl⟩ (Mod.refl _ _) (Own.refl _ _)
  unfold range12 env12 at bad
  refine ⟨fun _ => bad (by omega), fun _ => ⟨fun _ => bad (by omega), fun _ => ⟨fun _ => bad (by omega), fun _ => ⟨fun _ => bad (by omega), fun _ => ⟨_, k12c1 h1, fun _ => bad (by omega), fun _ => ⟨_, k12c1 h1, fun hn => ?_, fun hn => ?_⟩⟩⟩⟩⟩⟩
  · rw [w64 (by omega) (by omega)] at hn
    exact bad (by omega)
  rw [w64 (by omega) (by omega)] at hn
  have hr : range12 s e f n := ⟨⟨by omega, by omega⟩, by omega, by omega, by omega, by omega⟩
  obtain ⟨N, rfl⟩ := nat_of (by omega : 0 ≤ n)
  obtain ⟨f', rfl⟩ := nat_of (by omega : 0 ≤ f)
  rw [w64 (by omega) (by omega)]
  have hN : ((N : Nat) : Int).toNat = N := Int.toNat_natCast N
  refine ⟨fun m b w' => ∃ j : Nat, b = (f' : Int) + j ∧ j ≤ N ∧ m = N - j ∧ (∀ i < j, holders8 s.c.L 2 ((f' : Int) + (i : Nat)) = []) ∧ Mod [] w w', ⟨N, 0, by omega, by omega, rfl, fun i hi => by omega, Mod.refl _ _⟩, ?_⟩
  rintro m b - w1 ⟨j, rfl, hj, rfl, hno, m1⟩
  have h2 := h1.mod0 m1
  refine ⟨fun hlt => ⟨_, k12c2 h2, pholders_run (k12c h2) 2 _ (wf64_of (by omega) (by omega)) fun w2 a c G hs hG m2 => ⟨_, _, _, rfl, fun hgt => ?_, fun hle2 => ?_⟩⟩, fun hge => ⟨_, k12c2 h2, padd_run (k12c h2) e ⟨2, f', N, 7⟩ fun w3 F3 g3 m3 o3 => ⟨_, _, rfl, ?_⟩⟩⟩
  · have hnf : ¬ allFree s f' (N : Int).toNat = true := fun hh => by
      rw [allFree_iff, hN] at hh
      rw [hh j (by omega)] at hgt
      simp at hgt
    unfold allocS12 allocV12 at hK
    rw [if_pos hr, if_neg hnf, if_neg fun z => hnf z.2] at hK
    exact hK w2 _ ⟨hT, A, hX, h2.mod0 m2, rfl⟩ (m1.trans' m2).of0 (Own.refl _ _)
  · refine ⟨N - (j + 1), by omega, j + 1, by rw [w64 (by omega) (by omega)]; omega, by omega, rfl, fun i hi => ?_, m1.trans' m2⟩
    rcases Nat.lt_or_ge i j with z | z
    · exact hno i z
    · obtain rfl : i = j := by omega
      exact List.eq_nil_of_length_eq_zero (by omega)
  · have hf : allFree s f' (N : Int).toNat = true := by
      rw [allFree_iff, hN]
      exact fun i hi => hno i (by omega)
    obtain ⟨h4, m4, o4⟩ := k12_cap h2 g3 m3 o3
    have hT' := hT.alloc e f' N
    unfold allocS12 allocV12 at hK
    unfold allocS12 at hT'
    rw [if_pos hr, if_pos hf, if_pos ⟨hr, hf⟩] at hK
    rw [if_pos ⟨hr, hf⟩] at hT'
    exact hK w3 _ ⟨hT', _, hX.cap, h4, rfl⟩ (m1.of0.trans' m4) (fun x hx => (o4 x hx).imp id fun hh => by have := m1.size; omega)

theorem kp12_put (h : KP12 w p s F) (e sl b : Int) {a : Option Addr} {l c : Nat} {ws : List Int} {G : List Nat} (hw : Rd w a l 1 (u64s ws) G) {K : Value → World → Prop} (hK : ∀ w' F', KP12 w' p (putS12 s e sl b ws) F' → Mod F w w' → Own w F F' → K (.int .i64 (putV12 s e sl b ws)) w') :
    CallsR Tryz.prog F_exodisk_Kernel_Put #[.pointer (some ⟨p, 0, none⟩), .int .i64 e, .int .i64 sl, .int .i64 b, .slice a l c] w K := by
  have hw8 := h.w8
  obtain ⟨hT, A, hX, h1, rfl⟩ := h
  have hlen := hw.u64
  apply R_exodisk_Kernel_Put_ok
  simp only [R_exodisk_Kernel_Put, Option.isNone_some, spl_false, nilK_some, addr_add, Nat.zero_add, spl_bne]
  refine kmay12_run h1 e sl b 2 (.inr rfl) fun w1 m1 => ⟨_, rfl, spl_of (fun hm => ⟨fun hne => ?_, fun heq => ?_⟩) (fun hm => ?_)⟩
  · have hn : ¬ (may12 s e sl b 2 = true ∧ ws.length = 32) := fun z => by have := z.2; omega
    have hn2 : ¬ ws.length = 32 := by omega
    unfold putS12 putV12 at hK
    rw [if_neg hn, if_pos hm, if_neg hn2] at hK
    exact hK w1 _ ⟨hT, A, hX, h1.mod0 m1, rfl⟩ m1.of0 (Own.refl _ _)
  · have hl32 : l = 32 := by omega
    subst hl32
    have hin := may12_in hT hw8 hm
    have m2 : Mod [] w w1.drew := m1.drew
    rw [drK_eq]
    generalize w1.drew = w2 at m2 ⊢
    have h2 := h1.mod0 m2
    have hp2 := k12blk h2
    have kp : ∀ {u : World}, Mod [] w2 u → keepB [p] w2 u := fun hm => keepB1 (hm.keep _ (lt_of_get hp2) (by simp))
    refine ⟨[p], by simp, _, k12c3 h2, clone12 (hw.mod0 m2) (by omega) fun a3 c3 w3 G3 hs3 hG3 m3 => ⟨_, _, _, rfl, kp m3, ?_⟩⟩
    refine (Sep.nil (Mod.refl [] w3)).new fun bq w4 s4 m4 hbq => ⟨kp (m3.trans' m4), ?_⟩
    have hq4 : w4.heap[bq]? = some _ := s4.nth 0 rfl
    have hlt := hs3.lt
    have hsz := m3.size
    have hT' := hT.put hw8 e sl b ws
    refine k12_new_ent h2 hX hT mapT_P_exodisk_entry hin (ws := ws) (m3.trans' m4) (e := ⟨bq, a3, c3, _, G3⟩) (ch := true) hq4 (hs3.keep (m4.at0 hs3.lt)) (fun hh => absurd (show bq < w3.heap.size from hlt _ hh) (by omega)) (Nat.le_trans hsz hbq) hG3 (N' := putL s.N b) (fun x hx => by rw [mem_putL]; exact ⟨fun h => h.resolve_left hx, .inr⟩) (by rw [decide_eq_true (mem_putL.2 (.inl rfl))]) fun w5 A5 hX5 h5 m5 m5' o5 => ?_
    unfold putS12 putV12 at hK
    unfold putS12 at hT'
    have hn2 : ws.length = 32 := by omega
    have hn : may12 s e sl b 2 = true ∧ ws.length = 32 := ⟨hm, hn2⟩
    rw [if_pos hn, if_pos hm, if_pos hn2] at hK
    rw [if_pos hn] at hT'
    exact hK w5 _ ⟨hT', A5, hX5, h5, rfl⟩ (m2.of0.trans' m5) (fun x hx => (o5 x hx).imp id fun hh => by have := m2.size; omega)
  · have hn : ¬ (may12 s e sl b 2 = true ∧ ws.length = 32) := fun z => by rw [hm] at z; exact absurd z.1 (by simp)
    have hn2 : ¬ may12 s e sl b 2 = true := by rw [hm]; simp
    unfold putS12 putV12 at hK
    rw [if_neg hn, if_neg hn2] at hK
    exact hK w1 _ ⟨hT, A, hX, h1.mod0 m1, rfl⟩ m1.of0 (Own.refl _ _)

theorem kp12_get (h : KP12 w p s F) (e sl b : Int) {K : Value → World → Prop}
    (hK : ∀ w' F' a c G, KP12 w' p (getS12 s e sl b) F' → Mod F w w' → Own w F F' → SlB w' a (getV12 s e sl b).1.length c 1 (u64s (getV12 s e sl b).1) G → Beyond w.heap.size G → (∀ x ∈ G, x ∉ F') → K (.tuple #[.slice a (getV12 s e sl b).1.length c, .int .i64 (getV12 s e sl b).2]) w') :
    CallsR Tryz.prog F_exodisk_Kernel_Get #[.pointer (some ⟨p, 0, none⟩), .int .i64 e, .int .i64 sl, .int .i64 b] w K := by
  have hw8 := h.w8
  obtain ⟨hT, A, hX, h1, rfl⟩ := h
  have hlt1 := h1.lt
  apply R_exodisk_Kernel_Get_ok
  simp only [R_exodisk_Kernel_Get, Option.isNone_some, spl_false, nilK_some, addr_add, Nat.zero_add]
  refine kmay12_run h1 e sl b 1 (.inl rfl) fun w1 m1 => ⟨_, rfl, spl_of (fun hm => ?_) (fun hm => ?_)⟩
  rotate_left
  · unfold getS12 getV12 at hK
    rw [if_neg (by rw [hm]; simp), if_neg (by rw [hm]; simp)] at hK
    exact hK w1 _ none 0 [] ⟨hT, A, hX, h1.mod0 m1, rfl⟩ m1.of0 (Own.refl _ _) (SlB.nil w1 1) (by simp [Beyond]) (by simp)
  have hin := may12_in hT hw8 hm
  have e32 := look12_32 hT hin
  have hT' := hT.get hw8 e sl b
  have eV : getV12 s e sl b = (look12 s b, 0) := by unfold getV12; rw [if_pos hm]
  refine klook12_run hX hT (h1.mod0 m1) b fun w2 a2 c2 G2 h2 m2 hs2 hG2 => ⟨_, _, _, rfl, _, k12c3 h2, lookup1_K mapT_P_exodisk_entry (k12m h2) ?_⟩
  have m12 := m1.of0.trans' m2
  have hGF : ∀ x ∈ G2, w.heap.size ≤ x := fun x hx => Nat.le_trans m1.size (hG2 x hx)
  rw [eV] at hK
  by_cases hb : b ∈ s.I
  · obtain ⟨k, en, rfl, hk, he, hl⟩ := k12_in hX hT hb
    rw [hl]
    refine ⟨_, rfl, spl_f rfl ?_⟩
    rw [getS12_in hT hb] at hK
    exact hK w2 _ a2 c2 G2 ⟨hT, A, hX, h2, rfl⟩ m12 (Own.refl _ _) hs2 hGF fun x hx hx' => by have := hlt1 x hx'; have := hGF x hx; omega
  · rw [k12_out hX hb]
    refine ⟨_, rfl, spl_t rfl ?_⟩
    have eS : getS12 s e sl b = { s with I := putL s.I b, N := s.N, W := s.W.set b.toNat (look12 s b) } := by unfold getS12; rw [if_pos hm]
    rw [e32] at hs2 hK ⊢
    have m3 : Mod [] w2 w2.drew := (Mod.refl [] w2).drew
    rw [drK_eq]
    generalize w2.drew = w3 at m3 ⊢
    have h3 := h2.mod0 m3
    have hs3 := hs2.keep (m3.at0 hs2.lt)
    have hp3 := k12blk h3
    have kp : ∀ {u : World}, Mod [] w3 u → keepB [p] w3 u := fun hm => keepB1 (hm.keep _ (lt_of_get hp3) (by simp))
    refine ⟨[p], by simp, _, k12c3 h3, clone12 hs3.rd (by omega) fun a4 c4 w4 G4 hs4 hG4 m4 => ⟨_, _, _, rfl, kp m4, ?_⟩⟩
    refine (Sep.nil (Mod.refl [] w4)).new fun bq w5 s5 m5 hbq => ⟨kp (m4.trans' m5), ?_⟩
    have hq5 : w5.heap[bq]? = some _ := s5.nth 0 rfl
    have hlt4 := hs4.lt
    have hlt3 := hs3.lt
    have hbN : b ∉ s.N := fun hh => hb (hT.sub b hh)
    rw [eS] at hK hT'
    refine k12_new_ent h3 hX hT mapT_P_exodisk_entry hin (ws := look12 s b) (m4.trans' m5) (e := ⟨bq, a4, c4, _, G4⟩) (ch := false) hq5 (hs4.keep (m5.at0 hs4.lt)) (fun hh => absurd (show bq < w4.heap.size from hlt4 _ hh) (by omega)) (Nat.le_trans m4.size hbq) hG4 (N' := s.N) (fun x hx => Iff.rfl) (by rw [decide_eq_false hbN]) fun w6 A6 hX6 h6 m6 m6' o6 => ?_
    have m16 : Mod (PF (kparts12 p A s)) w w6 := (m12.trans' m3.of0).trans' m6
    refine hK w6 _ a2 c2 G2 ⟨hT', A6, hX6, h6, rfl⟩ m16 (fun x hx => (o6 x hx).imp id fun hh => by have := (m12.trans' m3.of0).size; omega) ?_ hGF fun x hx hx' => ?_
    · refine hs3.keep fun x hx => m6.keep x (hlt3 x hx) fun hh => ?_
      have := hlt1 x hh; have := hGF x hx; omega
    · rcases o6 x hx' with hh | hh
      · have := hlt1 x hh; have := hGF x hx; omega
      · have := hlt3 x hx; omega

end

end Go.Proofs

set_option linter.unusedSimpArgs false
namespace Go.Den
open Go

theorem Prts.re {w : World} {l l' : List Part} (h : Prts w l) (f : Nat → Nat) (hf : ∀ (i : Nat) (q : Part), l'[i]? = some q → l[f i]? = some q) (hi : ∀ i < l'.length, ∀ j < l'.length, i ≠ j → f i ≠ f j) : Prts w l' :=
  ⟨fun {i _} hq => h.nth (hf i _ hq), fun {i j _ _} hij hp hq => h.dj (hi i (List.getElem?_eq_some_iff.1 hp).1 j (List.getElem?_eq_some_iff.1 hq).1 hij) (hf i _ hp) (hf j _ hq)⟩
theorem fam_empty {w : World} {n : Nat} {f : Nat → Part} (hf : ∀ i, f i = prtsPart []) : (fam n f).P w ∧ (fam n f).F = [] := by
  have e : (List.range n).map f = List.replicate n (prtsPart []) := by
    apply List.ext_getElem
    · simp
    · intro i h1 h2; simp [hf]
  unfold fam
  rw [e]
  have hF : PF (List.replicate n (prtsPart [])) = [] := by simp [PF, prtsPart]
  refine ⟨⟨fun {i p} hi => ?_, fun {i j p q} hij hi hj x hx => ?_⟩, hF⟩
  · obtain rfl := List.eq_of_mem_replicate (List.mem_of_getElem? hi)
    exact Prts.nil w
  · obtain rfl := List.eq_of_mem_replicate (List.mem_of_getElem? hi)
    cases hx

end Go.Den
namespace Go.Proofs
open Go Go.Den

section
variable {w : World} {p : Nat} {s : S12} {F : List Nat}

end

set_option maxRecDepth 100000 in
theorem kp12_new (n : Int) (w : World) {K : Value → World → Prop} (h0 : n < 1 ∨ 1024 < n → K (.pointer none) w)
    (h1 : ∀ (k p : Nat) (F : List Nat) (w' : World), n = k → 1 ≤ k → k ≤ 1024 → KP12 w' p (init12 k) F → Mod [] w w' → Beyond w.heap.size F → K (.pointer (some ⟨p, 0, none⟩)) w') :
    CallsR Tryz.prog F_exodisk_New #[.int .i64 n] w K := by
  apply R_exodisk_New_ok
  simp only [R_exodisk_New]
  refine disk_new n w (fun h => ⟨_, rfl, spl_t rfl (h0 h)⟩) (fun k pd Fd w1 hn hk1 hk2 gd m1 bd => ⟨_, rfl, spl_f rfl ?_⟩)
  have s1 := (Sep.nil (Mod.refl [] w)).push (diskPart pd _ Fd) m1 gd bd
  refine pnew_run fun pc Fc w2 gc m2 bc => ⟨_, rfl, ?_⟩
  have s2 := s1.push (cpPart pc _ Fc) m2 gc bc
  rw [newK_eq]
  have m3 : Mod [] w2 (w2.alloc (.map #[] 0)) := (Mod.refl [] w2).alloc _
  have g3 := MapP.new w2
  generalize w2.alloc (.map #[] 0) = w3 at m3 g3 ⊢
  have s3 := s2.push (mapPart w2.heap.size []) m3 g3 (by intro x hx; have hx : x ∈ [w2.heap.size] := hx; simp only [List.mem_singleton] at hx; omega)
  refine s3.new fun b w4 s4 m4 hb => ?_
  subst hn
  have key : ∃ U T, methodOf Tryz.prog U "Get" = some F_blocks_Disk_Get ∧ Sep w w4 [blk b (.cells #[.iface U (.pointer (some ⟨pd, 0, none⟩)), .int .i64 ((k : Nat) : Int), .pointer (some ⟨pc, 0, none⟩), .map (some w2.heap.size)] T (0, 0)), mapPart w2.heap.size [], cpPart pc ⟨[], 0⟩ Fc, diskPart pd (List.replicate k (List.replicate 32 0)) Fd] := by
    refine ⟨_, _, ?_, s4⟩
    · kernel_rfl
  obtain ⟨U, T, hg, s5⟩ := key
  let A : KA12 := ⟨pd, pc, w2.heap.size, U, T, Fd, Fc, [], fun _ => none⟩
  have hfam : (fam k (kent12 A (init12 k))).P w4 ∧ (fam k (kent12 A (init12 k))).F = [] := fam_empty fun i => rfl
  have s6 := s5.push (fam k (kent12 A (init12 k))) (Mod.refl [] w4) hfam.1 (by rw [hfam.2]; intro x hx; cases hx)
  have hl : (init12 k).d.length = k := by simp [init12]
  have hP : Prts w4 (kparts12 b A (init12 k)) := by
    refine s6.prts.re (fun i => if i = 0 then 1 else if i = 1 then 4 else if i = 2 then 3 else if i = 3 then 2 else 0) (fun i q hi => ?_) (by simp only [kparts12, List.length_cons, List.length_nil]; decide)
    unfold kparts12 at hi
    rw [hl] at hi
    rcases i with _ | _ | _ | _ | _ | i
    · exact hi
    · exact hi
    · exact hi
    · exact hi
    · exact hi
    · simp at hi
  refine h1 k b _ w4 rfl hk1 hk2 ⟨T12.init hk2, A, ⟨hg, fun j => rfl, fun x => ?_⟩, hP, rfl⟩ s4.mod fun x hx => ?_
  · simp [A, mkeys, init12]
  · obtain ⟨i, q, hq, hx⟩ := mem_PF.1 hx
    unfold kparts12 at hq
    rw [hl] at hq
    rcases i with _ | _ | _ | _ | _ | i
    · exact s6.bey 1 hq x hx
    · exact s6.bey 4 hq x hx
    · exact s6.bey 3 hq x hx
    · exact s6.bey 2 hq x hx
    · exact s6.bey 0 hq x hx
    · simp at hq

end Go.Proofs
