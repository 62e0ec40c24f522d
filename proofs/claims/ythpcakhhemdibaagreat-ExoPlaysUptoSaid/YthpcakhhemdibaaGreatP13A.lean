/-
  exo: the program's kernel in the heap; contracts of what is small.
  exo: contracts of the program: a raw call that has its form.
  exo: contracts of the program: a raw call.
  exo: contracts of the program: what an environment sees.
  exo: contracts of the program: what an environment sees.
-/
import Derived.Test.YthpcakhhemdibaaGreatK13A
import Derived.Test.YthpcakhhemdibaaGreatP9A
import Derived.Test.YthpcakhhemdibaaGreatP12A
import Derived.Test.YthpcakhhemdibaaGreatV1A
set_option linter.unusedVariables false
set_option linter.unusedSimpArgs false
namespace Go.Proofs
open Go Go.Den

section
variable {w : World} {p : Nat} {F : List Nat}

theorem kp_cap {s : S9} (h : KP w p s F) (e sl : Int) {K : Value → World → Prop} (hK : ∀ w', Mod [] w w' → K (.tuple #[.agg #[.int .i64 (getV8 s.c.L e sl).1.k, .int .i64 (getV8 s.c.L e sl).1.i, .int .i64 (getV8 s.c.L e sl).1.n, .int .i64 (getV8 s.c.L e sl).1.r], .bool (getV8 s.c.L e sl).2]) w') :
    CallsR Tryz.prog F_exomem_Kernel_Cap #[.pointer (some ⟨p, 0, none⟩), .int .i64 e, .int .i64 sl] w K := by
  obtain ⟨hT, A, h1, rfl⟩ := h
  apply R_exomem_Kernel_Cap_ok
  simp only [R_exomem_Kernel_Cap, Option.isNone_some, spl_false, nilK_some, addr_add, Nat.zero_add]
  refine (Den.Sep.nil (Den.Mod.refl [] w)).new fun b w1 s1 m1 _ => ?_
  have h2 := h1.mod0 m1
  refine ⟨_, kc1 h2, pget_run (kcp h2) e sl fun w2 m2 => ⟨_, _, _, _, _, rfl, ?_⟩⟩
  have s2 := s1.mod0 m2
  exact s2.st0 0 rfl rfl fun w3 s3 m3 => ⟨_, _, _, _, ⟨s3.cell 0 rfl rfl, s3.cell 0 rfl rfl, s3.cell 0 rfl rfl, s3.cell 0 rfl rfl⟩, hK w3 s3.mod⟩

theorem kp_words {s : S9} (h : KP w p s F) (f : Int) {K : Value → World → Prop} (hK : ∀ w' a c G, SlB w' a (pageW13 s.m f).length c 1 (u64s (pageW13 s.m f)) G → Beyond w.heap.size G → Mod [] w w' → K (.slice a (pageW13 s.m f).length c) w') :
    CallsR Tryz.prog F_exomem_Kernel_Words #[.pointer (some ⟨p, 0, none⟩), .int .i64 f] w K := by
  obtain ⟨hT, A, h1, rfl⟩ := h
  apply R_exomem_Kernel_Words_ok
  simp only [R_exomem_Kernel_Words, Option.isNone_some, spl_false, nilK_some]
  refine ⟨_, kc0 h1, mem_page (kmem h1) f (fun ho => ⟨_, _, _, rfl, ?_⟩) (fun k b a G w' hf hb hs hG hm => ⟨_, _, _, rfl, ?_⟩)⟩
  · have e : pageW13 s.m f = [] := by unfold pageW13; rw [if_neg (show ¬ inM s.m f by unfold inM; omega)]
    rw [e] at hK
    exact hK w none 0 [] (SlB.nil w 1) (by intro x hx; cases hx) (Mod.refl _ _)
  · subst hf
    have e : pageW13 s.m k = b := by unfold pageW13; rw [if_pos (inM_of hb), row9_of hb]
    have hl := hs.u64
    rw [e, hl] at hK
    exact hK w' a 32 G hs hG hm

theorem kp12_cap {s : S12} (h : KP12 w p s F) (e sl : Int) {K : Value → World → Prop} (hK : ∀ w', Mod [] w w' → K (.tuple #[.agg #[.int .i64 (getV8 s.c.L e sl).1.k, .int .i64 (getV8 s.c.L e sl).1.i, .int .i64 (getV8 s.c.L e sl).1.n, .int .i64 (getV8 s.c.L e sl).1.r], .bool (getV8 s.c.L e sl).2]) w') :
    CallsR Tryz.prog F_exodisk_Kernel_Cap #[.pointer (some ⟨p, 0, none⟩), .int .i64 e, .int .i64 sl] w K := by
  obtain ⟨hT, A, hX, h1, rfl⟩ := h
  apply R_exodisk_Kernel_Cap_ok
  simp only [R_exodisk_Kernel_Cap, Option.isNone_some, spl_false, nilK_some, addr_add, Nat.zero_add]
  refine (Den.Sep.nil (Den.Mod.refl [] w)).new fun b w1 s1 m1 _ => ?_
  have h2 := h1.mod0 m1
  refine ⟨_, k12c2 h2, pget_run (k12c h2) e sl fun w2 m2 => ⟨_, _, _, _, _, rfl, ?_⟩⟩
  have s2 := s1.mod0 m2
  exact s2.st0 0 rfl rfl fun w3 s3 m3 => ⟨_, _, _, _, ⟨s3.cell 0 rfl rfl, s3.cell 0 rfl rfl, s3.cell 0 rfl rfl, s3.cell 0 rfl rfl⟩, hK w3 s3.mod⟩

theorem kp12_look {s : S12} (h : KP12 w p s F) (b : Int) {K : Value → World → Prop}
    (hK : ∀ w' a c G, KP12 w' p s F → Mod F w w' → SlB w' a (look12 s b).length c 1 (u64s (look12 s b)) G → Beyond w.heap.size G → K (.slice a (look12 s b).length c) w') :
    CallsR Tryz.prog F_exodisk_Kernel_Look #[.pointer (some ⟨p, 0, none⟩), .int .i64 b] w K := by
  obtain ⟨hT, A, hX, h1, rfl⟩ := h
  exact klook12_run hX hT h1 b fun w' a c G h2 m2 hs hG => hK w' a c G ⟨hT, A, hX, h2, rfl⟩ m2 hs hG
end

/-! ### The kernel -/

def ipPart (p : Nat) (Q : V11.Qs) (F W : List Nat) : Part := ⟨F, fun w => V11.IpcP w p Q F W, fun h k => h.keep k, fun h => h.lt⟩
structure XA where
  pm : Nat
  pd : Nat
  pe : Nat
  pp : Nat
  T : TypeId
  Fm : List Nat
  Fd : List Nat
  Fe : List Nat
  Fq : List Nat
  W : List Nat
  V : List Int
  U : List (Int × Int)
def xobj (A : XA) : Obj := .cells #[.pointer (some ⟨A.pm, 0, none⟩), .pointer (some ⟨A.pd, 0, none⟩), .pointer (some ⟨A.pe, 0, none⟩), .pointer (some ⟨A.pp, 0, none⟩)] A.T (0, 0)
def xparts (k : Nat) (A : XA) (s : S13) : List Part := [blk k (xobj A), kpPart A.pm s.m A.Fm, kpPart12 A.pd s.d A.Fd, V10.ep A.pe ⟨s.e, A.V, A.U⟩ A.Fe, ipPart A.pp s.q A.Fq A.W]
/-- The program's kernel at block 'k'. -/
def KX (w : World) (k : Nat) (s : S13) (F : List Nat) : Prop := ∃ A, Prts w (xparts k A s) ∧ F = PF (xparts k A s)
theorem KX.lt {w : World} {k : Nat} {s : S13} {F : List Nat} (h : KX w k s F) : ∀ b ∈ F, b < w.heap.size := by
  obtain ⟨A, h1, rfl⟩ := h; exact h1.lt
theorem KX.keep {w w' : World} {k : Nat} {s : S13} {F : List Nat} (h : KX w k s F) (hk : ∀ b ∈ F, w'.heap[b]? = w.heap[b]?) : KX w' k s F := by
  obtain ⟨A, h1, rfl⟩ := h; exact ⟨A, h1.keep hk, rfl⟩
theorem KX.mod0 {w w' : World} {k : Nat} {s : S13} {F : List Nat} (h : KX w k s F) (hm : Mod [] w w') : KX w' k s F := h.keep (hm.at0 h.lt)
def kxPart (k : Nat) (s : S13) (F : List Nat) : Part := ⟨F, fun w => KX w k s F, fun h k => h.keep k, fun h => h.lt⟩

section
variable {w w' : World} {k : Nat} {A : XA} {s : S13}
theorem xm (h : Prts w (xparts k A s)) : KP w A.pm s.m A.Fm := h.nth (i := 1) rfl
theorem xd (h : Prts w (xparts k A s)) : KP12 w A.pd s.d A.Fd := h.nth (i := 2) rfl
theorem xe (h : Prts w (xparts k A s)) : V10.EP w A.pe ⟨s.e, A.V, A.U⟩ A.Fe := h.nth (i := 3) rfl
theorem xq (h : Prts w (xparts k A s)) : V11.IpcP w A.pp s.q A.Fq A.W := h.nth (i := 4) rfl
theorem xblk (h : Prts w (xparts k A s)) : w.heap[k]? = some (xobj A) := h.nth (i := 0) rfl
theorem xc0 (h : Prts w (xparts k A s)) : w.cell? ⟨k, 0, none⟩ = some (.pointer (some ⟨A.pm, 0, none⟩)) := by rw [cell_get (xblk h)]; rfl
theorem xc1 (h : Prts w (xparts k A s)) : w.cell? ⟨k, 1, none⟩ = some (.pointer (some ⟨A.pd, 0, none⟩)) := by rw [cell_get (xblk h)]; rfl
theorem xc2 (h : Prts w (xparts k A s)) : w.cell? ⟨k, 2, none⟩ = some (.pointer (some ⟨A.pe, 0, none⟩)) := by rw [cell_get (xblk h)]; rfl
theorem xc3 (h : Prts w (xparts k A s)) : w.cell? ⟨k, 3, none⟩ = some (.pointer (some ⟨A.pp, 0, none⟩)) := by rw [cell_get (xblk h)]; rfl

theorem x_m (h : Prts w (xparts k A s)) {m' : S9} {F' : List Nat} (hp : KP w' A.pm m' F') (hm : Mod A.Fm w w') (ho : Own w A.Fm F') : ∃ F2, KX w' k { s with m := m' } F2 ∧ Mod (PF (xparts k A s)) w w' ∧ Own w (PF (xparts k A s)) F2 := by
  have := h.step 1 rfl (kpPart A.pm m' F') hp hm ho
  exact ⟨_, ⟨{ A with Fm := F' }, this.1, rfl⟩, this.2.1, this.2.2⟩
theorem x_d (h : Prts w (xparts k A s)) {d' : S12} {F' : List Nat} (hp : KP12 w' A.pd d' F') (hm : Mod A.Fd w w') (ho : Own w A.Fd F') : ∃ F2, KX w' k { s with d := d' } F2 ∧ Mod (PF (xparts k A s)) w w' ∧ Own w (PF (xparts k A s)) F2 ∧ ∀ x ∈ F2, x ∈ F' ∨ x ∈ PF (xparts k A s) := by
  have := h.step 2 rfl (kpPart12 A.pd d' F') hp hm ho
  refine ⟨_, ⟨{ A with Fd := F' }, this.1, rfl⟩, this.2.1, this.2.2, fun x hx => ?_⟩
  obtain ⟨i, q, hq, hxq⟩ := mem_PF.1 hx
  rcases i with _ | _ | _ | _ | _ | i
  · cases hq; exact .inr (mem_PF.2 ⟨0, _, rfl, hxq⟩)
  · cases hq; exact .inr (mem_PF.2 ⟨1, _, rfl, hxq⟩)
  · cases hq; exact .inl hxq
  · cases hq; exact .inr (mem_PF.2 ⟨3, _, rfl, hxq⟩)
  · cases hq; exact .inr (mem_PF.2 ⟨4, _, rfl, hxq⟩)
  · simp [xparts] at hq
theorem x_q (h : Prts w (xparts k A s)) {q' : V11.Qs} {F' W' : List Nat} (hp : V11.IpcP w' A.pp q' F' W') (hm : Mod A.Fq w w') (ho : Own w A.Fq F') : ∃ F2, KX w' k { s with q := q' } F2 ∧ Mod (PF (xparts k A s)) w w' ∧ Own w (PF (xparts k A s)) F2 := by
  have := h.step 4 rfl (ipPart A.pp q' F' W') hp hm ho
  exact ⟨_, ⟨{ A with Fq := F', W := W' }, this.1, rfl⟩, this.2.1, this.2.2⟩
theorem x_e (h : Prts w (xparts k A s)) {t : V10.S10} {F' : List Nat} (hp : V10.EP w' A.pe t F') (hm : Mod A.Fe w w') (ho : Own w A.Fe F') : ∃ F2, KX w' k { s with e := t.L } F2 ∧ Mod (PF (xparts k A s)) w w' ∧ Own w (PF (xparts k A s)) F2 := by
  have := h.step 3 rfl (V10.ep A.pe t F') hp hm ho
  exact ⟨_, ⟨{ A with Fe := F', V := t.V, U := t.U }, this.1, rfl⟩, this.2.1, this.2.2⟩
end

/-! ### Answers -/

section
variable {w : World}
theorem xwords_none (e : Int) {K : Value → World → Prop} (hK : K (.tuple #[.slice none 0 0, .int .i64 e]) w) : CallsR Tryz.prog F_exo_words #[.int .i64 e, .slice none 0 0] w K := by
  apply R_exo_words_ok
  simp only [R_exo_words, spl_bne]
  exact ⟨fun _ => hK, fun h => by subst h; exact hK⟩
theorem xslot_run (n e : Int) {K : Value → World → Prop} (hK : ∀ w' a c G, SlB w' a (ans1 (n, e)).1.length c 1 (u64s (ans1 (n, e)).1) G → Beyond w.heap.size G → Mod [] w w' → K (.tuple #[.slice a (ans1 (n, e)).1.length c, .int .i64 (ans1 (n, e)).2]) w') : CallsR Tryz.prog F_exo_slot #[.int .i64 n, .int .i64 e] w K := by
  apply R_exo_slot_ok
  simp only [R_exo_slot, newK_eq]
  have hs := SlB.new w (u64s [IntKind.u64.wrap n]) 42 (l := 1) (sz := 1) rfl
  have hm := (Mod.refl [] w).alloc (.cells (u64s [IntKind.u64.wrap n]).toArray 42)
  apply R_exo_words_ok
  simp only [R_exo_words, spl_bne]
  refine ⟨fun h => ⟨_, _, _, _, rfl, ?_⟩, fun h => ⟨_, _, _, _, rfl, ?_⟩⟩
  · have e1 : ans1 (n, e) = ([], e) := if_neg h
    rw [e1] at hK
    exact hK _ none 0 [] (SlB.nil _ 1) (by intro x hx; cases hx) hm
  · have e1 : ans1 (n, e) = ([IntKind.u64.wrap n], 0) := if_pos h
    rw [e1] at hK
    exact hK _ _ 1 [w.heap.size] hs (by intro x hx; simp only [List.mem_singleton] at hx; omega) hm
theorem xword_run (n e : Int) {K : Value → World → Prop} (hK : ∀ w' a c G, SlB w' a (ansW (n, e)).1.length c 1 (u64s (ansW (n, e)).1) G → Beyond w.heap.size G → Mod [] w w' → K (.tuple #[.slice a (ansW (n, e)).1.length c, .int .i64 (ansW (n, e)).2]) w') : CallsR Tryz.prog F_exo_word #[.int .u64 n, .int .i64 e] w K := by
  apply R_exo_word_ok
  simp only [R_exo_word, newK_eq]
  have hs := SlB.new w (u64s [n]) 42 (l := 1) (sz := 1) rfl
  have hm := (Mod.refl [] w).alloc (.cells (u64s [n]).toArray 42)
  apply R_exo_words_ok
  simp only [R_exo_words, spl_bne]
  refine ⟨fun h => ⟨_, _, _, _, rfl, ?_⟩, fun h => ⟨_, _, _, _, rfl, ?_⟩⟩
  · have e1 : ansW (n, e) = ([], e) := if_neg h
    rw [e1] at hK
    exact hK _ none 0 [] (SlB.nil _ 1) (by intro x hx; cases hx) hm
  · have e1 : ansW (n, e) = ([n], 0) := if_pos h
    rw [e1] at hK
    exact hK _ _ 1 [w.heap.size] hs (by intro x hx; simp only [List.mem_singleton] at hx; omega) hm
end

section
variable {w : World} {k : Nat} {s : S13} {F : List Nat}
theorem x_frame (h : KX w k s F) (f : Int) {K : Value → World → Prop} (hK : ∀ w' a c G, SlB w' a (pageW13 s.m.m f).length c 1 (u64s (pageW13 s.m.m f)) G → Beyond w.heap.size G → Mod [] w w' → K (.slice a (pageW13 s.m.m f).length c) w') :
    CallsR Tryz.prog F_exo_Kernel_Frame #[.pointer (some ⟨k, 0, none⟩), .int .i64 f] w K := by
  obtain ⟨A, h1, rfl⟩ := h
  apply R_exo_Kernel_Frame_ok
  simp only [R_exo_Kernel_Frame, Option.isNone_some, spl_false, nilK_some]
  exact ⟨_, xc0 h1, kp_words (xm h1) f fun w' a c G hs hG hm => ⟨_, _, _, rfl, hK w' a c G hs hG hm⟩⟩
theorem x_block (h : KX w k s F) (b : Int) {K : Value → World → Prop} (hK : ∀ w' F' a c G, KX w' k s F' → Mod F w w' → Own w F F' → SlB w' a (look12 s.d b).length c 1 (u64s (look12 s.d b)) G → Beyond w.heap.size G → (∀ x ∈ G, x ∉ F') → K (.slice a (look12 s.d b).length c) w') :
    CallsR Tryz.prog F_exo_Kernel_Block #[.pointer (some ⟨k, 0, none⟩), .int .i64 b] w K := by
  obtain ⟨A, h1, rfl⟩ := h
  apply R_exo_Kernel_Block_ok
  simp only [R_exo_Kernel_Block, Option.isNone_some, spl_false, nilK_some, addr_add, Nat.zero_add]
  refine ⟨_, xc1 h1, kp12_look (xd h1) b fun w' a c G h2 m2 hs hG => ⟨_, _, _, rfl, ?_⟩⟩
  obtain ⟨F2, g1, g2, g3, g4⟩ := x_d h1 h2 m2 (Own.refl _ _)
  refine hK w' F2 a c G g1 g2 g3 hs hG fun x hx hx2 => ?_
  have h3 := hG x hx
  have h4 : x ∈ PF (xparts k A s) := (g4 x hx2).elim (fun h => mem_PF.2 ⟨2, _, rfl, h⟩) id
  have := h1.lt x h4
  omega
theorem x_create (h : KX w k s F) (e : Int) {K : Value → World → Prop} (hK : ∀ w' F', KX w' k { s with e := if V10.in12 e ∧ e ∉ s.e then putL s.e e else s.e } F' → Mod F w w' → Own w F F' → K (.int .i64 (if V10.in12 e then (if e ∈ s.e then 105 else 0) else 101)) w') :
    CallsR Tryz.prog F_exo_Kernel_Create #[.pointer (some ⟨k, 0, none⟩), .int .i64 e] w K := by
  obtain ⟨A, h1, rfl⟩ := h
  apply R_exo_Kernel_Create_ok
  simp only [R_exo_Kernel_Create, Option.isNone_some, spl_false, nilK_some, addr_add, Nat.zero_add]
  refine ⟨_, xc2 h1, V10.create_run (xe h1) e fun w' F' h2 m2 o2 => ⟨_, rfl, ?_⟩⟩
  obtain ⟨F2, g1, g2, g3⟩ := x_e h1 h2 m2 o2
  have e1 : (V10.createS ⟨s.e, A.V, A.U⟩ e).L = if V10.in12 e ∧ e ∉ s.e then putL s.e e else s.e := by
    unfold V10.createS V10.createE
    by_cases h3 : V10.in12 e <;> by_cases h4 : e ∈ s.e <;> simp [h3, h4]
  have e2 : V10.createE ⟨s.e, A.V, A.U⟩ e = if V10.in12 e then (if e ∈ s.e then 105 else 0) else 101 := by
    unfold V10.createE
    by_cases h3 : V10.in12 e <;> by_cases h4 : e ∈ s.e <;> simp [h3, h4]
  rw [e1] at g1
  rw [e2]
  exact hK w' F2 g1 g2 g3
end

def xre (i : Nat) : Nat := match i with
  | 0 => 0
  | 1 => 4
  | 2 => 3
  | 3 => 2
  | _ => 1
theorem xre_inj : ∀ i < 5, ∀ j < 5, i ≠ j → xre i ≠ xre j := by decide
def init13 (f b : Nat) : S13 := ⟨init9 f, init12 b, [], fun _ => []⟩
theorem x_new (f b : Int) (w : World) {K : Value → World → Prop} (h0 : ∀ w', (f < 1 ∨ 1024 < f) ∨ b < 1 ∨ 1024 < b → Mod [] w w' → K (.pointer none) w')
    (h1 : ∀ (m n k : Nat) (F : List Nat) (w' : World), f = m → b = n → 1 ≤ m → m ≤ 1024 → 1 ≤ n → n ≤ 1024 → KX w' k (init13 m n) F → Mod [] w w' → Beyond w.heap.size F → K (.pointer (some ⟨k, 0, none⟩)) w') :
    CallsR Tryz.prog F_exo_New #[.int .i64 f, .int .i64 b] w K := by
  apply R_exo_New_ok
  simp only [R_exo_New]
  have fin : ∀ (rm rd : Option Addr) (l : List Part) (w2 : World), Den.Sep w w2 l → (∀ (pe pp : Nat) (Fe Fq W : List Nat) (w4 : World), Den.Sep w w4 (ipPart pp (fun _ => []) Fq W :: V10.ep pe ⟨[], List.replicate 16 (-1), []⟩ Fe :: l) → newK w4 (.cells #[.pointer rm, .pointer rd, .pointer (some ⟨pe, 0, none⟩), .pointer (some ⟨pp, 0, none⟩)] Ty_exo_Kernel) fun b15 w16 => (∃ x17 : Option Addr, w16.cell? ⟨b15, 0, none⟩ = some (.pointer x17) ∧ (spl x17.isNone (K (.pointer none) w16) ((∃ x18 : Option Addr, w16.cell? ⟨b15, 1, none⟩ = some (.pointer x18) ∧ (spl x18.isNone (K (.pointer none) w16) (K (.pointer (some ⟨b15, 0, none⟩)) w16))))))) →
      CallsR Tryz.prog F_exoenv_New #[.int .i64 16] w2 fun v9 w10 => ∃ r11 : Option Addr, v9 = .pointer r11 ∧ (CallsR Tryz.prog F_exoipc_New #[] w10 fun v12 w13 => ∃ r14 : Option Addr, v12 = .pointer r14 ∧ (newK w13 (.cells #[.pointer rm, .pointer rd, .pointer r11, .pointer r14] Ty_exo_Kernel) fun b15 w16 => (∃ x17 : Option Addr, w16.cell? ⟨b15, 0, none⟩ = some (.pointer x17) ∧ (spl x17.isNone (K (.pointer none) w16) ((∃ x18 : Option Addr, w16.cell? ⟨b15, 1, none⟩ = some (.pointer x18) ∧ (spl x18.isNone (K (.pointer none) w16) (K (.pointer (some ⟨b15, 0, none⟩)) w16)))))))) := by
    intro rm rd l w2 s2 hh
    refine V10.enew_run w2 16 (fun h => absurd h (by omega)) (fun m pe Fe w3 hm _ _ h3 m3 b3 => ⟨_, rfl, ?_⟩)
    obtain rfl : m = 16 := by omega
    have s3 := s2.push (V10.ep pe ⟨[], List.replicate 16 (-1), []⟩ Fe) m3 h3 b3
    refine V11.ipc_new w3 fun pp Fq W w4 h4 m4 b4 => ⟨_, rfl, ?_⟩
    exact hh pe pp Fe Fq W w4 (s3.push (ipPart pp (fun _ => []) Fq W) m4 h4 b4)
  refine kp_new f w (fun hf => ⟨_, rfl, ?_⟩) (fun m pm Fm w1 hm hm1 hm2 h1' m1 b1 => ⟨_, rfl, ?_⟩)
  · have step : ∀ (rd : Option Addr) (w2 : World), Mod [] w w2 → CallsR Tryz.prog F_exoenv_New #[.int .i64 16] w2 fun v9 w10 => ∃ r11 : Option Addr, v9 = .pointer r11 ∧ (CallsR Tryz.prog F_exoipc_New #[] w10 fun v12 w13 => ∃ r14 : Option Addr, v12 = .pointer r14 ∧ (newK w13 (.cells #[.pointer none, .pointer rd, .pointer r11, .pointer r14] Ty_exo_Kernel) fun b15 w16 => (∃ x17 : Option Addr, w16.cell? ⟨b15, 0, none⟩ = some (.pointer x17) ∧ (spl x17.isNone (K (.pointer none) w16) ((∃ x18 : Option Addr, w16.cell? ⟨b15, 1, none⟩ = some (.pointer x18) ∧ (spl x18.isNone (K (.pointer none) w16) (K (.pointer (some ⟨b15, 0, none⟩)) w16)))))))) := fun rd w2 m2 =>
      fin none rd [] w2 (Den.Sep.nil m2) fun pe pp Fe Fq W w4 s4 => s4.new fun b5 w5 s5 m5 _ => ⟨_, s5.cell 0 rfl rfl, spl_t rfl (h0 w5 (.inl hf) s5.mod)⟩
    exact kp12_new b w (fun hb => ⟨_, rfl, step _ _ (Mod.refl _ _)⟩) (fun n pd Fd w2 hn hn1 hn2 h2 m2 b2 => ⟨_, rfl, step _ _ m2⟩)
  · have s1 := (Den.Sep.nil (Den.Mod.refl [] w)).push (kpPart pm (init9 m) Fm) m1 h1' b1
    refine kp12_new b w1 (fun hb => ⟨_, rfl, ?_⟩) (fun n pd Fd w2 hn hn1 hn2 h2 m2 b2 => ⟨_, rfl, ?_⟩)
    · exact fin _ none _ w1 s1 fun pe pp Fe Fq W w4 s4 => s4.new fun b5 w5 s5 m5 _ => ⟨_, s5.cell 0 rfl rfl, spl_f rfl ⟨_, s5.cell 0 rfl rfl, spl_t rfl (h0 w5 (.inr hb) s5.mod)⟩⟩
    · have s2 := s1.push (kpPart12 pd (init12 n) Fd) m2 h2 b2
      refine fin _ _ _ w2 s2 fun pe pp Fe Fq W w4 s4 => s4.new fun b5 w5 s5 m5 _ => ⟨_, s5.cell 0 rfl rfl, spl_f rfl ⟨_, s5.cell 0 rfl rfl, spl_f rfl ?_⟩⟩
      let A : XA := ⟨pm, pd, pe, pp, Ty_exo_Kernel, Fm, Fd, Fe, Fq, W, List.replicate 16 (-1), []⟩
      have hx : Prts w5 (xparts b5 A (init13 m n)) := s5.prts.re xre (fun i q hq => by
        rcases i with _ | _ | _ | _ | _ | i
        · exact hq
        · exact hq
        · exact hq
        · exact hq
        · exact hq
        · simp [xparts] at hq) (fun i hi j hj hij => xre_inj i hi j hj hij)
      refine h1 m n b5 _ w5 hm hn hm1 hm2 hn1 hn2 ⟨A, hx, rfl⟩ s5.mod fun x hx => ?_
      obtain ⟨i, q, hq, hxq⟩ := mem_PF.1 hx
      rcases i with _ | _ | _ | _ | _ | i
      · cases hq; exact s5.bey 0 rfl x hxq
      · cases hq; exact s5.bey 4 rfl x hxq
      · cases hq; exact s5.bey 3 rfl x hxq
      · cases hq; exact s5.bey 2 rfl x hxq
      · cases hq; exact s5.bey 1 rfl x hxq
      · simp [xparts] at hq

end Go.Proofs

set_option linter.unusedSimpArgs false
namespace Go.Proofs
open Go Go.Den

theorem xwords_ok {w : World} {a : Option Addr} {l c : Nat} {K : Value → World → Prop} (hK : K (.tuple #[.slice a l c, .int .i64 0]) w) : CallsR Tryz.prog F_exo_words #[.int .i64 0, .slice a l c] w K := by
  apply R_exo_words_ok
  simp only [R_exo_words, spl_bne]
  exact ⟨fun h => absurd rfl h, fun _ => hK⟩

theorem u64s_drop {ws : List Int} {l L : Nat} (h : ws.length = l) : ((u64s ws).drop (L * 1)).take ((l - L) * 1) = u64s (ws.drop L) := by
  rw [Nat.mul_one, Nat.mul_one, List.take_of_length_le (by rw [List.length_drop, u64s_length, h]; exact Nat.le_refl _)]
  unfold u64s
  rw [List.map_drop]

/-- What a call leaves: the state, and an answer of its own. -/
def XOut (w : World) (k : Nat) (F : List Nat) (s' : S13) (v : List Int × Int) (K : Value → World → Prop) : Prop :=
  ∀ (w' : World) (F' : List Nat) (a : Option Addr) (c : Nat) (G : List Nat), KX w' k s' F' → Mod F w w' → Own w F F' → SlB w' a v.1.length c 1 (u64s v.1) G → Beyond w.heap.size G → (∀ x ∈ G, x ∉ F') → K (.tuple #[.slice a v.1.length c, .int .i64 v.2]) w'

section
variable {w : World} {k : Nat} {s : S13} {F : List Nat}

set_option maxRecDepth 100000 in
set_option maxHeartbeats 1000000 in
theorem x_do (h : KX w k s F) (env n a0 a1 a2 : Int) {a : Option Addr} {l c : Nat} {ws : List Int} {G : List Nat} (hw : Rd w a l 1 (u64s ws) G) (hlc : l ≤ c) (hc : l ≤ 9223372036854775807) (hws : ∀ x ∈ ws, 0 ≤ x ∧ x < 18446744073709551616) {f : Nat × Nat × Nat} (hf : form13 n = some f) (hlow : f.1 ≤ l) (hhigh : l ≤ f.2.1)
    (ha0 : 1 ≤ f.2.2 → a0 = w13 ws 0) (ha1 : 2 ≤ f.2.2 → a1 = w13 ws 1) (ha2 : 3 ≤ f.2.2 → a2 = w13 ws 2) {K : Value → World → Prop} (hK : XOut w k F (doS13 s env n ws) (doV13 s env n ws) K) :
    CallsR Tryz.prog F_exo_Kernel_do #[.pointer (some ⟨k, 0, none⟩), .int .i64 env, .int .u64 n, .agg #[.int .i64 a0, .int .i64 a1, .int .i64 a2], .slice a l c] w K := by
  obtain ⟨A, h0, rfl⟩ := h
  have hwl := hw.u64
  apply R_exo_Kernel_do_ok
  simp only [R_exo_Kernel_do, spl_beq, nilK_some, addr_add, Nat.zero_add]
  refine (Den.Sep.nil (Den.Mod.refl [] w)).new fun b w1 s1 m1 hb => ?_
  have h1 := h0.mod0 m1
  -- behind the drawing of the order
  have s2 := s1.mod0 ((Mod.refl [] w1).drew)
  have m2 := s2.mod
  have h2 := h0.mod0 m2
  have hw2 := hw.keep (m2.at0 hw.lt)
  have wc : ∀ {w' : World} (i : Nat), Mod [] w w' → i < l → ∃ ad, a = some ad ∧ w'.cell? (Addr.add ad i) = some (.int .u64 (w13 ws i)) := fun {w'} i hm hi => by
    obtain ⟨ad, x, e1, hx, hcx, -, hbl⟩ := hw.u64at hi
    refine ⟨ad, e1, ?_⟩
    rw [hm.cell (by rw [add_block]; exact hbl), hcx]
    unfold w13
    rw [hx]
    rfl
  have out0 : ∀ {w3 : World} {F4 : List Nat} {s' : S13} {e : Int}, doS13 s env n ws = s' → doV13 s env n ws = ([], e) → KX w3 k s' F4 → Mod (PF (xparts k A s)) w w3 → Own w (PF (xparts k A s)) F4 → K (.tuple #[.slice none 0 0, .int .i64 e]) w3 := fun {w3 F4 s' e} e1 e2 z1 z2 z3 => by
    have := hK w3 F4 none 0 [] (by rw [e1]; exact z1) z2 z3 (by rw [e2]; exact SlB.nil w3 1) (by intro x hx; cases hx) (by intro x hx; cases hx)
    rw [e2] at this
    exact this
  have out1 : ∀ {w3 w4 : World} {F4 : List Nat} {s' : S13} {v : List Int × Int} {a' : Option Addr} {c' : Nat} {G' : List Nat}, doS13 s env n ws = s' → doV13 s env n ws = v → KX w3 k s' F4 → Mod (PF (xparts k A s)) w w3 → Own w (PF (xparts k A s)) F4 → SlB w4 a' v.1.length c' 1 (u64s v.1) G' → Beyond w3.heap.size G' → Mod [] w3 w4 → K (.tuple #[.slice a' v.1.length c', .int .i64 v.2]) w4 := fun {w3 w4 F4 s' v a' c' G'} e1 e2 z1 z2 z3 hs hG m => by
    subst e1 e2
    exact hK w4 F4 a' c' G' (z1.mod0 m) (z2.trans' m.of0) z3 hs (fun x hx => Nat.le_trans z2.size (hG x hx)) fun x hx hx2 => by have := hG x hx; have := z1.lt x hx2; omega
  have own : ∀ {w' : World} {F4 : List Nat}, Mod [] w w' → Own w' (PF (xparts k A s)) F4 → Own w (PF (xparts k A s)) F4 := fun hm ho x hx => (ho x hx).imp id fun h => Nat.le_trans hm.size h
  refine ⟨fun e0 => ?_, fun e0 => ⟨fun e1 => ?_, fun e1 => ⟨fun e2 => ?_, fun e2 => ⟨fun e3 => ?_, fun e3 => ⟨fun e4 => ?_, fun e4 => ⟨fun e5 => ?_, fun e5 => ⟨fun e6 => ?_, fun e6 => ⟨fun e7 => ?_, fun e7 => ⟨fun e8 => ?_, fun e8 => ⟨fun e9 => ?_, fun e9 => ⟨fun e10 => ?_, fun e10 => ⟨fun e11 => ?_, fun e11 => ⟨fun e12 => ?_, fun e12 => ⟨fun e13 => ?_, fun e13 => ⟨fun e14 => ?_, fun e14 => ⟨fun e15 => ?_, fun e15 => ⟨fun e16 => ?_, fun e16 => ?_⟩⟩⟩⟩⟩⟩⟩⟩⟩⟩⟩⟩⟩⟩⟩⟩⟩
  · subst e0
    refine ⟨_, xc0 h1, kp_alloc (xm h1) env fun w3 F3 g3 m3 o3 => ⟨_, _, rfl, ?_⟩⟩
    obtain ⟨F4, z1, z2, z3⟩ := x_m h1 g3 m3 o3
    exact xslot_run _ _ fun w4 a4 c4 G4 hs4 hG4 m4 => ⟨_, _, _, _, rfl, out1 (by simp [doS13]) (by simp [doV13]) z1 (m1.of0.trans' z2) (own m1 z3) hs4 hG4 m4⟩
  · subst e1
    obtain rfl : f = (3, 3, 3) := by simpa [form13] using hf.symm
    rw [drK_eq]
    refine ⟨[k, b], by simp, _, xc0 h2, ⟨by omega, by omega⟩, by simp, _, s2.cell 0 rfl rfl, ⟨by omega, by omega⟩, by simp, _, s2.cell 0 rfl rfl, ⟨by omega, by omega⟩, by simp, _, s2.cell 0 rfl rfl, ?_⟩
    refine kp_grant (xm h2) env a0 a1 a2 fun w3 F3 g3 m3 o3 => ⟨_, _, rfl, ?_⟩
    obtain ⟨F4, z1, z2, z3⟩ := x_m h2 g3 m3 o3
    exact xslot_run _ _ fun w4 a4 c4 G4 hs4 hG4 m4 => ⟨_, _, _, _, rfl, out1 (by simp [doS13, ha0, ha1, ha2]) (by simp [doV13, ha0, ha1, ha2]) z1 (m2.of0.trans' z2) (own m2 z3) hs4 hG4 m4⟩
  · subst e2
    obtain rfl : f = (1, 1, 1) := by simpa [form13] using hf.symm
    rw [drK_eq]
    refine ⟨[k, b], by simp, _, xc0 h2, ⟨by omega, by omega⟩, by simp, _, s2.cell 0 rfl rfl, ?_⟩
    refine kp_free (xm h2) env a0 fun w3 F3 g3 m3 o3 => ⟨_, rfl, xwords_none _ ⟨_, _, _, _, rfl, ?_⟩⟩
    obtain ⟨F4, z1, z2, z3⟩ := x_m h2 g3 m3 o3
    exact out0 (by simp [doS13, ha0]) (by simp [doV13, ha0]) z1 (m2.of0.trans' z2) (own m2 z3)
  · subst e3
    obtain rfl : f = (1, 1, 1) := by simpa [form13] using hf.symm
    rw [drK_eq]
    refine ⟨[k, b], by simp, _, xc0 h2, ⟨by omega, by omega⟩, by simp, _, s2.cell 0 rfl rfl, ?_⟩
    refine kp_revoke (xm h2) env a0 fun w3 F3 g3 m3 o3 => ⟨_, rfl, xwords_none _ ⟨_, _, _, _, rfl, ?_⟩⟩
    obtain ⟨F4, z1, z2, z3⟩ := x_m h2 g3 m3 o3
    exact out0 (by simp [doS13, ha0]) (by simp [doV13, ha0]) z1 (m2.of0.trans' z2) (own m2 z3)
  · subst e4
    obtain rfl : f = (3, 3, 3) := by simpa [form13] using hf.symm
    rw [drK_eq]
    refine ⟨[k, b], by simp, _, xc0 h2, ⟨by omega, by omega⟩, by simp, _, s2.cell 0 rfl rfl, ⟨by omega, by omega⟩, by simp, _, s2.cell 0 rfl rfl, ⟨by omega, by omega⟩, by simp, _, s2.cell 0 rfl rfl, ?_⟩
    refine kp_map (xm h2) env a0 a1 (decide (a2 = 1)) fun w3 g3 m3 => ⟨_, rfl, xwords_none _ ⟨_, _, _, _, rfl, ?_⟩⟩
    obtain ⟨F4, z1, z2, z3⟩ := x_m h2 g3 m3 (Own.refl _ _)
    exact out0 (by simp [doS13, ha0, ha1, ha2]) (by simp [doV13, ha0, ha1, ha2]) z1 (m2.of0.trans' z2) (own m2 z3)
  · subst e5
    obtain rfl : f = (1, 1, 1) := by simpa [form13] using hf.symm
    rw [drK_eq]
    refine ⟨[k, b], by simp, _, xc0 h2, ⟨by omega, by omega⟩, by simp, _, s2.cell 0 rfl rfl, ?_⟩
    refine kp_unmap (xm h2) env a0 fun w3 g3 m3 => ⟨_, rfl, xwords_none _ ⟨_, _, _, _, rfl, ?_⟩⟩
    obtain ⟨F4, z1, z2, z3⟩ := x_m h2 g3 m3 (Own.refl _ _)
    exact out0 (by simp [doS13, ha0]) (by simp [doV13, ha0]) z1 (m2.of0.trans' z2) (own m2 z3)
  · subst e6
    obtain rfl : f = (1, 1, 0) := by simpa [form13] using hf.symm
    rw [drK_eq]
    obtain ⟨ad, rfl, w0⟩ := wc 0 m2 (by simp at hlow; omega)
    rw [add_zero] at w0
    have hx0 := hws (w13 ws 0) (by unfold w13; rw [List.getElem?_eq_getElem (by simp at hlow; omega)]; exact List.getElem_mem _)
    simp only [nilK_some]
    refine ⟨[k, ad.block], by simp, _, xc0 h2, ⟨by omega, by simp at hlow; omega⟩, by simp, _, w0, ?_⟩
    refine kp_load (xm h2) env hx0.1 fun w3 m3 => ⟨_, _, rfl, ?_⟩
    exact xword_run _ _ fun w4 a4 c4 G4 hs4 hG4 m4 => ⟨_, _, _, _, rfl, out1 (F4 := PF (xparts k A s)) (by simp [doS13]) (by simp [doV13]) ⟨A, h2.mod0 m3, rfl⟩ (m2.trans' m3).of0 (Own.refl _ _) hs4 hG4 m4⟩
  · subst e7
    obtain rfl : f = (2, 2, 0) := by simpa [form13] using hf.symm
    rw [drK_eq]
    obtain ⟨ad, rfl, w0⟩ := wc 0 m2 (by simp at hlow; omega)
    obtain ⟨ad', e9, w1'⟩ := wc 1 m2 (by simp at hlow; omega)
    cases e9
    rw [add_zero] at w0
    have hx0 := hws (w13 ws 0) (by unfold w13; rw [List.getElem?_eq_getElem (by simp at hlow; omega)]; exact List.getElem_mem _)
    simp only [nilK_some]
    refine ⟨[k, ad.block], by simp, _, xc0 h2, ⟨by omega, by simp at hlow; omega⟩, by simp, _, w0, ⟨by omega, by simp at hlow; omega⟩, by simp [add_block], _, w1', ?_⟩
    refine kp_store (xm h2) env hx0.1 _ fun w3 g3 m3 => ⟨_, rfl, xwords_none _ ⟨_, _, _, _, rfl, ?_⟩⟩
    obtain ⟨F4, z1, z2, z3⟩ := x_m h2 g3 m3 (Own.refl _ _)
    exact out0 (by simp [doS13]) (by simp [doV13]) z1 (m2.of0.trans' z2) (own m2 z3)
  · subst e8
    obtain rfl : f = (2, 2, 2) := by simpa [form13] using hf.symm
    rw [drK_eq]
    refine ⟨[k, b], by simp, _, xc0 h2, ⟨by omega, by omega⟩, by simp, _, s2.cell 0 rfl rfl, ⟨by omega, by omega⟩, by simp, _, s2.cell 0 rfl rfl, ?_⟩
    refine kp_copy (xm h2) env a0 a1 fun w3 g3 m3 => ⟨_, rfl, xwords_none _ ⟨_, _, _, _, rfl, ?_⟩⟩
    obtain ⟨F4, z1, z2, z3⟩ := x_m h2 g3 m3 (Own.refl _ _)
    exact out0 (by simp [doS13, ha0, ha1]) (by simp [doV13, ha0, ha1]) z1 (m2.of0.trans' z2) (own m2 z3)
  · subst e9
    obtain rfl : f = (2, 2, 2) := by simpa [form13] using hf.symm
    rw [drK_eq]
    refine ⟨[k, b], by simp, _, xc0 h2, ⟨by omega, by omega⟩, by simp, _, s2.cell 0 rfl rfl, ⟨by omega, by omega⟩, by simp, _, s2.cell 0 rfl rfl, ?_⟩
    refine kp_read (xm h2) env a0 a1 fun w3 m3 => ⟨_, _, rfl, ?_⟩
    exact xword_run _ _ fun w4 a4 c4 G4 hs4 hG4 m4 => ⟨_, _, _, _, rfl, out1 (F4 := PF (xparts k A s)) (by simp [doS13]) (by simp [doV13, ha0, ha1]) ⟨A, h2.mod0 m3, rfl⟩ (m2.trans' m3).of0 (Own.refl _ _) hs4 hG4 m4⟩
  · subst e10
    obtain rfl : f = (3, 3, 2) := by simpa [form13] using hf.symm
    rw [drK_eq]
    obtain ⟨ad, rfl, w2'⟩ := wc 2 m2 (by simp at hlow; omega)
    simp only [nilK_some]
    refine ⟨[k, b, ad.block], by simp, _, xc0 h2, ⟨by omega, by omega⟩, by simp, _, s2.cell 0 rfl rfl, ⟨by omega, by omega⟩, by simp, _, s2.cell 0 rfl rfl, ⟨by omega, by simp at hlow; omega⟩, by simp [add_block], _, w2', ?_⟩
    refine kp_write (xm h2) env a0 a1 _ fun w3 g3 m3 => ⟨_, rfl, xwords_none _ ⟨_, _, _, _, rfl, ?_⟩⟩
    obtain ⟨F4, z1, z2, z3⟩ := x_m h2 g3 m3 (Own.refl _ _)
    exact out0 (by simp [doS13, ha0, ha1]) (by simp [doV13, ha0, ha1]) z1 (m2.of0.trans' z2) (own m2 z3)
  · subst e11
    obtain rfl : f = (1, 9, 1) := by simpa [form13] using hf.symm
    rw [drK_eq]
    refine ⟨[k, b], by simp, _, xc3 h2, ⟨by omega, by omega⟩, by simp, _, s2.cell 0 rfl rfl, ?_⟩
    refine slK_rd hw2 hlc (L := 1) (H := l) (.inl rfl) (.inr ⟨rfl, rfl⟩) hlow (Nat.le_refl _) fun a3 G3 hr3 hG3 => ?_
    rw [u64s_drop hwl] at hr3
    refine V11.ipc_send (xq h2) env a0 hr3 fun w3 F3 W3 g3 m3 o3 _ => ⟨_, rfl, xwords_none _ ⟨_, _, _, _, rfl, ?_⟩⟩
    obtain ⟨F4, z1, z2, z3⟩ := x_q h2 g3 m3 o3
    exact out0 (by simp [doS13, ha0]) (by simp [doV13, ha0]) z1 (m2.of0.trans' z2) (own m2 z3)
  · subst e12
    refine ⟨_, xc3 h1, ?_⟩
    refine V11.ipc_recv (xq h1) env (fun w3 hq m3 => ⟨_, _, _, _, _, rfl, ?_⟩) (fun x ms w3 F3 W3 xa xl xc H hq g3 m3 o3 _ hr3 hH hlx hx8 => ⟨_, _, _, _, _, rfl, ?_⟩)
    · rw [spl_false]
      refine out0 (F4 := PF (xparts k A s)) (s' := s) ?_ (by simp [doV13, hq]) ⟨A, h1.mod0 m3, rfl⟩ (m1.trans' m3).of0 (Own.refl _ _)
      have e9 : V11.qput s.q env (s.q env).tail = s.q := by rw [hq, List.tail_nil, ← hq, V11.qput_self]
      simp [doS13, e9]
    · rw [spl_true]
      obtain ⟨F4, z1, z2, z3⟩ := x_q h1 g3 m3 o3
      rw [newK_eq]
      have hnew := SlB.new w3 (u64s [IntKind.u64.wrap x.1]) 42 (l := 1) (sz := 1) rfl
      have m4 := (Mod.refl [] w3).alloc (.cells (u64s [IntKind.u64.wrap x.1]).toArray 42)
      have hxl := hr3.u64
      refine push_rd_K (w0 := w3) slT_u64 (by decide) hnew (by intro y hy; simp only [List.mem_singleton] at hy; omega) m4 (hr3.keep (m4.at0 hr3.lt)) (u64s_cell _) (by omega) (by omega) fun a5 c5 w5 G5 hs5 hG5 m5 _ _ => ⟨_, _, _, rfl, xwords_ok ⟨_, _, _, _, rfl, ?_⟩⟩
      rw [← u64s_append] at hs5
      have eV : doV13 s env 12 ws = (IntKind.u64.wrap x.1 :: x.2, 0) := by simp [doV13, hq]
      have eS : doS13 s env 12 ws = { s with q := V11.qput s.q env ms } := by simp [doS13, hq]
      have hl5 : 1 + xl = (IntKind.u64.wrap x.1 :: x.2, (0 : Int)).1.length := by simp; omega
      rw [hl5] at hs5 ⊢
      exact out1 eS eV z1 (m1.of0.trans' z2) (own m1 z3) hs5 hG5 m5
  · subst e13
    obtain rfl : f = (2, 2, 2) := by simpa [form13] using hf.symm
    rw [drK_eq]
    refine ⟨[k, b], by simp, _, xc1 h2, ⟨by omega, by omega⟩, by simp, _, s2.cell 0 rfl rfl, ⟨by omega, by omega⟩, by simp, _, s2.cell 0 rfl rfl, ?_⟩
    refine kp12_alloc (xd h2) env a0 a1 fun w3 F3 g3 m3 o3 => ⟨_, _, rfl, ?_⟩
    obtain ⟨F4, z1, z2, z3, z4⟩ := x_d h2 g3 m3 o3
    exact xslot_run _ _ fun w4 a4 c4 G4 hs4 hG4 m4 => ⟨_, _, _, _, rfl, out1 (by simp [doS13, ha0, ha1]) (by simp [doV13, ha0, ha1]) z1 (m2.of0.trans' z2) (own m2 z3) hs4 hG4 m4⟩
  · subst e14
    obtain rfl : f = (3, 3, 3) := by simpa [form13] using hf.symm
    rw [drK_eq]
    refine ⟨[k, b], by simp, _, xc1 h2, ⟨by omega, by omega⟩, by simp, _, s2.cell 0 rfl rfl, ⟨by omega, by omega⟩, by simp, _, s2.cell 0 rfl rfl, ⟨by omega, by omega⟩, by simp, _, s2.cell 0 rfl rfl, ?_⟩
    refine kp12_grant (xd h2) env a0 a1 a2 fun w3 F3 g3 m3 o3 => ⟨_, _, rfl, ?_⟩
    obtain ⟨F4, z1, z2, z3, z4⟩ := x_d h2 g3 m3 o3
    exact xslot_run _ _ fun w4 a4 c4 G4 hs4 hG4 m4 => ⟨_, _, _, _, rfl, out1 (by simp [doS13, ha0, ha1, ha2]) (by simp [doV13, ha0, ha1, ha2]) z1 (m2.of0.trans' z2) (own m2 z3) hs4 hG4 m4⟩
  · subst e15
    obtain rfl : f = (1, 1, 1) := by simpa [form13] using hf.symm
    rw [drK_eq]
    refine ⟨[k, b], by simp, _, xc1 h2, ⟨by omega, by omega⟩, by simp, _, s2.cell 0 rfl rfl, ?_⟩
    refine kp12_revoke (xd h2) env a0 fun w3 F3 g3 m3 o3 => ⟨_, rfl, xwords_none _ ⟨_, _, _, _, rfl, ?_⟩⟩
    obtain ⟨F4, z1, z2, z3, z4⟩ := x_d h2 g3 m3 o3
    exact out0 (by simp [doS13, ha0]) (by simp [doV13, ha0]) z1 (m2.of0.trans' z2) (own m2 z3)
  · subst e16
    obtain rfl : f = (2, 2, 2) := by simpa [form13] using hf.symm
    rw [drK_eq]
    refine ⟨[k, b], by simp, _, xc1 h2, ⟨by omega, by omega⟩, by simp, _, s2.cell 0 rfl rfl, ⟨by omega, by omega⟩, by simp, _, s2.cell 0 rfl rfl, ?_⟩
    refine kp12_get (xd h2) env a0 a1 fun w3 F3 a3 c3 G3 g3 m3 o3 hs3 hG3 hD3 => ⟨_, _, _, _, rfl, ?_⟩
    obtain ⟨F4, z1, z2, z3, z4⟩ := x_d h2 g3 m3 o3
    have eV : doV13 s env 16 ws = getV12 s.d env a0 a1 := by simp [doV13, ha0, ha1]
    have eS : doS13 s env 16 ws = { s with d := getS12 s.d env a0 a1 } := by simp [doS13, ha0, ha1]
    rw [← eV] at hs3 ⊢
    exact hK w3 F4 a3 c3 G3 (by rw [eS]; exact z1) (m2.of0.trans' z2) (own m2 z3) hs3 (fun x hx => Nat.le_trans m2.size (hG3 x hx)) fun x hx hx2 => by
      rcases z4 x hx2 with h | h
      · exact hD3 x hx h
      · have := hG3 x hx; have := h2.lt x h; omega
  · have e17 : n = 17 := by
      unfold form13 at hf
      rw [if_neg (by omega), if_neg (by omega), if_neg (by omega), if_neg (by omega), if_neg (by omega), if_neg (by omega), if_neg (by omega), if_neg (by omega)] at hf
      split at hf
      · assumption
      · cases hf
    subst e17
    obtain rfl : f = (34, 34, 2) := by simpa [form13] using hf.symm
    rw [drK_eq]
    refine ⟨[k, b], by simp, _, xc1 h2, ⟨by omega, by omega⟩, by simp, _, s2.cell 0 rfl rfl, ⟨by omega, by omega⟩, by simp, _, s2.cell 0 rfl rfl, ?_⟩
    refine slK_rd hw2 hlc (L := 2) (H := l) (.inl rfl) (.inr ⟨rfl, rfl⟩) (by simp at hlow; omega) (Nat.le_refl _) fun a3 G3 hr3 hG3 => ?_
    rw [u64s_drop hwl] at hr3
    refine kp12_put (xd h2) env a0 a1 hr3 fun w3 F3 g3 m3 o3 => ⟨_, rfl, xwords_none _ ⟨_, _, _, _, rfl, ?_⟩⟩
    obtain ⟨F4, z1, z2, z3, z4⟩ := x_d h2 g3 m3 o3
    exact out0 (by simp [doS13, ha0, ha1]) (by simp [doV13, ha0, ha1]) z1 (m2.of0.trans' z2) (own m2 z3)
end

end Go.Proofs

set_option linter.unusedSimpArgs false
namespace Go.Proofs
open Go Go.Den

def fr13 (n : Int) : Nat × Nat × Nat := (form13 n).getD (0, 0, 0)
theorem form_pl {n : Int} {f : Nat × Nat × Nat} (h : form13 n = some f) : f.2.2 ≤ f.1 ∧ f.2.2 ≤ 3 := by
  unfold form13 at h
  repeat' split at h
  all_goals (cases h)
  all_goals decide

section
variable {w : World} {k : Nat} {s : S13} {F : List Nat}

set_option maxRecDepth 100000 in
theorem xfind_run (n : Int) {K : Value → World → Prop} (hK : ∀ w', Mod [] w w' → K (.tuple #[.agg #[.int .i64 ((fr13 n).1 : Int), .int .i64 ((fr13 n).2.1 : Int), .int .i64 ((fr13 n).2.2 : Int)], .bool (form13 n).isSome]) w') : CallsR Tryz.prog F_exo_find #[.int .u64 n] w K := by
  apply R_exo_find_ok
  simp only [R_exo_find, spl_beq]
  refine (Den.Sep.nil (Den.Mod.refl [] w)).new fun b w1 s1 m1 hb => ?_
  have st : ∀ (x y z : Int) (ok : Bool), (∀ w', Mod [] w w' → K (.tuple #[.agg #[.int .i64 x, .int .i64 y, .int .i64 z], .bool ok]) w') → stK ⟨b, 0, none⟩ [.int .i64 x, .int .i64 y, .int .i64 z] w1 fun w4 => ∃ rf05 : Int, ∃ rf16 : Int, ∃ rf27 : Int, (w4.cell? ⟨b, 0, none⟩ = some (.int .i64 rf05) ∧ w4.cell? ⟨b, 1, none⟩ = some (.int .i64 rf16) ∧ w4.cell? ⟨b, 2, none⟩ = some (.int .i64 rf27)) ∧ K (.tuple #[.agg #[.int .i64 rf05, .int .i64 rf16, .int .i64 rf27], .bool ok]) w4 := fun x y z ok h =>
    s1.st0 0 rfl rfl fun w2 s2 m2 => ⟨_, _, _, ⟨s2.cell 0 rfl rfl, s2.cell 0 rfl rfl, s2.cell 0 rfl rfl⟩, h w2 s2.mod⟩
  refine ⟨fun h => st _ _ _ _ fun w' m' => (by subst h; exact hK w' m'), fun h0 => ?_⟩
  refine ⟨fun h => st _ _ _ _ fun w' m' => (by subst h; exact hK w' m'), fun h12 => ?_⟩
  refine ⟨fun h => st _ _ _ _ fun w' m' => (by subst h; exact hK w' m'), fun h1 => ?_⟩
  refine ⟨fun h => st _ _ _ _ fun w' m' => (by subst h; exact hK w' m'), fun h4 => ?_⟩
  refine ⟨fun h => st _ _ _ _ fun w' m' => (by subst h; exact hK w' m'), fun h14 => ?_⟩
  refine ⟨fun h => st _ _ _ _ fun w' m' => (by subst h; exact hK w' m'), fun h2 => ?_⟩
  refine ⟨fun h => st _ _ _ _ fun w' m' => (by subst h; exact hK w' m'), fun h3 => ?_⟩
  refine ⟨fun h => st _ _ _ _ fun w' m' => (by subst h; exact hK w' m'), fun h5 => ?_⟩
  refine ⟨fun h => st _ _ _ _ fun w' m' => (by subst h; exact hK w' m'), fun h15 => ?_⟩
  refine ⟨fun h => st _ _ _ _ fun w' m' => (by subst h; exact hK w' m'), fun h6 => ?_⟩
  refine ⟨fun h => st _ _ _ _ fun w' m' => (by subst h; exact hK w' m'), fun h7 => ?_⟩
  refine ⟨fun h => st _ _ _ _ fun w' m' => (by subst h; exact hK w' m'), fun h8 => ?_⟩
  refine ⟨fun h => st _ _ _ _ fun w' m' => (by subst h; exact hK w' m'), fun h9 => ?_⟩
  refine ⟨fun h => st _ _ _ _ fun w' m' => (by subst h; exact hK w' m'), fun h13 => ?_⟩
  refine ⟨fun h => st _ _ _ _ fun w' m' => (by subst h; exact hK w' m'), fun h16 => ?_⟩
  refine ⟨fun h => st _ _ _ _ fun w' m' => (by subst h; exact hK w' m'), fun h10 => ?_⟩
  refine ⟨fun h => st _ _ _ _ fun w' m' => (by subst h; exact hK w' m'), fun h11 => ?_⟩
  refine ⟨fun h => st _ _ _ _ fun w' m' => (by subst h; exact hK w' m'), fun h17 => ?_⟩
  have e : form13 n = none := by
    unfold form13
    rw [if_neg (by omega), if_neg (by omega), if_neg (by omega), if_neg (by omega), if_neg (by omega), if_neg (by omega), if_neg (by omega), if_neg (by omega), if_neg (by omega)]
  have e2 : fr13 n = (0, 0, 0) := by unfold fr13; rw [e]; rfl
  rw [e, e2] at hK
  exact st _ _ _ _ hK

/-- May the call be done, as the code asks. -/
def ask13 (s : S13) (n : Int) (w : List Int) (pl : Nat) : Bool := if n = 1 ∨ n = 14 then decide (arg13 w pl 1 ∈ s.e) else if n = 4 then decide (arg13 w pl 2 < 2) else if n = 11 then decide (arg13 w pl 0 ∈ s.e) else true
theorem raw_bad {env n : Int} {w : List Int} (h : ¬ (env ∈ s.e ∧ good13 s env n w = true)) : rawV13 s env (n :: w) = ([], 101) ∧ rawS13 s env (n :: w) = s := ⟨if_neg h, if_neg h⟩
theorem raw_good {env n : Int} {w : List Int} (h : env ∈ s.e ∧ good13 s env n w = true) : rawV13 s env (n :: w) = doV13 s env n w ∧ rawS13 s env (n :: w) = doS13 s env n w := ⟨if_pos h, if_pos h⟩
theorem good_iff {env n : Int} {w : List Int} {f : Nat × Nat × Nat} (hf : form13 n = some f) : good13 s env n w = true ↔ f.1 ≤ w.length ∧ w.length ≤ f.2.1 ∧ (∀ x ∈ w.take f.2.2, x < 2147483648) ∧ ask13 s n w f.2.2 = true := by
  unfold good13
  rw [hf]
  simp only [Bool.and_eq_true, decide_eq_true_eq, List.all_eq_true, ask13, and_assoc]

def aj13 (w : List Int) (j : Nat) : Obj := .cells #[.int .i64 (arg13 w j 0), .int .i64 (arg13 w j 1), .int .i64 (arg13 w j 2)] 87 (0, 0)

set_option maxRecDepth 100000 in
theorem x_rawl (h : KX w k s F) (env : Int) {a : Option Addr} {l c : Nat} {cs : List Int} {G : List Nat} (hw : Rd w a l 1 (u64s cs) G) (hlc : l ≤ c) (hc : l ≤ 9223372036854775807) (hcs : ∀ x ∈ cs, 0 ≤ x ∧ x < 18446744073709551616) {K : Value → World → Prop} (hK : XOut w k F (rawS13 s env cs) (rawV13 s env cs) K) :
    CallsR Tryz.prog F_exo_Kernel_Raw #[.pointer (some ⟨k, 0, none⟩), .int .i64 env, .slice a l c] w K := by
  have hwl := hw.u64
  apply R_exo_Kernel_Raw_ok
  simp only [R_exo_Kernel_Raw, Option.isNone_some, spl_false, nilK_some, addr_add, Nat.zero_add, spl_beq, spl_decide]
  have bad : ∀ {w' : World}, Mod [] w w' → rawV13 s env cs = ([], 101) ∧ rawS13 s env cs = s → K (.tuple #[.slice none 0 0, .int .i64 101]) w' := fun {w'} hm ⟨e1, e2⟩ => by
    have := hK w' F none 0 [] (by rw [e2]; exact h.mod0 hm) hm.of0 (Own.refl _ _) (by rw [e1]; exact SlB.nil w' 1) (by intro x hx; cases hx) (by intro x hx; cases hx)
    rw [e1] at this
    exact this
  obtain ⟨A, h1, rfl⟩ := h
  refine ⟨_, xc2 h1, V10.is_run (xe h1) env ⟨_, rfl, ?_⟩⟩
  rw [spl_decide]
  refine ⟨fun hin => ?_, fun hno => bad (Mod.refl _ _) (by
    cases cs with
    | nil => exact ⟨rfl, rfl⟩
    | cons n ws => exact raw_bad fun h => hno h.1)⟩
  refine ⟨fun hl => bad (Mod.refl _ _) (by
    have : cs = [] := List.eq_nil_of_length_eq_zero (by omega)
    subst this
    exact ⟨rfl, rfl⟩), fun hl => ?_⟩
  cases cs with
  | nil => simp at hwl; omega
  | cons n ws =>
  have hlen : ws.length = l - 1 := by simp at hwl; omega
  obtain ⟨ad, x, e1, hx, hcx, -, hbl⟩ := hw.u64at (k := 0) (by omega)
  subst e1
  cases hx
  rw [add_zero] at hcx
  simp only [nilK_some]
  refine ⟨⟨by omega, by omega⟩, _, hcx, ?_⟩
  refine xfind_run n fun w1 m1 => ⟨_, _, _, _, rfl, ?_⟩
  refine (Den.Sep.nil m1).new fun b19 w2 s2 m2 _ => s2.st0 0 rfl rfl fun w3 s3 m3 => ?_
  refine slK_rd hw hlc (L := 1) (H := l) (.inl rfl) (.inr ⟨rfl, rfl⟩) (by omega) (Nat.le_refl _) fun a4 G4 hr4 hG4 => ?_
  rw [u64s_drop hwl] at hr4
  have hr4 : Rd w a4 (l - 1) 1 (u64s ws) G4 := hr4
  cases hform : form13 n with
  | none =>
    rw [Option.isSome_none, spl_false]
    exact bad s3.mod (raw_bad fun h => by have := h.2; unfold good13 at this; rw [hform] at this; cases this)
  | some f =>
  have hfr : fr13 n = f := by unfold fr13; rw [hform]; rfl
  rw [hfr] at s3
  rw [Option.isSome_some, spl_true]
  obtain ⟨hpl1, hpl2⟩ := form_pl hform
  refine ⟨_, s3.cell 0 rfl rfl, fun hlo => bad s3.mod (raw_bad fun h => by have := ((good_iff hform).1 h.2).1; omega), fun hlo => ⟨_, s3.cell 0 rfl rfl, fun hhi => bad s3.mod (raw_bad fun h => by have := ((good_iff hform).1 h.2).2.1; omega), fun hhi => ?_⟩⟩
  refine s3.new fun b27 w5 s5 m5 _ => ?_
  refine ⟨_, s5.cell 1 rfl rfl, ?_⟩
  have wat : ∀ {w' : World} (i : Nat), Mod [] w w' → i < l - 1 → ∃ ad, a4 = some ad ∧ w'.cell? (Addr.add ad i) = some (.int .u64 (w13 ws i)) := fun {w'} i hm hi => by
    obtain ⟨ad, x, e1, hx, hcx, -, hbl⟩ := hr4.u64at hi
    refine ⟨ad, e1, ?_⟩
    rw [hm.cell (by rw [add_block]; exact hbl), hcx]
    unfold w13
    rw [hx]
    rfl
  have wrange : ∀ i, i < ws.length → 0 ≤ w13 ws i ∧ w13 ws i < 18446744073709551616 := fun i hi => by
    have hg : ws[i]? = some ws[i] := List.getElem?_eq_getElem hi
    unfold w13
    rw [hg]
    exact hcs _ (by simp)
  refine ⟨fun m t w' => ∃ j : Nat, t = j ∧ j ≤ f.2.2 ∧ m = f.2.2 - j ∧ (∀ i, i < j → w13 ws i < 2147483648) ∧ Den.Sep w w' [blk b27 (aj13 ws j)], ⟨f.2.2, 0, rfl, by omega, by omega, fun i hi => by omega, ?_⟩, ?_⟩
  · refine (Den.Sep.nil s3.mod).push (blk b27 (aj13 ws 0)) m5 (s5.nth 0 rfl) ?_
    intro y hy
    simp only [blk, List.mem_singleton] at hy
    subst hy
    assumption
  rintro m t - w6 ⟨j, rfl, hj, rfl, hsm, s6⟩
  refine ⟨fun hlt => ?_, fun hge => ?_⟩
  · have hjl : j < l - 1 := by omega
    obtain ⟨ad4, rfl, hcw⟩ := wat j s6.mod hjl
    simp only [nilK_some, Int.toNat_natCast]
    have hwr := wrange j (by omega)
    refine ⟨⟨by omega, by omega⟩, _, hcw, fun hbig => bad s6.mod (raw_bad fun h => ?_), fun hbig => ⟨⟨by omega, by omega⟩, _, hcw, ⟨by omega, by omega⟩, ?_⟩⟩
    · have h3 := ((good_iff hform).1 h.2).2.2.1 (w13 ws j) (by
        have hg : ws[j]? = some ws[j] := List.getElem?_eq_getElem (by omega)
        refine List.mem_of_getElem? (i := j) ?_
        rw [List.getElem?_take, if_pos (by omega), hg]
        unfold w13
        rw [hg]
        rfl)
      omega
    · rw [w64 (by omega) (by omega)]
      have hj3 : j < 3 := by omega
      refine s6.st 0 rfl (by simp; omega) fun w7 s7 m7 => ⟨f.2.2 - (j + 1), by omega, j + 1, by rw [w64 (by omega) (by omega)]; omega, by omega, rfl, fun i hi => ?_, ?_⟩
      · rcases Nat.lt_or_ge i j with h | h
        · exact hsm i h
        · obtain rfl : i = j := by omega
          omega
      · have e : (Obj.cells (splice #[Value.int .i64 (arg13 ws j 0), .int .i64 (arg13 ws j 1), .int .i64 (arg13 ws j 2)] j [.int .i64 (w13 ws j)]) 87 (0, 0)) = aj13 ws (j + 1) := by
          simp only [splice_cons, splice_nil]
          unfold aj13
          rcases j with _ | _ | _ | j
          · simp [arg13]
          · simp [arg13]
          · simp [arg13]
          · omega
        rw [← e]
        exact s7
  obtain rfl : j = f.2.2 := by omega
  refine ⟨fun ok w' => ok = ask13 s n ws f.2.2 ∧ Den.Sep w w' [blk b27 (aj13 ws f.2.2)], ?_, ?_⟩
  · rintro ok - w7 ⟨rfl, s7⟩
    have hgood : ask13 s n ws f.2.2 = true → good13 s env n ws = true := fun h => (good_iff hform).2 ⟨by omega, by omega, fun x hx => by
      obtain ⟨i, hi⟩ := List.getElem?_of_mem hx
      have hil := (List.getElem?_eq_some_iff.1 hi).1
      rw [List.length_take] at hil
      rw [List.getElem?_take, if_pos (by omega)] at hi
      have := hsm i (by omega)
      unfold w13 at this
      rw [hi] at this
      exact this, h⟩
    refine spl_of (fun hok => ?_) (fun hok => bad s7.mod (raw_bad fun h => by have := ((good_iff hform).1 h.2).2.2.2; rw [hok] at this; cases this))
    obtain ⟨eV, eS⟩ := raw_good (s := s) ⟨hin, hgood hok⟩
    rw [drK_eq]
    have s8 := s7.mod0 ((Mod.refl [] w7).drew)
    generalize w7.drew = w8 at s8 ⊢
    refine ⟨[ad.block, b27], ⟨by omega, by omega⟩, by simp, _, by rw [s8.mod.cell hbl]; exact hcx, by simp, _, _, _, ⟨s8.cell 0 rfl rfl, s8.cell 0 rfl rfl, s8.cell 0 rfl rfl⟩, ?_⟩
    have hk8 : KX w8 k s (PF (xparts k A s)) := ⟨A, h1.mod0 s8.mod, rfl⟩
    rw [eV, eS] at hK
    refine x_do hk8 env n _ _ _ (hr4.keep (s8.mod.at0 hr4.lt)) (by omega) (by omega) (fun x hx => hcs x (by simp [hx])) hform (by omega) (by omega) (fun h => if_pos (by omega)) (fun h => if_pos (by omega)) (fun h => if_pos (by omega)) fun w9 F9 a9 c9 G9 z1 z2 z3 hs9 hG9 hD9 => ⟨_, _, _, _, rfl, ?_⟩
    exact hK w9 F9 a9 c9 G9 z1 (s8.mod.of0.trans' z2) (fun x hx => (z3 x hx).imp id fun h => Nat.le_trans s8.mod.size h) hs9 (fun x hx => Nat.le_trans s8.mod.size (hG9 x hx)) hD9
  have s7 := s6.mod0 ((Mod.refl [] w6).drew)
  have hk7 := h1.mod0 s7.mod
  have hcn : w6.cell? ad = some (.int .u64 n) := by rw [s6.mod.cell hbl]; exact hcx
  refine ⟨⟨by omega, by omega⟩, _, hcn, fun hn1 => ?_, fun hn1 => ⟨fun hn14 => ?_, fun hn14 => ⟨fun hn4 => ?_, fun hn4 => ⟨fun hn11 => ?_, fun hn11 => ?_⟩⟩⟩⟩
  · rw [drK_eq]
    refine ⟨_, xc2 hk7, ⟨by omega, by omega⟩, _, s7.cell 0 rfl rfl, V10.is_run (xe hk7) _ ⟨_, rfl, ?_, s7⟩⟩
    unfold ask13
    rw [if_pos (.inl hn1)]
  · rw [drK_eq]
    refine ⟨_, xc2 hk7, ⟨by omega, by omega⟩, _, s7.cell 0 rfl rfl, V10.is_run (xe hk7) _ ⟨_, rfl, ?_, s7⟩⟩
    unfold ask13
    rw [if_pos (.inr hn14)]
  · refine ⟨⟨by omega, by omega⟩, _, s6.cell 0 rfl rfl, ?_, s6⟩
    unfold ask13
    rw [if_neg (by omega), if_pos hn4]
  · rw [drK_eq]
    refine ⟨_, xc2 hk7, ⟨by omega, by omega⟩, _, s7.cell 0 rfl rfl, V10.is_run (xe hk7) _ ⟨_, rfl, ?_, s7⟩⟩
    unfold ask13
    rw [if_neg (by omega), if_neg hn4, if_pos hn11]
  · refine ⟨?_, s6⟩
    unfold ask13
    rw [if_neg (by omega), if_neg hn4, if_neg hn11]
theorem x_raw (h : KX w k s F) (env : Int) {a : Option Addr} {l c : Nat} {cs : List Int} {G : List Nat} (hw : Rd w a l 1 (u64s cs) G) (hlc : l ≤ c) (hc : c ≤ 9223372036854775807) (hcs : ∀ x ∈ cs, 0 ≤ x ∧ x < 18446744073709551616) {K : Value → World → Prop} (hK : XOut w k F (rawS13 s env cs) (rawV13 s env cs) K) :
    CallsR Tryz.prog F_exo_Kernel_Raw #[.pointer (some ⟨k, 0, none⟩), .int .i64 env, .slice a l c] w K := x_rawl h env hw hlc (Nat.le_trans hlc hc) hcs hK
end

end Go.Proofs

set_option linter.unusedSimpArgs false
namespace Go.Proofs
open Go Go.Den

/-- The kernel; a row of one's own of words; variables. -/
def SeeI (w w' : World) (k : Nat) (s : S13) (F : List Nat) (l : List Part) (out : List Int) (A : Option Addr) (L C : Nat) : Prop :=
  ∃ G F', Prts w' (l ++ [kxPart k s F', sl A L C 1 (u64s out) G]) ∧ Mod F w w' ∧ Own w F F' ∧ Beyond w.heap.size G ∧ Beyond w.heap.size (PF l)

section
variable {w w' w2 : World} {k : Nat} {s : S13} {F : List Nat} {l : List Part} {out : List Int} {A : Option Addr} {L C : Nat}

theorem app_at0 (l : List Part) (a b : Part) : (l ++ [a, b])[l.length]? = some a := by simp
theorem app_at1 (l : List Part) (a b : Part) : (l ++ [a, b])[l.length + 1]? = some b := by simp
theorem app_set0 (l : List Part) (a b a' : Part) : (l ++ [a, b]).set l.length a' = l ++ [a', b] := by simp
theorem app_set1 (l : List Part) (a b b' : Part) : (l ++ [a, b]).set (l.length + 1) b' = l ++ [a, b'] := by
  rw [List.set_append_right _ _ (by omega)]
  simp

theorem SeeI.mod0 (h : SeeI w w' k s F l out A L C) (hm : Mod [] w' w2) : SeeI w w2 k s F l out A L C := by
  obtain ⟨G, F', h1, h2, h3, h4, h5⟩ := h
  exact ⟨G, F', h1.mod0 hm, h2.trans' hm.of0, h3, h4, h5⟩
theorem SeeI.len (h : SeeI w w' k s F l out A L C) : out.length = L := by
  obtain ⟨G, F', h1, -⟩ := h
  exact (h1.nth (app_at1 _ _ _) : SlB w' A L C 1 (u64s out) G).u64
theorem SeeI.kx (h : SeeI w w' k s F l out A L C) : ∃ X, Prts w' (xparts k X s) := by
  obtain ⟨G, F', h1, -⟩ := h
  obtain ⟨X, h2, -⟩ := (h1.nth (app_at0 _ _ _) : KX w' k s F')
  exact ⟨X, h2⟩
theorem SeeI.new (h : SeeI w w' k s F [] out A L C) {o : Obj} {K : Nat → World → Prop} (hK : ∀ (b : Nat) (w2 : World), SeeI w w2 k s F [blk b o] out A L C → Mod [] w' w2 → w'.heap.size ≤ b → K b w2) : newK w' o K := by
  obtain ⟨G, F', h1, h2, h3, h4, h5⟩ := h
  rw [newK_eq]
  have hm : Mod [] w' (w'.alloc o) := (Mod.refl [] w').alloc o
  have hb : (w'.alloc o).heap[w'.heap.size]? = some o := alloc_new w' o
  refine hK _ _ ⟨G, F', (h1.mod0 hm).cons (p := blk w'.heap.size o) hb fun x hx hx2 => ?_, h2.trans' hm.of0, h3, h4, fun x hx => ?_⟩ hm (Nat.le_refl _)
  · simp only [blk, List.mem_singleton] at hx
    have := h1.lt x hx2
    omega
  · simp only [PF, blk, List.map_cons, List.map_nil, List.flatten_cons, List.flatten_nil, List.append_nil, List.mem_singleton] at hx
    have := h2.size
    omega
theorem SeeI.pop {p : Part} (h : SeeI w w' k s F [p] out A L C) : SeeI w w' k s F [] out A L C := by
  obtain ⟨G, F', h1, h2, h3, h4, h5⟩ := h
  refine ⟨G, F', ⟨fun {i q} hi => h1.nth (i := i + 1) hi, fun {i j q r} hij hi hj => h1.dj (i := i + 1) (j := j + 1) (by omega) hi hj⟩, h2, h3, h4, (by intro x hx; cases hx)⟩
theorem SeeI.st0 {b : Nat} {arr : Array Value} {T : TypeId} (h : SeeI w w' k s F [blk b (.cells arr T (0, 0))] out A L C) {vs : List Value} {K : World → Prop} (hl : vs.length = arr.size)
    (hK : ∀ w2, SeeI w w2 k s F [blk b (.cells vs.toArray T (0, 0))] out A L C → Mod [b] w' w2 → K w2) : stK ⟨b, 0, none⟩ vs w' K := by
  obtain ⟨G, F', h1, h2, h3, h4, h5⟩ := h
  have hb : w'.heap[b]? = some (.cells arr T (0, 0)) := h1.nth (i := 0) rfl
  refine stK_of hb (by omega) ?_
  have e : splice arr 0 vs = vs.toArray := by
    have := splice_all vs [] arr.toList (by simpa using hl)
    simpa using this
  rw [e]
  have hm : Mod [b] w' (w'.upd b (.cells vs.toArray T (0, 0))) := (Mod.refl _ _).upd (.inl (by simp)) _
  have := h1.step 0 rfl (blk b (.cells vs.toArray T (0, 0))) (upd_same hb) hm (Own.refl _ _)
  refine hK _ ⟨G, F', this.1, h2.trans hm fun x hx hlt => ?_, h3, h4, h5⟩ hm
  simp only [List.mem_singleton] at hx
  have := h5 x (by simp [PF, blk, hx])
  omega
theorem SeeI.cell {b off : Nat} {arr : Array Value} {T : TypeId} {v : Value} (h : SeeI w w' k s F [blk b (.cells arr T (0, 0))] out A L C) (hv : arr[off]? = some v) : w'.cell? ⟨b, off, none⟩ = some v := by
  obtain ⟨G, F', h1, -⟩ := h
  have hb : w'.heap[b]? = some (.cells arr T (0, 0)) := h1.nth (i := 0) rfl
  rw [cell_get hb]
  exact hv
theorem SeeI.row {G : List Nat} {A' : Option Addr} {L' C' : Nat} {out' : List Int} (h : SeeI w w' k s F l out A L C) (hG : ∀ G, SlB w' A L C 1 (u64s out) G → ∃ G', SlB w2 A' L' C' 1 (u64s out') G' ∧ Mod G w' w2 ∧ Own w' G G') : SeeI w w2 k s F l out' A' L' C' := by
  obtain ⟨G, F', h1, h2, h3, h4, h5⟩ := h
  obtain ⟨G', g1, g2, g3⟩ := hG G (h1.nth (app_at1 _ _ _))
  have := h1.step (l.length + 1) (app_at1 _ _ _) (sl A' L' C' 1 (u64s out') G') g1 g2 g3
  rw [app_set1] at this
  exact ⟨G', F', this.1, h2.trans g2 fun x hx hlt => absurd (h4 x hx) (by omega), h3, h4.own g3 h2.size, h5⟩
theorem SeeI.push (h : SeeI w w' k s F l out A L C) {us : List Int} {n : Nat} (hn : us.length = n) (hL : L + n ≤ 100000000) {T ty : TypeId} {K : Value → World → Prop} (hK : ∀ A' C' w2, SeeI w w2 k s F l (out ++ us) A' (L + n) C' → K (.slice A' (L + n) C') w2) :
    runK ((Builtin.append_ #[27, 27] ty #[.slice A L C, .slice (some ⟨w'.heap.size, 0, none⟩) n n]).run Tryz.prog (w'.alloc (.cells (u64s us).toArray T))) K := by
  have h0 := h
  obtain ⟨G, F', h1, h2, h3, h4, h5⟩ := h
  have hs : SlB w' A L C 1 (u64s out) G := h1.nth (app_at1 _ _ _)
  refine grow_K slT_u64 (by decide) hs (us := u64s us) (n := n) (by rw [u64s_length, hn, Nat.mul_one]) (u64s_cell us) (by omega) (by omega) fun A' C' w2 G' hs2 m2 o2 => hK A' C' w2 ?_
  rw [← u64s_append] at hs2
  have := h1.step (l.length + 1) (app_at1 _ _ _) (sl A' (L + n) C' 1 (u64s (out ++ us)) G') hs2 m2 o2
  rw [app_set1] at this
  exact ⟨G', F', this.1, h2.trans m2 fun x hx hlt => absurd (h4 x hx) (by omega), h3, h4.own o2 h2.size, h5⟩
theorem SeeI.push_rd (h : SeeI w w' k s F l out A L C) {us : List Int} {a2 : Option Addr} {l2 c2 : Nat} {H : List Nat} (hx : Rd w' a2 l2 1 (u64s us) H) (hL : L + l2 ≤ 100000000) {ty : TypeId} {K : Value → World → Prop} (hK : ∀ A' C' w2, SeeI w w2 k s F l (out ++ us) A' (L + l2) C' → K (.slice A' (L + l2) C') w2) :
    runK ((Builtin.append_ #[27, 27] ty #[.slice A L C, .slice a2 l2 c2]).run Tryz.prog w') K := by
  obtain ⟨G, F', h1, h2, h3, h4, h5⟩ := h
  have hs : SlB w' A L C 1 (u64s out) G := h1.nth (app_at1 _ _ _)
  refine grow_rd_K slT_u64 (by decide) hs hx (u64s_cell us) (by omega) (by omega) fun A' C' w2 G' hs2 m2 o2 => hK A' C' w2 ?_
  rw [← u64s_append] at hs2
  have := h1.step (l.length + 1) (app_at1 _ _ _) (sl A' (L + l2) C' 1 (u64s (out ++ us)) G') hs2 m2 o2
  rw [app_set1] at this
  exact ⟨G', F', this.1, h2.trans m2 fun x hx hlt => absurd (h4 x hx) (by omega), h3, h4.own o2 h2.size, h5⟩
/-- A block's words. -/
theorem SeeI.look (h : SeeI w w' k s F l out A L C) (b : Int) {K : Value → World → Prop} (hK : ∀ w2 a c G, SeeI w w2 k s F l out A L C → SlB w2 a (look12 s.d b).length c 1 (u64s (look12 s.d b)) G → K (.slice a (look12 s.d b).length c) w2) :
    ∃ x : Option Addr, w'.cell? ⟨k, 1, none⟩ = some (.pointer x) ∧ CallsR Tryz.prog F_exodisk_Kernel_Look #[.pointer x, .int .i64 b] w' K := by
  obtain ⟨G, F', h1, h2, h3, h4, h5⟩ := h
  obtain ⟨X, g1, rfl⟩ := (h1.nth (app_at0 _ _ _) : KX w' k s F')
  refine ⟨_, xc1 g1, kp12_look (xd g1) b fun w2 a c G2 g2 m2 hs hG => ?_⟩
  obtain ⟨F2, z1, z2, z3, -⟩ := x_d g1 g2 m2 (Own.refl _ _)
  have := h1.step l.length (app_at0 _ _ _) (kxPart k s F2) z1 z2 z3
  rw [app_set0] at this
  refine hK w2 a c G2 ⟨G, F2, this.1, h2.trans z2 fun x hx hlt => (h3 x hx).resolve_right (by omega), fun x hx => ?_, h4, h5⟩ hs
  rcases z3 x hx with h | h
  · exact h3 x h
  · exact .inr (Nat.le_trans h2.size h)
end

end Go.Proofs

set_option linter.unusedSimpArgs false
namespace Go.Proofs
open Go Go.Den

theorem flat_le {f : Nat → List Int} {c : Nat} (h : ∀ i, (f i).length ≤ c) : ∀ j, ((List.range j).flatMap f).length ≤ c * j
  | 0 => by simp
  | j + 1 => by
    have := flat_le h j
    have := h j
    rw [List.range_succ, List.flatMap_append, List.length_append, Nat.mul_succ]
    simp only [List.flatMap_cons, List.flatMap_nil, List.append_nil]
    omega
theorem flat_succ (f : Nat → List Int) (j : Nat) : (List.range (j + 1)).flatMap f = (List.range j).flatMap f ++ f j := by
  rw [List.range_succ, List.flatMap_append]
  simp
theorem look12_le {s : S12} (h : T12 s) (b : Int) : (look12 s b).length ≤ 32 := by
  unfold look12
  split
  · rename_i hi; rw [h.row b hi]; exact Nat.le_refl _
  · split
    · rename_i hd; rw [row12_32 h.all hd]; exact Nat.le_refl _
    · exact Nat.zero_le _
theorem pageW_le {m : List (List Int)} (h : All32 m) (f : Int) : (pageW13 m f).length ≤ 32 := by
  unfold pageW13
  split
  · rename_i hd
    have : row9 m f = row12 m f := rfl
    rw [this, row12_32 h hd]
    exact Nat.le_refl _
  · exact Nat.zero_le _

section
variable {w : World} {k : Nat} {s : S13} {F : List Nat}

set_option maxRecDepth 100000 in
set_option maxHeartbeats 1000000 in
theorem x_sees (h : KX w k s F) (env : Int) {K : Value → World → Prop} (hK : ∀ w' F' a c G, KX w' k s F' → Mod F w w' → Own w F F' → SlB w' a (sees13 s env).length c 1 (u64s (sees13 s env)) G → Beyond w.heap.size G → (∀ x ∈ G, x ∉ F') → K (.slice a (sees13 s env).length c) w') :
    CallsR Tryz.prog F_exo_Kernel_Sees #[.pointer (some ⟨k, 0, none⟩), .int .i64 env] w K := by
  have hkx := h
  obtain ⟨A, h1, rfl⟩ := h
  obtain ⟨F0, hF0⟩ : ∃ F0, F0 = PF (xparts k A s) := ⟨_, rfl⟩
  rw [← hF0] at hK hkx
  have hT12 : T12 s.d := (xd h1).t
  have hW12 : W8 s.d.c := (xd h1).w8
  have hall : All32 s.m.m := by
    obtain ⟨-, B, h2, -⟩ := xm h1
    obtain ⟨_, _, _, _, _, _, h3, _⟩ := kmem h2
    exact h3
  have hq4 : (s.q env).length ≤ 4 := ((xq h1).ok).2 env
  have hcl : ∀ j, (capsW13 s env j).length ≤ 35 := fun j => by
    unfold capsW13
    split
    · simp
    · rename_i c _
      have := pageW_le hall c.x.i
      simp only [List.length_append, List.length_cons, List.length_nil]
      omega
  have hpl : ∀ j, (pagesW13 s env j).length ≤ 3 := fun j => by
    unfold pagesW13
    split <;> simp
  have hnx : ∀ (sl : Int) c, look8 s.d.c.L env sl = some c → 0 ≤ c.x.i ∧ c.x.i + c.x.n ≤ 1024 := fun sl c hc => by
    have hm := (look8_some hc).1
    have h1 := hT12.cap c hm
    obtain ⟨-, h2, -⟩ := (hW12.in_ c hm).2.2.2.1
    have := hT12.le
    omega
  have hel : ∀ j, (extW13 s env j).length ≤ 32772 := fun j => by
    unfold extW13
    split
    · simp
    · rename_i c hc
      have h1 := hnx _ c hc
      have h2 := flat_le (f := fun b => look12 s.d (c.x.i + (b : Nat))) (c := 32) (fun b => look12_le hT12 _) c.x.n.toNat
      have h3 : c.x.n.toNat ≤ 1024 := by omega
      simp only [List.length_append, List.length_cons, List.length_nil]
      have : 32 * c.x.n.toNat ≤ 32 * 1024 := Nat.mul_le_mul_left _ h3
      omega
  obtain ⟨o1, ho1⟩ : ∃ o1 : Nat → List Int, ∀ j, o1 j = 1 :: (List.range j).flatMap (capsW13 s env) := ⟨_, fun _ => rfl⟩
  obtain ⟨o2, ho2⟩ : ∃ o2 : Nat → List Int, ∀ j, o2 j = o1 64 ++ (List.range j).flatMap (pagesW13 s env) := ⟨_, fun _ => rfl⟩
  obtain ⟨o3, ho3⟩ : ∃ o3 : Nat → List Int, ∀ j, o3 j = o2 4 ++ (List.range j).flatMap (extW13 s env) := ⟨_, fun _ => rfl⟩
  have l1 : ∀ j, (o1 j).length ≤ 1 + 35 * j := fun j => by rw [ho1, List.length_cons]; have := flat_le hcl j; omega
  have l2 : ∀ j, (o2 j).length ≤ 2241 + 3 * j := fun j => by rw [ho2, List.length_append]; have := flat_le hpl j; have := l1 64; omega
  have l3 : ∀ j, (o3 j).length ≤ 2253 + 32772 * j := fun j => by rw [ho3, List.length_append]; have := flat_le hel j; have := l2 4; omega
  apply R_exo_Kernel_Sees_ok
  simp only [R_exo_Kernel_Sees, Option.isNone_some, spl_false, nilK_some, addr_add, Nat.zero_add, spl_decide]
  refine ⟨_, xc2 h1, V10.is_run (xe h1) env ⟨_, rfl, ?_⟩⟩
  rw [spl_decide]
  refine ⟨fun hin => ?_, fun hno => ?_⟩
  rotate_left
  · have e : sees13 s env = [] := if_neg hno
    rw [e] at hK
    exact hK w F0 none 0 [] hkx (Mod.refl _ _) (Own.refl _ _) (SlB.nil w 1) (by intro x hx; cases hx) (by intro x hx; cases hx)
  rw [newK_eq]
  have m0 : Mod [] w (w.alloc (.cells (u64s [1]).toArray 42)) := (Mod.refl _ _).alloc _
  have hs0 := SlB.new w (u64s [1]) 42 (l := 1) (sz := 1) rfl
  have i0 : SeeI w (w.alloc (.cells (u64s [1]).toArray 42)) k s F0 [] (o1 0) (some ⟨w.heap.size, 0, none⟩) 1 1 := by
    rw [ho1]
    refine ⟨[w.heap.size], F0, ((Prts.nil _).cons (p := sl (some ⟨w.heap.size, 0, none⟩) 1 1 1 (u64s [1]) [w.heap.size]) hs0 (by simp [PF])).cons (p := kxPart k s F0) (hkx.mod0 m0) (fun x hx hx2 => ?_), m0.of0, Own.refl _ _, (by intro x hx; simp only [List.mem_singleton] at hx; omega), (by intro x hx; cases hx)⟩
    have := hkx.lt x hx
    simp [PF, sl] at hx2
    omega
  refine ⟨fun n A L C s13 w' => ∃ j : Nat, s13 = (j : Int) + 1 ∧ j ≤ 64 ∧ n = 64 - j ∧ SeeI w w' k s F0 [] (o1 j) A L C, ⟨64, 0, rfl, by omega, by omega, i0⟩, ?_⟩
  clear i0 hs0 m0
  rintro n A1 L1 C1 s13 - w1 ⟨j, rfl, hj, rfl, i1⟩
  refine ⟨fun hlt => ?_, fun hge => ?_⟩
  · refine ⟨fun A L C w' => SeeI w w' k s F0 [] (o1 (j + 1)) A L C, fun A L C _ w' hj => ⟨64 - (j + 1), by omega, j + 1, by rw [w64 (by omega) (by omega)]; omega, by omega, rfl, hj⟩, ?_⟩
    have hl := i1.len
    have hb := l1 j
    have eo : o1 (j + 1) = o1 j ++ capsW13 s env j := by rw [ho1, ho1, flat_succ]; rfl
    obtain ⟨X, g1⟩ := i1.kx
    refine ⟨_, xc0 g1, kp_cap (xm g1) env _ fun w2 m2 => ⟨_, _, _, _, _, rfl, ?_⟩⟩
    refine (i1.mod0 m2).new fun b w3 i3 m3 _ => i3.st0 rfl fun w4 i4 m4 => ?_
    cases hlk : look8 s.m.c.L env ((j : Int) + 1) with
    | none =>
      have eV : (getV8 s.m.c.L env ((j : Int) + 1)).2 = false := by unfold getV8; rw [hlk]
      rw [eV, spl_false, eo]
      have e : capsW13 s env j = [] := by unfold capsW13; rw [hlk]
      rw [e, List.append_nil]
      exact i4.pop
    | some c =>
      have eV : getV8 s.m.c.L env ((j : Int) + 1) = (c.x, true) := by unfold getV8; rw [hlk]
      rw [eV] at i4 ⊢
      dsimp only at i4 ⊢
      rw [spl_true]
      refine ⟨_, i4.cell rfl, _, i4.cell rfl, ?_⟩
      rw [newK_eq, wu64 (n := (j : Int) + 1) (by omega) (by omega)]
      refine i4.push (us := [(j : Int) + 1, IntKind.u64.wrap c.x.i, IntKind.u64.wrap c.x.r]) (n := 3) rfl (by omega) fun A5 C5 w5 i5 => ⟨_, _, _, rfl, ?_⟩
      rw [drK_eq]
      have i6 := i5.mod0 ((Mod.refl [] w5).drew)
      generalize w5.drew = w6 at i6 ⊢
      obtain ⟨X6, g6⟩ := i6.kx
      refine ⟨[k, b], by simp, _, xc0 g6, by simp, _, i6.cell rfl, ?_⟩
      refine kp_words (xm g6) _ fun w7 a7 c7 G7 hs7 _ m7 => ⟨_, _, _, rfl, ?_⟩
      have hp := pageW_le hall c.x.i
      refine (i6.mod0 m7).push_rd hs7.rd (by omega) fun A8 C8 w8 i8 => ⟨_, _, _, rfl, ?_⟩
      have e : capsW13 s env j = [(j : Int) + 1, IntKind.u64.wrap c.x.i, IntKind.u64.wrap c.x.r] ++ pageW13 s.m.m c.x.i := by unfold capsW13; rw [hlk]
      rw [eo, e, ← List.append_assoc]
      exact i8.pop
  obtain rfl : j = 64 := by omega
  refine ⟨fun n A L C t w' => ∃ j : Nat, t = j ∧ j ≤ 4 ∧ n = 4 - j ∧ SeeI w w' k s F0 [] (o2 j) A L C, ⟨4, 0, rfl, by omega, by omega, by rw [ho2]; simpa using i1⟩, ?_⟩
  clear i1
  rintro n A1 L1 C1 t - w1 ⟨j, rfl, hj, rfl, i1⟩
  refine ⟨fun hlt => ?_, fun hge => ?_⟩
  · refine ⟨fun A L C w' => SeeI w w' k s F0 [] (o2 (j + 1)) A L C, fun A L C _ w' hj => ⟨4 - (j + 1), by omega, j + 1, by rw [w64 (by omega) (by omega)]; omega, by omega, rfl, hj⟩, ?_⟩
    have hl := i1.len
    have hb := l2 j
    have eo : o2 (j + 1) = o2 j ++ pagesW13 s env j := by rw [ho2, ho2, flat_succ, List.append_assoc]
    obtain ⟨X, g1⟩ := i1.kx
    refine ⟨_, xc0 g1, kp_page (xm g1) env _ fun w2 m2 => ⟨_, _, _, rfl, ?_⟩⟩
    refine (i1.mod0 m2).new fun b w3 i3 m3 _ => i3.st0 rfl fun w4 i4 m4 => ?_
    cases hlk : pageT s.m env (j : Int) with
    | none =>
      rw [Option.isSome_none, spl_false, eo]
      have e : pagesW13 s env j = [] := by unfold pagesW13; rw [hlk]
      rw [e, List.append_nil]
      exact i4.pop
    | some x =>
      rw [hlk] at i4
      rw [Option.isSome_some, spl_true]
      refine ⟨fun wv w' => wv = (if x.2 then 1 else 0) ∧ SeeI w w' k s F0 [blk b (.cells #[.int .i64 x.1, .bool x.2] 50 (0, 0))] (o2 j) A1 L1 C1, ?_, ?_⟩
      · rintro wv - w5 ⟨rfl, i5⟩
        refine ⟨_, i5.cell rfl, ?_⟩
        rw [newK_eq, wu64 (n := (j : Int)) (by omega) (by omega)]
        refine i5.push (us := [(j : Int), IntKind.u64.wrap x.1, if x.2 then 1 else 0]) (n := 3) rfl (by omega) fun A5 C5 w6 i6 => ⟨_, _, _, rfl, ?_⟩
        have e : pagesW13 s env j = [(j : Int), IntKind.u64.wrap x.1, if x.2 then 1 else 0] := by unfold pagesW13; rw [hlk]
        rw [eo, e]
        exact i6.pop
      · refine ⟨x.2, i4.cell rfl, ?_⟩
        exact spl_of (fun hx => ⟨by rw [hx]; rfl, i4⟩) (fun hx => ⟨by rw [hx]; rfl, i4⟩)
  obtain rfl : j = 4 := by omega
  refine ⟨fun n A L C s13 w' => ∃ j : Nat, s13 = (j : Int) + 1 ∧ j ≤ 64 ∧ n = 64 - j ∧ SeeI w w' k s F0 [] (o3 j) A L C, ⟨64, 0, rfl, by omega, by omega, by rw [ho3]; simpa using i1⟩, ?_⟩
  clear i1
  rintro n A1 L1 C1 s13 - w1 ⟨j, rfl, hj, rfl, i1⟩
  have hl := i1.len
  have hb := l3 j
  have hb2 : 32772 * j ≤ 32772 * 64 := Nat.mul_le_mul_left _ hj
  refine ⟨fun hlt => ?_, fun hge => ?_⟩
  · refine ⟨fun A L C w' => SeeI w w' k s F0 [] (o3 (j + 1)) A L C, fun A L C _ w' hj => ⟨64 - (j + 1), by omega, j + 1, by rw [w64 (by omega) (by omega)]; omega, by omega, rfl, hj⟩, ?_⟩
    have eo : o3 (j + 1) = o3 j ++ extW13 s env j := by rw [ho3, ho3, flat_succ, List.append_assoc]
    obtain ⟨X, g1⟩ := i1.kx
    refine ⟨_, xc1 g1, kp12_cap (xd g1) env _ fun w2 m2 => ⟨_, _, _, _, _, rfl, ?_⟩⟩
    refine (i1.mod0 m2).new fun b w3 i3 m3 _ => i3.st0 rfl fun w4 i4 m4 => ?_
    cases hlk : look8 s.d.c.L env ((j : Int) + 1) with
    | none =>
      have eV : (getV8 s.d.c.L env ((j : Int) + 1)).2 = false := by unfold getV8; rw [hlk]
      rw [eV, spl_false, eo]
      have e : extW13 s env j = [] := by unfold extW13; rw [hlk]
      rw [e, List.append_nil]
      exact i4.pop
    | some c =>
      have eV : getV8 s.d.c.L env ((j : Int) + 1) = (c.x, true) := by unfold getV8; rw [hlk]
      rw [eV] at i4 ⊢
      dsimp only at i4 ⊢
      rw [spl_true]
      obtain ⟨hi0, hin1⟩ := hnx _ c hlk
      refine ⟨_, i4.cell rfl, _, i4.cell rfl, _, i4.cell rfl, ?_⟩
      rw [newK_eq, wu64 (n := (j : Int) + 1) (by omega) (by omega)]
      refine i4.push (us := [(j : Int) + 1, IntKind.u64.wrap c.x.i, IntKind.u64.wrap c.x.n, IntKind.u64.wrap c.x.r]) (n := 4) rfl (by omega) fun A5 C5 w5 i5 => ⟨_, _, _, rfl, _, i5.cell rfl, ?_⟩
      obtain ⟨o4, ho4⟩ : ∃ o4 : Nat → List Int, ∀ t, o4 t = o3 j ++ [(j : Int) + 1, IntKind.u64.wrap c.x.i, IntKind.u64.wrap c.x.n, IntKind.u64.wrap c.x.r] ++ (List.range t).flatMap fun b => look12 s.d (c.x.i + (b : Nat)) := ⟨_, fun _ => rfl⟩
      have l4 : ∀ t, (o4 t).length ≤ (o3 j).length + 4 + 32 * t := fun t => by
        rw [ho4, List.length_append, List.length_append]
        have := flat_le (f := fun b => look12 s.d (c.x.i + (b : Nat))) (c := 32) (fun b => look12_le hT12 _) t
        simp only [List.length_cons, List.length_nil]
        omega
      refine ⟨fun n A L C t w' => ∃ q : Nat, t = q ∧ q ≤ c.x.n.toNat ∧ n = c.x.n.toNat - q ∧ SeeI w w' k s F0 [blk b (.cells #[.int .i64 c.x.k, .int .i64 c.x.i, .int .i64 c.x.n, .int .i64 c.x.r] 93 (0, 0))] (o4 q) A L C, ⟨c.x.n.toNat, 0, rfl, by omega, by omega, by rw [ho4]; simpa using i5⟩, ?_⟩
      rintro n A6 L6 C6 t - w6 ⟨q, rfl, hq, rfl, i6⟩
      have hl6 := i6.len
      have hb6 := l4 q
      refine ⟨fun hlt2 => ?_, fun hge2 => ?_⟩
      · rw [drK_eq]
        have i7 := i6.mod0 ((Mod.refl [] w6).drew)
        generalize w6.drew = w7 at i7 ⊢
        obtain ⟨xp, hxp, hlook⟩ := i7.look (c.x.i + (q : Int)) (K := fun v w8 => ∃ rA145 : Option Addr, ∃ rL146 : Nat, ∃ rC147 : Nat, v = .slice rA145 rL146 rC147 ∧ (runK ((Builtin.append_ #[27, 27] 27 #[.slice A6 L6 C6, .slice rA145 rL146 rC147]).run Tryz.prog w8) fun v148 w149 => ∃ xA150 : Option Addr, ∃ xL151 : Nat, ∃ xC152 : Nat, v148 = .slice xA150 xL151 xC152 ∧ (∃ m137, m137 < c.x.n.toNat - q ∧ ∃ q' : Nat, IntKind.i64.wrap ((q : Int) + 1) = q' ∧ q' ≤ c.x.n.toNat ∧ m137 = c.x.n.toNat - q' ∧ SeeI w w149 k s F0 [blk b (.cells #[.int .i64 c.x.k, .int .i64 c.x.i, .int .i64 c.x.n, .int .i64 c.x.r] 93 (0, 0))] (o4 q') xA150 xL151 xC152))) fun w8 a8 c8 G8 i8 hs8 => ⟨_, _, _, rfl, by
            have hk := look12_le hT12 (c.x.i + (q : Int))
            refine i8.push_rd hs8.rd (by omega) fun A9 C9 w9 i9 => ⟨_, _, _, rfl, c.x.n.toNat - (q + 1), by omega, q + 1, by rw [w64 (by omega) (by omega)]; omega, by omega, rfl, ?_⟩
            have e : o4 (q + 1) = o4 q ++ look12 s.d (c.x.i + (q : Int)) := by rw [ho4, ho4, flat_succ, List.append_assoc _ _ (look12 s.d _)]
            rw [e]
            exact i9⟩
        refine ⟨[k, b], by simp, xp, hxp, by simp, _, i7.cell rfl, ?_⟩
        rw [w64 (n := c.x.i + (q : Int)) (by omega) (by omega)]
        exact hlook
      · obtain rfl : q = c.x.n.toNat := by omega
        have e : extW13 s env j = [(j : Int) + 1, IntKind.u64.wrap c.x.i, IntKind.u64.wrap c.x.n, IntKind.u64.wrap c.x.r] ++ (List.range c.x.n.toNat).flatMap fun b => look12 s.d (c.x.i + (b : Nat)) := by unfold extW13; rw [hlk]
        rw [eo, e, ← List.append_assoc, ← ho4]
        exact i6.pop
  · obtain rfl : j = 64 := by omega
    obtain ⟨X, g1⟩ := i1.kx
    refine ⟨_, xc3 g1, V11.ipc_waiting (xq g1) env fun w2 m2 => ⟨_, rfl, ?_⟩⟩
    rw [newK_eq, wu64 (by omega) (by omega)]
    refine (i1.mod0 m2).push (us := [((s.q env).length : Int)]) (n := 1) rfl (by omega) fun A3 C3 w3 i3 => ⟨_, _, _, rfl, ?_⟩
    have e : sees13 s env = o3 64 ++ [((s.q env).length : Int)] := by
      unfold sees13
      rw [if_pos hin, ho3, ho2, ho1]
      simp only [List.cons_append, List.append_assoc]
    rw [← e] at i3
    have hl3 := i3.len
    rw [← hl3] at i3 ⊢
    obtain ⟨G, F', z1, z2, z3, z4, -⟩ := i3
    exact hK w3 F' A3 C3 G (z1.nth (i := 0) rfl) z2 z3 (z1.nth (i := 1) rfl) z4 fun x hx hx2 => z1.dj (i := 1) (j := 0) (by decide) rfl rfl x hx hx2
end

end Go.Proofs
