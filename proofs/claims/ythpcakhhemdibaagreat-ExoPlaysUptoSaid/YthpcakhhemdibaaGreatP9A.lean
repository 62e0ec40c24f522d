/-
  exomem: the program's kernel in the heap; contracts of what only reads.
  exomem: contracts of the program's kernel: what acts.
  exomem: contracts of the program's kernel: tidy, and what is built on it; pages, words.
  exomem: contracts of the program: a page; a capability; a frame's words.
  exomem: a new kernel, the program's and the reference's.
-/
import Derived.Test.YthpcakhhemdibaaGreatK9A
import Derived.Test.YthpcakhhemdibaaGreatCapsA
import Derived.Test.YthpcakhhemdibaaGreatMemA
import Derived.Test.YthpcakhhemdibaaGreatPCapsA
set_option linter.unusedVariables false
set_option linter.unusedSimpArgs false
namespace Go.Proofs
open Go Go.Den

/-- Where the parts of a kernel lie. -/
structure KA where
  pm : Nat
  pc : Nat
  q : Nat → Nat
  T : TypeId
  Fm : List Nat
  Fc : List Nat
  Ft : Nat → List Nat

def kobj (A : KA) : Obj := .cells ((.pointer (some ⟨A.pm, 0, none⟩) :: .pointer (some ⟨A.pc, 0, none⟩) :: (List.range 12).map fun i => Value.pointer (some ⟨A.q i, 0, none⟩)).toArray) A.T (0, 0)
def kparts (p : Nat) (A : KA) (s : S9) : List Part := [blk p (kobj A), memPart A.pm s.m A.Fm, cpPart A.pc s.c A.Fc, fam 12 fun i => tblPart (A.q i) (s.t i) (A.Ft i)]

/-- The program's kernel at block 'p'. -/
def KP (w : World) (p : Nat) (s : S9) (F : List Nat) : Prop := T9 s ∧ ∃ A, Prts w (kparts p A s) ∧ F = PF (kparts p A s)
theorem KP.lt {w : World} {p : Nat} {s : S9} {F : List Nat} (h : KP w p s F) : ∀ b ∈ F, b < w.heap.size := by
  obtain ⟨-, A, h1, rfl⟩ := h; exact h1.lt
theorem KP.keep {w w' : World} {p : Nat} {s : S9} {F : List Nat} (h : KP w p s F) (hk : ∀ b ∈ F, w'.heap[b]? = w.heap[b]?) : KP w' p s F := by
  obtain ⟨h0, A, h1, rfl⟩ := h; exact ⟨h0, A, h1.keep hk, rfl⟩
theorem KP.w8 {w : World} {p : Nat} {s : S9} {F : List Nat} (h : KP w p s F) : W8 s.c := by
  obtain ⟨-, A, h1, rfl⟩ := h
  exact (h1.nth (i := 2) rfl : CP w A.pc s.c A.Fc).1
def kpPart (p : Nat) (s : S9) (F : List Nat) : Part := ⟨F, fun w => KP w p s F, fun h k => h.keep k, fun h => h.lt⟩

section
variable {w w' : World} {p : Nat} {A : KA} {s : S9}
theorem kmem (h : Prts w (kparts p A s)) : MemP w A.pm s.m A.Fm := h.nth (i := 1) rfl
theorem kcp (h : Prts w (kparts p A s)) : CP w A.pc s.c A.Fc := h.nth (i := 2) rfl
theorem kblk (h : Prts w (kparts p A s)) : w.heap[p]? = some (kobj A) := h.nth (i := 0) rfl
theorem ktbl (h : Prts w (kparts p A s)) {e : Nat} (he : e < 12) : TblP w (A.q e) (s.t e) (A.Ft e) := fam_nth (h.nth (i := 3) rfl) he
theorem kc0 (h : Prts w (kparts p A s)) : w.cell? ⟨p, 0, none⟩ = some (.pointer (some ⟨A.pm, 0, none⟩)) := by rw [cell_get (kblk h)]; rfl
theorem kc1 (h : Prts w (kparts p A s)) : w.cell? ⟨p, 1, none⟩ = some (.pointer (some ⟨A.pc, 0, none⟩)) := by rw [cell_get (kblk h)]; rfl
theorem kc2 (h : Prts w (kparts p A s)) {e : Nat} (he : e < 12) : w.cell? ⟨p, 2 + e, none⟩ = some (.pointer (some ⟨A.q e, 0, none⟩)) := by
  rw [cell_get (kblk h)]
  rw [show 2 + e = e + 1 + 1 by omega]
  simp [he]

theorem k_mem (h : Prts w (kparts p A s)) {m' : List (List Int)} (hp : MemP w' A.pm m' A.Fm) (hm : Mod A.Fm w w') : Prts w' (kparts p A { s with m := m' }) ∧ Mod (PF (kparts p A s)) w w' := by
  have := h.step 1 rfl (memPart A.pm m' A.Fm) hp hm (Own.refl _ _)
  exact ⟨this.1, this.2.1⟩
theorem k_cap (h : Prts w (kparts p A s)) {c' : S8} {Fc' : List Nat} (hp : CP w' A.pc c' Fc') (hm : Mod A.Fc w w') (ho : Own w A.Fc Fc') : Prts w' (kparts p { A with Fc := Fc' } { s with c := c' }) ∧ Mod (PF (kparts p A s)) w w' ∧ Own w (PF (kparts p A s)) (PF (kparts p { A with Fc := Fc' } { s with c := c' })) :=
  h.step 2 rfl (cpPart A.pc c' Fc') hp hm ho
theorem k_tbl (h : Prts w (kparts p A s)) {e : Nat} (he : e < 12) {t' : Tb} (hp : TblP w' (A.q e) t' (A.Ft e)) (hm : Mod (A.Ft e) w w') : Prts w' (kparts p A { s with t := upT s.t e t' }) ∧ Mod (PF (kparts p A s)) w w' := by
  obtain ⟨f1, f2, f3⟩ := fam_step (f := fun i => tblPart (A.q i) (s.t i) (A.Ft i)) (h.nth (i := 3) rfl) he (tblPart (A.q e) t' (A.Ft e)) hp hm (Own.refl _ _)
  have e1 : (upF (fun i => tblPart (A.q i) (s.t i) (A.Ft i)) e (tblPart (A.q e) t' (A.Ft e))) = fun i => tblPart (A.q i) (upT s.t e t' i) (A.Ft i) := by
    funext i
    unfold upF upT
    by_cases hi : e = i
    · subst hi; rw [if_pos rfl, if_pos rfl]
    · rw [if_neg hi, if_neg hi]
  rw [e1] at f1
  have := h.step 3 rfl (fam 12 fun i => tblPart (A.q i) (upT s.t e t' i) (A.Ft i)) f1 f2 (Own.refl _ _)
  exact ⟨this.1, this.2.1⟩

theorem ktable_run (h : Prts w (kparts p A s)) (e : Int) {K : Value → World → Prop} (h0 : ¬ env12 e → K (.pointer none) w) (h1 : env12 e → K (.pointer (some ⟨A.q e.toNat, 0, none⟩)) w) : CallsR Tryz.prog F_exomem_Kernel_table #[.pointer (some ⟨p, 0, none⟩), .int .i64 e] w K := by
  apply R_exomem_Kernel_table_ok
  simp only [R_exomem_Kernel_table, Option.isNone_some, spl_false, spl_decide, nilK_some, addr_add, Nat.zero_add]
  unfold env12 at h0 h1
  refine ⟨fun _ => h0 (by omega), fun _ => ⟨fun _ => h0 (by omega), fun _ => ⟨⟨by omega, by omega⟩, _, kc2 h (by omega), h1 (by omega)⟩⟩⟩
theorem kneed_run (b : Bool) {w : World} {K : Value → World → Prop} (hK : K (.int .i64 (need9 b)) w) : CallsR Tryz.prog F_exomem_need #[.bool b] w K := by
  apply R_exomem_need_ok
  unfold R_exomem_need
  cases b with
  | true => exact spl_t rfl hK
  | false => exact spl_f rfl hK
theorem kfree_run (h : Prts w (kparts p A s)) (f : Int) (hf : (Lit.int .i64 f).wf = true) {K : Value → World → Prop} (hK : ∀ w', Mod [] w w' → K (.bool (free9 s.c f)) w') : CallsR Tryz.prog F_exomem_Kernel_free #[.pointer (some ⟨p, 0, none⟩), .int .i64 f] w K := by
  apply R_exomem_Kernel_free_ok
  simp only [R_exomem_Kernel_free, nilK_some, addr_add, Nat.zero_add]
  refine ⟨_, kc1 h, pholders_run (kcp h) 1 f hf fun w1 a c G hs hG m1 => ⟨_, _, _, rfl, ?_⟩⟩
  have e1 : ((((holders8 s.c.L 1 f).length : Nat) : Int) == 0) = free9 s.c f := by
    unfold free9
    cases holders8 s.c.L 1 f with
    | nil => rfl
    | cons x l => simp; omega
  rw [e1]
  exact hK w1 m1
theorem kframe_run (h : Prts w (kparts p A s)) (e sl r : Int) {K : Value → World → Prop} (hK : ∀ w', Mod [] w w' → K (.tuple #[.int .i64 (cap9 s.c e sl r).1, .bool (cap9 s.c e sl r).2]) w') : CallsR Tryz.prog F_exomem_Kernel_frame #[.pointer (some ⟨p, 0, none⟩), .int .i64 e, .int .i64 sl, .int .i64 r] w K := by
  apply R_exomem_Kernel_frame_ok
  simp only [R_exomem_Kernel_frame, nilK_some, addr_add, Nat.zero_add, drK_eq]
  refine ⟨_, kc1 h, pget_run (kcp h) e sl fun w1 m1 => ⟨_, _, _, _, _, rfl, ?_⟩⟩
  refine (Sep.nil m1).new fun b w2 s2 m2 hb => s2.st0 0 rfl rfl fun w3 s3 m3 => ?_
  have s4 := s3.mod0 ((Mod.refl [] w3).drew)
  generalize w3.drew = w4 at s4 ⊢
  have hK := hK w4 s4.mod
  unfold cap9 at hK
  refine ⟨_, s4.cell 0 rfl rfl, spl_of (fun ht => ⟨_, s4.cell 0 rfl rfl, ?_⟩) (fun hf => ?_)⟩
  · rw [ht] at hK; exact hK
  · rw [hf] at hK; exact hK
end

end Go.Proofs

set_option linter.unusedSimpArgs false
namespace Go.Proofs
open Go Go.Den

theorem need9_wf (b : Bool) : 0 ≤ need9 b ∧ need9 b ≤ 7 := by cases b <;> decide

theorem Own.of_mod {w w1 : World} {S F G : List Nat} (hm : Mod S w w1) (h : Own w1 F G) : Own w F G := fun b hb => (h b hb).imp id fun hh => by have := hm.size; omega

section
variable {w : World} {p : Nat} {s : S9} {F : List Nat}

theorem kp_grant (h : KP w p s F) (e sl to r : Int) {K : Value → World → Prop} (hK : ∀ w' F', KP w' p (grantS s e sl to r) F' → Mod F w w' → Own w F F' → K (.tuple #[.int .i64 (giveV8 s.c e sl to r).1, .int .i64 (giveV8 s.c e sl to r).2]) w') :
    CallsR Tryz.prog F_exomem_Kernel_Grant #[.pointer (some ⟨p, 0, none⟩), .int .i64 e, .int .i64 sl, .int .i64 to, .int .i64 r] w K := by
  obtain ⟨hT, A, h1, rfl⟩ := h
  apply R_exomem_Kernel_Grant_ok
  simp only [R_exomem_Kernel_Grant, Option.isNone_some, spl_false, nilK_some, addr_add, Nat.zero_add]
  refine ⟨_, kc1 h1, pgive_run (kcp h1) e sl to r fun w1 F1 g1 m1 o1 => ⟨_, _, rfl, ?_⟩⟩
  obtain ⟨h2, m2, o2⟩ := k_cap h1 g1 m1 o1
  exact hK w1 _ ⟨hT, _, h2, rfl⟩ m2 o2

theorem kp_alloc (h : KP w p s F) (e : Int) {K : Value → World → Prop} (hK : ∀ w' F', KP w' p (allocS s e) F' → Mod F w w' → Own w F F' → K (.tuple #[.int .i64 (allocV s e).1, .int .i64 (allocV s e).2]) w') :
    CallsR Tryz.prog F_exomem_Kernel_Alloc #[.pointer (some ⟨p, 0, none⟩), .int .i64 e] w K := by
  obtain ⟨hT, A, h1, rfl⟩ := h
  apply R_exomem_Kernel_Alloc_ok
  simp only [R_exomem_Kernel_Alloc, nilK_some, addr_add, Nat.zero_add, spl_decide]
  refine ktable_run h1 e (fun he => ⟨_, rfl, spl_t rfl ?_⟩) (fun he => ⟨_, rfl, spl_f rfl ⟨_, kc0 h1, mem_frames (kmem h1) ⟨_, rfl, ?_⟩⟩⟩)
  · unfold allocS allocV at hK
    rw [if_neg he, if_neg he] at hK
    exact hK w _ ⟨hT, A, h1, rfl⟩ (Mod.refl _ _) (Own.refl _ _)
  have hle : s.m.length ≤ 1024 := by obtain ⟨_, _, _, _, _, _, _, h5⟩ := kmem h1; exact h5
  refine ⟨fun n t w' => ∃ j : Nat, t = j ∧ j ≤ s.m.length ∧ n = s.m.length - j ∧ (∀ f < j, free9 s.c (f : Nat) = false) ∧ Mod [] w w', ⟨s.m.length, 0, rfl, by omega, rfl, fun f hf => by omega, Mod.refl _ _⟩, ?_⟩
  rintro n t - w1 ⟨j, rfl, hj, rfl, hno, m1⟩
  have h2 := h1.mod0 m1
  refine ⟨fun hlt => ?_, fun hge => ?_⟩
  · refine kfree_run h2 j (wf64_of (by omega) (by omega)) fun w2 m2 => ⟨_, rfl, spl_of (fun ht => ?_) (fun hf => ?_)⟩
    · have h3 := h2.mod0 m2
      have hfirst : first9 s = some j := by
        unfold first9
        rw [List.find?_range_eq_some]
        exact ⟨ht, List.mem_range.2 (by omega), fun i hi => by rw [hno i hi]; rfl⟩
      have hcap : fcap j = ⟨1, (j : Int), 1, 7⟩ := rfl
      refine ⟨_, kc1 h3, padd_run (kcp h3) e ⟨1, j, 1, 7⟩ fun w3 F3 g3 m3 o3 => ⟨_, _, rfl, ?_⟩⟩
      obtain ⟨h4, m4, o4⟩ := k_cap h3 g3 m3 o3
      have m24 := (m1.trans' m2).of0 (S := PF (kparts p A s))
      unfold allocS allocV at hK
      rw [if_pos he, if_pos he, hfirst] at hK
      simp only [hcap] at hK
      refine spl_of (fun hz => ?_) (fun hz => ?_)
      · have hz : (addV8 s.c e ⟨1, j, 1, 7⟩).2 = 0 := by simpa using hz
        refine ⟨_, kc0 h4, pmZero (kmem h4) j fun w5 n5 g5 m5 => ⟨_, rfl, ?_⟩⟩
        obtain ⟨h6, m6⟩ := k_mem h4 g5 m5
        rw [if_pos hz] at hK
        refine hK w5 _ ⟨hT, _, h6, rfl⟩ ((m24.trans' m4).trans m6 fun b hb hlt => ?_) (Own.of_mod m24 o4)
        rcases o4 b hb with hh | hh
        · exact hh
        · have := m24.size; omega
      · have hz : (addV8 s.c e ⟨1, j, 1, 7⟩).2 ≠ 0 := by simpa using hz
        rw [if_neg hz] at hK
        exact hK w3 _ ⟨hT, _, h4, rfl⟩ (m24.trans' m4) (Own.of_mod m24 o4)
    · refine ⟨s.m.length - (j + 1), by omega, j + 1, by rw [w64 (by omega) (by omega)]; omega, by omega, rfl, fun f hf2 => ?_, m1.trans' m2⟩
      rcases Nat.lt_or_ge f j with z | z
      · exact hno f z
      · have : f = j := by omega
        rw [this]; exact hf
  · have hfirst : first9 s = none := by
      unfold first9
      rw [List.find?_eq_none]
      intro f hf
      rw [List.mem_range] at hf
      rw [hno f (by omega)]
      simp
    unfold allocS allocV at hK
    rw [if_pos he, if_pos he, hfirst] at hK
    exact hK w1 _ ⟨hT, A, h2, rfl⟩ m1.of0 (Own.refl _ _)

/-- A table of which the pages below 'j' are tidy. -/
def partT (c : S8) (e : Nat) (t : Tb) (j : Nat) : Tb := fun q => if q < (j : Int) then tidyT c e t q else t q
theorem partT_0 (c : S8) (e : Nat) {t : Tb} (h : TbOk t) : partT c e t 0 = t := by
  funext q
  unfold partT
  split
  · rename_i hq
    unfold tidyT
    rw [h.none (.inl (by omega))]
  · rfl
theorem partT_4 (c : S8) (e : Nat) {t : Tb} (h : TbOk t) : partT c e t 4 = tidyT c e t := by
  funext q
  unfold partT
  split
  · rfl
  · rename_i hq
    unfold tidyT
    rw [h.none (.inr (by omega))]
theorem partT_at (c : S8) (e : Nat) (t : Tb) (j : Nat) : partT c e t j (j : Int) = t j := by unfold partT; rw [if_neg (by omega)]
theorem partT_keep {c : S8} {e : Nat} {t : Tb} {j : Nat} (h : tidyT c e t j = t j) : partT c e t (j + 1) = partT c e t j := by
  funext q
  unfold partT
  by_cases hq : q = (j : Int)
  · subst hq; rw [if_pos (by omega), if_neg (by omega)]; exact h
  · by_cases hlt : q < (j : Int)
    · rw [if_pos (by omega), if_pos hlt]
    · rw [if_neg (by omega), if_neg hlt]
theorem partT_del {c : S8} {e : Nat} {t : Tb} {j : Nat} (h : tidyT c e t j = none) : partT c e t (j + 1) = tdel (partT c e t j) j := by
  funext q
  unfold partT tdel
  by_cases hq : q = (j : Int)
  · subst hq; rw [if_pos (by omega), if_pos rfl]; exact h
  · rw [if_neg (Ne.symm hq)]
    show _ = if q < (j : Int) then tidyT c e t q else t q
    by_cases hlt : q < (j : Int)
    · rw [if_pos (by omega), if_pos hlt]
    · rw [if_neg (by omega), if_neg hlt]
theorem upT_self (t : Nat → Tb) (i : Nat) : upT t i (t i) = t := by
  funext j; unfold upT; split
  · rename_i h; rw [h]
  · rfl
theorem upT_up (t : Nat → Tb) (i : Nat) (a b : Tb) : upT (upT t i a) i b = upT t i b := by
  funext j; unfold upT; split <;> rfl
theorem upT_at (t : Nat → Tb) (i : Nat) (a : Tb) : upT t i a i = a := by unfold upT; rw [if_pos rfl]

theorem klost_run (hT : T9 s) {A : KA} (h : Prts w (kparts p A s)) {e : Nat} (he : e < 12) {b : Nat} {T : TypeId} (hb : w.heap[b]? = some (.cells #[.pointer (some ⟨p, 0, none⟩)] T (0, 0))) (hbF : b ∉ PF (kparts p A s)) {K : Value → World → Prop}
    (hK : ∀ w', Prts w' (kparts p A { s with t := upT s.t e (tidyT s.c e (s.t e)) }) → Mod (PF (kparts p A s)) w w' → K (.tuple #[]) w') : CallsR Tryz.prog F_exomem_Kernel_losses_1 #[.int .i64 e, .pointer (some ⟨b, 0, none⟩)] w K := by
  apply R_exomem_Kernel_losses_1_ok
  simp only [R_exomem_Kernel_losses_1, nilK_some, addr_add, Nat.zero_add, spl_decide]
  have hok : TbOk (s.t e) := (ktbl h he).ok
  have hw8 := (kcp h).1
  refine ⟨fun n t w' => ∃ j : Nat, t = j ∧ j ≤ 4 ∧ n = 4 - j ∧ Prts w' (kparts p A { s with t := upT s.t e (partT s.c e (s.t e) j) }) ∧ Mod (PF (kparts p A s)) w w', ⟨4, 0, rfl, by omega, rfl, by rw [partT_0 _ _ hok, upT_self]; exact h, Mod.refl _ _⟩, ?_⟩
  rintro n t - w1 ⟨j, rfl, hj, rfl, h1, m1⟩
  refine ⟨fun hlt => ?_, fun hge => ?_⟩
  · refine ⟨fun w' => Prts w' (kparts p A { s with t := upT s.t e (partT s.c e (s.t e) (j + 1)) }) ∧ Mod (PF (kparts p A s)) w w', ?_, ?_⟩
    · rintro - w' ⟨g1, g2⟩
      exact ⟨4 - (j + 1), by omega, j + 1, by rw [w64 (by omega) (by omega)]; omega, by omega, rfl, g1, g2⟩
    have hb1 := m1.get hb hbF
    have ht1 : TblP w1 (A.q e) (upT s.t e (partT s.c e (s.t e) j) e) (A.Ft e) := ktbl h1 he
    rw [upT_at] at ht1
    refine ⟨_, by rw [cell_get hb1]; rfl, ?_⟩
    rw [nilK_some]
    simp only [addr_add, Nat.zero_add, Int.toNat_natCast]
    refine ⟨⟨by omega, by omega⟩, _, kc2 h1 he, ?_⟩
    refine mmu_at ht1 j fun w2 m2 => ⟨_, _, _, rfl, ?_⟩
    rw [partT_at]
    refine (Sep.nil m2).new fun bx w3 s3 m3 hbx => s3.st0 0 rfl rfl fun w4 s4 m4 => ?_
    rw [drK_eq]
    have s5 := s4.mod0 ((Mod.refl [] w4).drew)
    generalize w4.drew = w5 at s5 ⊢
    have h5 := h1.mod0 s5.mod
    have m15 := m1.trans' (s5.mod.of0 (S := PF (kparts p A s)))
    refine ⟨[b, p, bx], ?_⟩
    cases htj : s.t e j with
    | none =>
      refine spl_f rfl ⟨?_, m15⟩
      rw [partT_keep (by unfold tidyT; rw [htj])]
      exact h5
    | some x =>
      rw [htj] at s5
      have hb5 := s5.mod.get hb1 (by simp)
      have kp : ∀ {u : World}, Mod [] w5 u → keepB [b, p, bx] w5 u := fun hm z hz => by
        simp only [List.mem_cons, List.not_mem_nil, or_false] at hz
        rcases hz with rfl | rfl | rfl
        · exact hm.keep _ (lt_of_get hb5) (by simp)
        · exact hm.keep _ (lt_of_get (kblk h5)) (by simp)
        · exact hm.keep _ (lt_of_get (show w5.heap[z]? = some _ from s5.nth 0 rfl)) (by simp)
      refine spl_t rfl ⟨by simp, _, by rw [cell_get hb5]; rfl, ?_⟩
      rw [nilK_some]
      simp only [addr_add, Nat.zero_add]
      refine ⟨by simp, _, kc1 h5, by simp, _, s5.cell 0 rfl rfl, by simp, _, s5.cell 0 rfl rfl, ?_⟩
      refine kneed_run _ ⟨_, rfl, kp (Mod.refl _ _), ?_⟩
      have hxwf := hT.wf htj
      refine phas_run (kcp h5) e 1 x.1 (need9 x.2) hxwf fun w6 m6 => ⟨_, rfl, spl_of (fun hh => ⟨?_, m15.trans' m6.of0⟩) (fun hh => ?_)⟩
      · rw [partT_keep (by unfold tidyT; rw [htj]; simp only; unfold holds9; rw [if_pos hh])]
        exact h5.mod0 m6
      · have h6 := h5.mod0 m6
        have hb6 := m6.get hb5 (by simp)
        have ht6 : TblP w6 (A.q e) (upT s.t e (partT s.c e (s.t e) j) e) (A.Ft e) := ktbl h6 he
        rw [upT_at] at ht6
        refine ⟨_, by rw [cell_get hb6]; rfl, ?_⟩
        rw [nilK_some]
        simp only [addr_add, Nat.zero_add, Int.toNat_natCast]
        refine ⟨⟨by omega, by omega⟩, _, kc2 h6 he, ?_⟩
        refine mmu_unmap ht6 j fun w7 g7 m7 => ⟨_, rfl, ?_⟩
        obtain ⟨h8, m8⟩ := k_tbl h6 he g7 m7
        rw [partT_del (by unfold tidyT; rw [htj]; simp only; unfold holds9; rw [if_neg (by rw [hh]; simp)])]
        rw [upT_up] at h8
        exact ⟨h8, (m15.trans' m6.of0).trans' m8⟩
  · obtain rfl : j = 4 := by omega
    rw [partT_4 _ _ hok] at h1
    exact hK w1 h1 m1
end

end Go.Proofs

set_option linter.unusedSimpArgs false
namespace Go.Den
open Go

/-- A call of a function value that is known. -/
theorem callV_0 {P : Program} {g : FuncId} {fi ca : Array Value} {args : List Value} {w : World} {K : Value → World → Prop} (hc : callable P g = true) (hr : resTys P g = []) (h : CallsR P g (fi.toList ++ args ++ ca.toList).toArray w fun v w' => v = .tuple #[] ∧ K (.tuple #[]) w') : callV P (.func (.func g) fi ca) args w K := by
  unfold callV
  simp only [hc, if_true, hr]
  exact h.mono fun v w' hh => hh

end Go.Den
namespace Go.Proofs
open Go Go.Den

/-- The tables of the environments below 'j' are tidy. -/
def tidyN (s : S9) (j : Nat) : S9 := { s with t := fun e => if e < j then tidyT s.c e (s.t e) else s.t e }
theorem tidyN_succ (s : S9) (j : Nat) : tidyN s (j + 1) = { s with t := upT (tidyN s j).t j (tidyT s.c j (s.t j)) } := by
  unfold tidyN upT
  congr 1
  funext e
  show (if e < j + 1 then tidyT s.c e (s.t e) else s.t e) = if j = e then tidyT s.c j (s.t j) else if e < j then tidyT s.c e (s.t e) else s.t e
  by_cases h : j = e
  · subst h; rw [if_pos (by omega), if_pos rfl]
  · rw [if_neg h]
    by_cases h2 : e < j
    · rw [if_pos (by omega), if_pos h2]
    · rw [if_neg (by omega), if_neg h2]
theorem tidyN_0 (s : S9) : tidyN s 0 = s := by unfold tidyN; simp
theorem tidyN_at (s : S9) (j : Nat) : (tidyN s j).t j = s.t j := by unfold tidyN; simp

section
variable {w : World} {p : Nat} {s : S9} {F : List Nat}

theorem kfam (A : KA) {s' : S9} (hm : s'.m = s.m) (hc : s'.c = s.c) (ht : ∀ e, e < 12 → s'.t e = s.t e) : kparts p A s' = kparts p A s := by
  unfold kparts
  rw [hm, hc]
  congr 4
  unfold fam
  congr 1
  refine List.map_congr_left fun i hi => ?_
  rw [List.mem_range] at hi
  rw [ht i hi]

set_option maxRecDepth 100000 in
theorem ktidy_run (hT : T9 s) {A : KA} (h : Prts w (kparts p A s)) {K : Value → World → Prop} (hK : ∀ w', Prts w' (kparts p A (tidyS s)) → Mod (PF (kparts p A s)) w w' → K (.tuple #[]) w') : CallsR Tryz.prog F_exomem_Kernel_tidy #[.pointer (some ⟨p, 0, none⟩)] w K := by
  apply R_exomem_Kernel_tidy_ok
  simp only [R_exomem_Kernel_tidy, spl_decide]
  apply R_exomem_Kernel_losses_ok
  simp only [R_exomem_Kernel_losses]
  refine (Sep.nil (Mod.refl [] w)).new fun b w1 s1 m1 hb => ⟨_, rfl, ?_⟩
  have hbF : b ∉ PF (kparts p A s) := fun hh => by have := h.lt b hh; omega
  have hb1 : w1.heap[b]? = some _ := s1.nth 0 rfl
  refine ⟨fun n t w' => ∃ j : Nat, t = j ∧ j ≤ 12 ∧ n = 12 - j ∧ Prts w' (kparts p A (tidyN s j)) ∧ Mod (PF (kparts p A s)) w w' ∧ Mod (PF (kparts p A s)) w1 w', ⟨12, 0, rfl, by omega, rfl, by rw [tidyN_0]; exact h.mod0 m1, m1.of0, Mod.refl _ _⟩, ?_⟩
  rintro n t - w2 ⟨j, rfl, hj, rfl, h2, m2, m12⟩
  refine ⟨fun hlt => ?_, fun hge => ?_⟩
  · refine callV_0 (show callable Tryz.prog F_exomem_Kernel_losses_1 = true by kernel_rfl) (show resTys Tryz.prog F_exomem_Kernel_losses_1 = [] by kernel_rfl) ?_
    have hb2 := m12.get hb1 hbF
    refine klost_run (s := tidyN s j) (fun e q x hx => ?_) h2 (e := j) (by omega) hb2 hbF fun w3 h3 m3 => ⟨rfl, 12 - (j + 1), by omega, j + 1, by rw [w64 (by omega) (by omega)]; omega, by omega, rfl, ?_, m2.trans' m3, m12.trans' m3⟩
    · unfold tidyN at hx
      simp only at hx
      split at hx
      · exact hT e q x (tidyT_some hx).1
      · exact hT e q x hx
    · rw [tidyN_succ]
      rw [tidyN_at] at h3
      exact h3
  · obtain rfl : j = 12 := by omega
    refine hK w2 ?_ m2
    have e := kfam (p := p) A (s := tidyN s 12) (s' := tidyS s) rfl rfl fun e he => by unfold tidyN tidyS; simp only; rw [if_pos he]
    rw [e]
    exact h2

theorem kp_free (h : KP w p s F) (e sl : Int) {K : Value → World → Prop} (hK : ∀ w' F', KP w' p (freeS s e sl) F' → Mod F w w' → Own w F F' → K (.int .i64 (dropV8 s.c e sl).2) w') :
    CallsR Tryz.prog F_exomem_Kernel_Free #[.pointer (some ⟨p, 0, none⟩), .int .i64 e, .int .i64 sl] w K := by
  obtain ⟨hT, A, h1, rfl⟩ := h
  apply R_exomem_Kernel_Free_ok
  simp only [R_exomem_Kernel_Free, Option.isNone_some, spl_false, nilK_some, addr_add, Nat.zero_add]
  refine ⟨_, kc1 h1, pdrop_run (kcp h1) e sl fun w1 F1 g1 m1 o1 => ⟨_, _, rfl, ?_⟩⟩
  obtain ⟨h2, m2, o2⟩ := k_cap h1 g1 m1 o1
  refine ktidy_run (hT.c _) h2 fun w3 h3 m3 => ⟨rfl, hK w3 _ ⟨(hT.c _).tidy, _, h3, rfl⟩ (m2.trans m3 fun b hb hlt => ?_) o2⟩
  exact (o2 b hb).elim id fun hh => by omega
theorem kp_revoke (h : KP w p s F) (e sl : Int) {K : Value → World → Prop} (hK : ∀ w' F', KP w' p (revS s e sl) F' → Mod F w w' → Own w F F' → K (.int .i64 (revokeV8 s.c e sl).2) w') :
    CallsR Tryz.prog F_exomem_Kernel_Revoke #[.pointer (some ⟨p, 0, none⟩), .int .i64 e, .int .i64 sl] w K := by
  obtain ⟨hT, A, h1, rfl⟩ := h
  apply R_exomem_Kernel_Revoke_ok
  simp only [R_exomem_Kernel_Revoke, Option.isNone_some, spl_false, nilK_some, addr_add, Nat.zero_add]
  refine ⟨_, kc1 h1, prevoke_run (kcp h1) e sl fun w1 F1 g1 m1 o1 => ⟨_, _, rfl, ?_⟩⟩
  obtain ⟨h2, m2, o2⟩ := k_cap h1 g1 m1 o1
  refine ktidy_run (hT.c _) h2 fun w3 h3 m3 => ⟨rfl, hK w3 _ ⟨(hT.c _).tidy, _, h3, rfl⟩ (m2.trans m3 fun b hb hlt => ?_) o2⟩
  exact (o2 b hb).elim id fun hh => by omega
theorem kp_map (h : KP w p s F) (e q sl : Int) (b : Bool) {K : Value → World → Prop} (hK : ∀ w', KP w' p (mapS s e q sl b) F → Mod F w w' → K (.int .i64 (mapV s e q sl b)) w') :
    CallsR Tryz.prog F_exomem_Kernel_Map #[.pointer (some ⟨p, 0, none⟩), .int .i64 e, .int .i64 q, .int .i64 sl, .bool b] w K := by
  have hW8 := h.w8
  obtain ⟨hT, A, h1, rfl⟩ := h
  apply R_exomem_Kernel_Map_ok
  simp only [R_exomem_Kernel_Map, spl_decide]
  have bad : ¬ (env12 e ∧ in4 q) → K (.int .i64 101) w := fun hn => by
    unfold mapS mapV at hK
    rw [if_neg hn, if_neg fun z => hn z.1] at hK
    exact hK w ⟨hT, A, h1, rfl⟩ (Mod.refl _ _)
  refine ktable_run h1 e (fun he => ⟨_, rfl, spl_t rfl (bad fun z => he z.1)⟩) (fun he => ⟨_, rfl, spl_f rfl ⟨fun hq => bad fun z => by have := z.2; unfold in4 at this; omega, fun hq => ⟨fun hq2 => bad fun z => by have := z.2; unfold in4 at this; omega, fun hq2 => ?_⟩⟩⟩)
  have hin : env12 e ∧ in4 q := ⟨he, ⟨by omega, by omega⟩⟩
  refine kneed_run b ⟨_, rfl, kframe_run h1 e sl (need9 b) fun w1 m1 => ⟨_, _, rfl, spl_of (fun hc => ?_) (fun hc => ?_)⟩⟩
  · have h2 := h1.mod0 m1
    have he12 : e.toNat < 12 := by unfold env12 at he; omega
    refine mmu_map (ktbl h2 he12) q _ b fun w3 g3 m3 => ⟨_, rfl, ?_⟩
    obtain ⟨h4, m4⟩ := k_tbl h2 he12 g3 m3
    have hTm := hT.map hW8 e q sl b
    have e1 : mapS s e q sl b = { s with t := upT s.t e.toNat (tMap (s.t e.toNat) q ((cap9 s.c e sl (need9 b)).1, b)) } := by unfold mapS; rw [if_pos ⟨hin, hc⟩]
    unfold mapV at hK
    rw [if_pos hin, if_pos hc] at hK
    exact hK w3 ⟨hTm, A, by rw [e1]; exact h4, by rw [e1]; rfl⟩ (m1.of0.trans' m4)
  · unfold mapS mapV at hK
    rw [if_pos hin, if_neg (by rw [hc]; simp), if_neg fun z => by rw [hc] at z; simp at z] at hK
    exact hK w1 ⟨hT, A, h1.mod0 m1, rfl⟩ m1.of0
theorem kp_unmap (h : KP w p s F) (e q : Int) {K : Value → World → Prop} (hK : ∀ w', KP w' p (unmapS s e q) F → Mod F w w' → K (.int .i64 (unmapV s e q)) w') :
    CallsR Tryz.prog F_exomem_Kernel_Unmap #[.pointer (some ⟨p, 0, none⟩), .int .i64 e, .int .i64 q] w K := by
  obtain ⟨hT, A, h1, rfl⟩ := h
  apply R_exomem_Kernel_Unmap_ok
  simp only [R_exomem_Kernel_Unmap]
  refine ktable_run h1 e (fun he => ⟨_, rfl, spl_t rfl ?_⟩) (fun he => ⟨_, rfl, spl_f rfl ?_⟩)
  · unfold unmapS unmapV at hK
    rw [if_neg he, if_neg he] at hK
    exact hK w ⟨hT, A, h1, rfl⟩ (Mod.refl _ _)
  · have he12 : e.toNat < 12 := by unfold env12 at he; omega
    refine mmu_unmap (ktbl h1 he12) q fun w1 g1 m1 => ⟨_, rfl, ?_⟩
    obtain ⟨h2, m2⟩ := k_tbl h1 he12 g1 m1
    have hTu := hT.unmap e q
    have e1 : unmapS s e q = { s with t := upT s.t e.toNat (tdel (s.t e.toNat) q) } := by unfold unmapS; rw [if_pos he]
    unfold unmapV at hK
    rw [if_pos he] at hK
    exact hK w1 ⟨hTu, A, by rw [e1]; exact h2, by rw [e1]; rfl⟩ m2
theorem kp_load (h : KP w p s F) (e : Int) {a : Int} (ha : 0 ≤ a) {K : Value → World → Prop} (hK : ∀ w', Mod [] w w' → K (.tuple #[.int .u64 (loadV s e a).1, .int .i64 (loadV s e a).2]) w') :
    CallsR Tryz.prog F_exomem_Kernel_Load #[.pointer (some ⟨p, 0, none⟩), .int .i64 e, .int .u64 a] w K := by
  obtain ⟨hT, A, h1, rfl⟩ := h
  apply R_exomem_Kernel_Load_ok
  simp only [R_exomem_Kernel_Load, spl_bne, nilK_some]
  unfold loadV at hK
  refine ktable_run h1 e (fun he => ⟨_, rfl, spl_t rfl ?_⟩) (fun he => ⟨_, rfl, spl_f rfl ?_⟩)
  · rw [if_neg he] at hK
    exact hK w (Mod.refl _ _)
  · have he12 : e.toNat < 12 := by unfold env12 at he; omega
    rw [if_pos he] at hK
    refine mmu_walk (ktbl h1 he12) ha false fun w1 m1 => ⟨_, _, _, rfl, fun hne => ?_, fun heq => ?_⟩
    · rw [if_neg hne] at hK
      exact hK w1 m1
    · rw [if_pos heq] at hK
      have h2 := h1.mod0 m1
      exact ⟨_, kc0 h2, pmRead (kmem h2) _ _ ⟨_, _, rfl, hK w1 m1⟩⟩
theorem kp_store (h : KP w p s F) (e : Int) {a : Int} (ha : 0 ≤ a) (v : Int) {K : Value → World → Prop} (hK : ∀ w', KP w' p (storeS s e a v) F → Mod F w w' → K (.int .i64 (storeV s e a)) w') :
    CallsR Tryz.prog F_exomem_Kernel_Store #[.pointer (some ⟨p, 0, none⟩), .int .i64 e, .int .u64 a, .int .u64 v] w K := by
  obtain ⟨hT, A, h1, rfl⟩ := h
  apply R_exomem_Kernel_Store_ok
  simp only [R_exomem_Kernel_Store, spl_bne, nilK_some]
  unfold storeV storeS at hK
  refine ktable_run h1 e (fun he => ⟨_, rfl, spl_t rfl ?_⟩) (fun he => ⟨_, rfl, spl_f rfl ?_⟩)
  · rw [if_neg he, if_neg fun z => he z.1] at hK
    exact hK w ⟨hT, A, h1, rfl⟩ (Mod.refl _ _)
  · have he12 : e.toNat < 12 := by unfold env12 at he; omega
    rw [if_pos he] at hK
    refine mmu_walk (ktbl h1 he12) ha true fun w1 m1 => ⟨_, _, _, rfl, fun hne => ?_, fun heq => ?_⟩
    · rw [if_neg hne, if_neg fun z => hne z.2] at hK
      exact hK w1 ⟨hT, A, h1.mod0 m1, rfl⟩ m1.of0
    · rw [if_pos heq, if_pos ⟨he, heq⟩] at hK
      have h2 := h1.mod0 m1
      refine ⟨_, kc0 h2, pmWrite (kmem h2) _ _ v fun w3 g3 m3 => ⟨_, rfl, ?_⟩⟩
      obtain ⟨h4, m4⟩ := k_mem h2 g3 m3
      exact hK w3 ⟨hT.m _, A, h4, rfl⟩ (m1.of0.trans' m4)
theorem kp_copy (h : KP w p s F) (e a b : Int) {K : Value → World → Prop} (hK : ∀ w', KP w' p (copyS s e a b) F → Mod F w w' → K (.int .i64 (copyV s e a b)) w') :
    CallsR Tryz.prog F_exomem_Kernel_Copy #[.pointer (some ⟨p, 0, none⟩), .int .i64 e, .int .i64 a, .int .i64 b] w K := by
  obtain ⟨hT, A, h1, rfl⟩ := h
  apply R_exomem_Kernel_Copy_ok
  simp only [R_exomem_Kernel_Copy, Option.isNone_some, spl_false, nilK_some]
  unfold copyV copyS at hK
  refine kframe_run h1 e a 2 fun w1 m1 => ⟨_, _, rfl, ?_⟩
  have h2 := h1.mod0 m1
  refine kframe_run h2 e b 1 fun w2 m2 => ⟨_, _, rfl, ?_⟩
  have h3 := h2.mod0 m2
  have m12 := m1.trans' m2
  refine spl_of (fun hc => spl_of (fun hd => ?_) (fun hd => ?_)) (fun hc => ?_)
  · rw [if_pos ⟨hc, hd⟩, if_pos ⟨hc, hd⟩] at hK
    refine ⟨_, kc0 h3, pmCopy (kmem h3) _ _ fun w4 g4 m4 => ⟨_, rfl, ?_⟩⟩
    obtain ⟨h5, m5⟩ := k_mem h3 g4 m4
    exact hK w4 ⟨hT.m _, A, h5, rfl⟩ (m12.of0.trans' m5)
  · rw [if_neg fun z => by rw [hd] at z; simp at z, if_neg fun z => by rw [hd] at z; simp at z] at hK
    exact hK w2 ⟨hT, A, h3, rfl⟩ m12.of0
  · rw [if_neg fun z => by rw [hc] at z; simp at z, if_neg fun z => by rw [hc] at z; simp at z] at hK
    exact hK w2 ⟨hT, A, h3, rfl⟩ m12.of0
theorem kp_read (h : KP w p s F) (e sl d : Int) {K : Value → World → Prop} (hK : ∀ w', Mod [] w w' → K (.tuple #[.int .u64 (readV s e sl d).1, .int .i64 (readV s e sl d).2]) w') :
    CallsR Tryz.prog F_exomem_Kernel_Read #[.pointer (some ⟨p, 0, none⟩), .int .i64 e, .int .i64 sl, .int .i64 d] w K := by
  obtain ⟨hT, A, h1, rfl⟩ := h
  apply R_exomem_Kernel_Read_ok
  simp only [R_exomem_Kernel_Read, Option.isNone_some, spl_false, nilK_some]
  unfold readV at hK
  refine kframe_run h1 e sl 1 fun w1 m1 => ⟨_, _, rfl, spl_of (fun hc => ?_) (fun hc => ?_)⟩
  · rw [if_pos hc] at hK
    have h2 := h1.mod0 m1
    exact ⟨_, kc0 h2, pmRead (kmem h2) _ _ ⟨_, _, rfl, hK w1 m1⟩⟩
  · rw [if_neg (by rw [hc]; simp)] at hK
    exact hK w1 m1
theorem kp_write (h : KP w p s F) (e sl d v : Int) {K : Value → World → Prop} (hK : ∀ w', KP w' p (writeS s e sl d v) F → Mod F w w' → K (.int .i64 (writeV s e sl d)) w') :
    CallsR Tryz.prog F_exomem_Kernel_Write #[.pointer (some ⟨p, 0, none⟩), .int .i64 e, .int .i64 sl, .int .i64 d, .int .u64 v] w K := by
  obtain ⟨hT, A, h1, rfl⟩ := h
  apply R_exomem_Kernel_Write_ok
  simp only [R_exomem_Kernel_Write, Option.isNone_some, spl_false, nilK_some]
  unfold writeV writeS at hK
  refine kframe_run h1 e sl 2 fun w1 m1 => ⟨_, _, rfl, spl_of (fun hc => ?_) (fun hc => ?_)⟩
  · rw [if_pos hc, if_pos hc] at hK
    have h2 := h1.mod0 m1
    refine ⟨_, kc0 h2, pmWrite (kmem h2) _ _ v fun w3 g3 m3 => ⟨_, rfl, ?_⟩⟩
    obtain ⟨h4, m4⟩ := k_mem h2 g3 m3
    exact hK w3 ⟨hT.m _, A, h4, rfl⟩ (m1.of0.trans' m4)
  · rw [if_neg (by rw [hc]; simp), if_neg (by rw [hc]; simp)] at hK
    exact hK w1 ⟨hT, A, h1.mod0 m1, rfl⟩ m1.of0
end

end Go.Proofs

set_option linter.unusedSimpArgs false
namespace Go.Proofs
open Go Go.Den

section
variable {w : World} {p : Nat} {s : S9} {F : List Nat}

theorem kp_page (h : KP w p s F) (e q : Int) {K : Value → World → Prop} (hK : ∀ w', Mod [] w w' → K (.tuple #[.agg #[.int .i64 (pz (pageT s e q)).1, .bool (pz (pageT s e q)).2], .bool (pageT s e q).isSome]) w') :
    CallsR Tryz.prog F_exomem_Kernel_Page #[.pointer (some ⟨p, 0, none⟩), .int .i64 e, .int .i64 q] w K := by
  obtain ⟨hT, A, h1, rfl⟩ := h
  apply R_exomem_Kernel_Page_ok
  simp only [R_exomem_Kernel_Page]
  refine (Sep.nil (Mod.refl [] w)).new fun b w1 s1 m1 hb => ?_
  have h2 := h1.mod0 m1
  unfold pageT at hK
  refine ktable_run h2 e (fun he => ⟨_, rfl, ?_⟩) (fun he => ⟨_, rfl, ?_⟩)
  · rw [if_neg he] at hK
    apply R_mmu_Table_At_ok
    simp only [R_mmu_Table_At, Option.isNone_none, spl_true]
    refine s1.new fun b2 w2 s2 m2 hb2 => s2.st0 0 rfl rfl fun w3 s3 m3 => ⟨_, _, ⟨s3.cell 0 rfl rfl, s3.cell 0 rfl rfl⟩, _, _, _, rfl, ?_⟩
    exact s3.st0 1 rfl rfl fun w4 s4 m4 => ⟨_, _, ⟨s4.cell 1 rfl rfl, s4.cell 1 rfl rfl⟩, hK w4 s4.mod⟩
  · rw [if_pos he] at hK
    refine mmu_at (ktbl h2 (by unfold env12 at he; omega)) q fun w2 m2 => ⟨_, _, _, rfl, ?_⟩
    have s2 := s1.mod0 m2
    exact s2.st0 0 rfl rfl fun w3 s3 m3 => ⟨_, _, ⟨s3.cell 0 rfl rfl, s3.cell 0 rfl rfl⟩, hK w3 s3.mod⟩

end

end Go.Proofs

set_option linter.unusedSimpArgs false
namespace Go.Den
open Go

theorem PF_append (a b : List Part) : PF (a ++ b) = PF a ++ PF b := by simp [PF]
theorem Prts.snoc {w : World} {l : List Part} (h : Prts w l) {p : Part} (hp : p.P w) (hd : ∀ x ∈ p.F, x ∉ PF l) : Prts w (l ++ [p]) := by
  have at_ : ∀ {i : Nat} {q : Part}, (l ++ [p])[i]? = some q → l[i]? = some q ∧ i < l.length ∨ i = l.length ∧ q = p := fun {i q} hi => by
    rcases Nat.lt_or_ge i l.length with z | z
    · rw [List.getElem?_append_left z] at hi; exact .inl ⟨hi, z⟩
    · rw [List.getElem?_append_right z] at hi
      have : i - l.length = 0 := by have := (List.getElem?_eq_some_iff.1 hi).1; simp at this; omega
      rw [this] at hi
      exact .inr ⟨by omega, (Option.some.inj hi).symm⟩
  refine ⟨fun {i q} hi => ?_, fun {i j q r} hij hi hj => ?_⟩
  · rcases at_ hi with ⟨h1, -⟩ | ⟨-, rfl⟩
    · exact h.nth h1
    · exact hp
  · rcases at_ hi with ⟨h1, h1'⟩ | ⟨h1, rfl⟩ <;> rcases at_ hj with ⟨h2, h2'⟩ | ⟨h2, rfl⟩
    · exact h.dj hij h1 h2
    · exact fun x hx hx' => hd x hx' (mem_PF.2 ⟨i, q, h1, hx⟩)
    · exact fun x hx hx' => hd x hx (mem_PF.2 ⟨j, r, h2, hx'⟩)
    · omega

end Go.Den
namespace Go.Proofs
open Go Go.Den

def init9 (n : Nat) : S9 := ⟨List.replicate n (List.replicate 32 0), ⟨[], 0⟩, fun _ _ => none⟩
theorem init9_T (n : Nat) : T9 (init9 n) := fun e q x h => by cases h

/-- The first tables of a new kernel. -/
def nparts (l : List (Nat × List Nat)) : List Part := l.map fun x => tblPart x.1 (fun _ => none) x.2
def ncells (pm pc : Nat) (l : List (Nat × List Nat)) (k : Nat) : List Value := .pointer (some ⟨pm, 0, none⟩) :: .pointer (some ⟨pc, 0, none⟩) :: (l.map (fun x => Value.pointer (some ⟨x.1, 0, none⟩)) ++ List.replicate k (.pointer none))
theorem ncells_set (pm pc : Nat) (l : List (Nat × List Nat)) (k : Nat) (q : Nat) (F : List Nat) : (ncells pm pc l (k + 1)).toArray.setIfInBounds (2 + l.length) (.pointer (some ⟨q, 0, none⟩)) = (ncells pm pc (l ++ [(q, F)]) k).toArray := by
  rw [List.setIfInBounds_toArray]
  congr 1
  unfold ncells
  rw [show 2 + l.length = l.length + 1 + 1 by omega, List.set_cons_succ, List.set_cons_succ, List.set_append_right _ _ (by simp)]
  simp [List.replicate_succ]

theorem kp_new (n : Int) (w : World) {K : Value → World → Prop} (h0 : n < 1 ∨ 1024 < n → K (.pointer none) w)
    (h1 : ∀ (k p : Nat) (F : List Nat) (w' : World), n = k → 1 ≤ k → k ≤ 1024 → KP w' p (init9 k) F → Mod [] w w' → Beyond w.heap.size F → K (.pointer (some ⟨p, 0, none⟩)) w') :
    CallsR Tryz.prog F_exomem_New #[.int .i64 n] w K := by
  apply R_exomem_New_ok
  simp only [R_exomem_New, spl_decide]
  refine mem_new n w (fun h => ⟨_, rfl, spl_t rfl (h0 h)⟩) (fun k pm Fm w1 hn hk1 hk2 gm m1 bm => ⟨_, rfl, spl_f rfl ?_⟩)
  have s1 := (Sep.nil (Mod.refl [] w)).push (memPart pm _ Fm) m1 gm bm
  refine pnew_run fun pc Fc w2 gc m2 bc => ⟨_, rfl, ?_⟩
  have s2 := s1.push (cpPart pc _ Fc) m2 gc bc
  have s2 := s2.push (prtsPart (nparts [])) (Mod.refl [] w2) (Prts.nil w2) (by intro x hx; cases hx)
  refine s2.new fun b w3 s3 m3 hb => ?_
  refine ⟨fun n t w' => ∃ l : List (Nat × List Nat), t = l.length ∧ l.length ≤ 12 ∧ n = 12 - l.length ∧ Sep w w' [blk b (.cells (ncells pm pc l (12 - l.length)).toArray _ (0, 0)), prtsPart (nparts l), cpPart pc ⟨[], 0⟩ Fc, memPart pm (List.replicate k (List.replicate 32 0)) Fm], ⟨12, [], rfl, by decide, rfl, s3⟩, ?_⟩
  clear s1 s2 s3
  rintro n' t - w4 ⟨l, rfl, hl, rfl, s4⟩
  refine ⟨fun hlt => ?_, fun hge => ?_⟩
  · rw [drK_eq]
    have s5 := s4.mod0 ((Mod.refl [] w4).drew)
    generalize w4.drew = w5 at s5 ⊢
    refine ⟨[], mmu_new w5 fun q F w6 g6 m6 b6 => ⟨_, rfl, ⟨by omega, by omega⟩, ?_⟩⟩
    have h5 : Prts w5 (nparts l) := s5.nth 1 rfl
    have hnew : Prts w6 (nparts (l ++ [(q, F)])) := by
      unfold nparts
      rw [List.map_append]
      exact (h5.mod0 m6).snoc g6 fun x hx hx' => by have := b6 x hx; have := h5.lt x hx'; omega
    have s6 := s5.step 1 rfl (prtsPart (nparts (l ++ [(q, F)]))) hnew m6.of0 (fun x hx => by
      have hx : x ∈ PF (nparts (l ++ [(q, F)])) := hx
      unfold nparts at hx
      rw [List.map_append, PF_append, List.mem_append] at hx
      refine hx.imp id fun hx => b6 x ?_
      simpa [PF, tblPart] using hx)
    obtain ⟨d, hd⟩ : ∃ d, 12 - l.length = d + 1 := ⟨12 - l.length - 1, by omega⟩
    rw [hd] at s6
    rw [addr_add, Int.toNat_natCast]
    refine s6.st 0 rfl (by simp [ncells]; omega) fun w7 s7 m7 => ?_
    refine ⟨d, by omega, l ++ [(q, F)], by rw [w64 (by omega) (by omega)]; simp, by simp; omega, by simp; omega, ?_⟩
    simp only [splice_cons, splice_nil] at s7
    rw [ncells_set pm pc l d q F] at s7
    rw [show 12 - (l ++ [(q, F)]).length = d by simp; omega]
    exact s7
  · have hl12 : l.length = 12 := by omega
    rw [hl12] at s4
    have hT : ∃ TT, Sep w w4 [blk b (.cells (ncells pm pc l (12 - 12)).toArray TT (0, 0)), prtsPart (nparts l), cpPart pc ⟨[], 0⟩ Fc, memPart pm (List.replicate k (List.replicate 32 0)) Fm] := ⟨_, s4⟩
    obtain ⟨TT, s4⟩ := hT
    let A : KA := ⟨pm, pc, fun i => ((l[i]?).getD (0, [])).1, TT, Fm, Fc, fun i => ((l[i]?).getD (0, [])).2⟩
    have e1 : nparts l = (List.range 12).map fun i => tblPart (A.q i) ((init9 k).t i) (A.Ft i) := by
      apply List.ext_getElem?
      intro i
      unfold nparts
      rw [List.getElem?_map]
      by_cases hi : i < 12
      · rw [fam_get hi, List.getElem?_eq_getElem (by omega)]
        simp [A, init9, List.getElem?_eq_getElem (show i < l.length by omega)]
      · rw [List.getElem?_eq_none (by omega), List.getElem?_eq_none (by simp; omega)]
        rfl
    have e2 : ncells pm pc l (12 - 12) = (.pointer (some ⟨A.pm, 0, none⟩) :: .pointer (some ⟨A.pc, 0, none⟩) :: (List.range 12).map fun i => Value.pointer (some ⟨A.q i, 0, none⟩)) := by
      unfold ncells
      simp only [Nat.sub_self, List.replicate_zero, List.append_nil, A]
      congr 2
      apply List.ext_getElem?
      intro i
      rw [List.getElem?_map]
      by_cases hi : i < 12
      · rw [List.getElem?_eq_getElem (show i < l.length by omega)]
        simp [hi, List.getElem?_eq_getElem (show i < l.length by omega)]
      · rw [List.getElem?_eq_none (by omega), List.getElem?_eq_none (by simp; omega)]
        rfl
    rw [e1, e2] at s4
    have hp := s4.prts
    have hP : Prts w4 (kparts b A (init9 k)) := by
      refine ⟨fun {i q} hi => ?_, fun {i j q r} hij hi hj => ?_⟩
      · rcases i with _ | _ | _ | _ | i
        · exact hp.nth (i := 0) hi
        · exact hp.nth (i := 3) hi
        · exact hp.nth (i := 2) hi
        · exact hp.nth (i := 1) hi
        · simp [kparts] at hi
      · let f : Nat → Nat := fun i => if i = 0 then 0 else if i = 1 then 3 else if i = 2 then 2 else 1
        have hf : ∀ {i : Nat} {q : Part}, (kparts b A (init9 k))[i]? = some q → [blk b (kobj A), fam 12 fun i => tblPart (A.q i) ((init9 k).t i) (A.Ft i), cpPart pc ⟨[], 0⟩ Fc, memPart pm (List.replicate k (List.replicate 32 0)) Fm][f i]? = some q ∧ i < 4 := fun {i q} hi => by
          rcases i with _ | _ | _ | _ | i
          · exact ⟨hi, by omega⟩
          · exact ⟨hi, by omega⟩
          · exact ⟨hi, by omega⟩
          · exact ⟨hi, by omega⟩
          · simp [kparts] at hi
        obtain ⟨a1, a2⟩ := hf hi
        obtain ⟨b1, b2⟩ := hf hj
        refine hp.dj (i := f i) (j := f j) ?_ a1 b1
        simp only [f]
        split <;> split <;> (try split) <;> (try split) <;> (try split) <;> (try split) <;> omega
    refine h1 k b _ w4 hn hk1 hk2 ⟨init9_T k, A, hP, rfl⟩ s4.mod fun x hx => ?_
    obtain ⟨i, q, hq, hx⟩ := mem_PF.1 hx
    rcases i with _ | _ | _ | _ | i
    · exact s4.bey 0 hq x hx
    · exact s4.bey 3 hq x hx
    · exact s4.bey 2 hq x hx
    · exact s4.bey 1 hq x hx
    · simp [kparts] at hq

end Go.Proofs
