/-
  janusref09: the reference's kernel in the heap; its contracts.
  janusref09: contracts of the reference's kernel: tidy, and what is built on it; pages, words.
  exomem: a new kernel of the reference.
-/
import Derived.Test.YthpcakhhemdibaaGreatMemR
import Derived.Test.YthpcakhhemdibaaGreatCapsA
import Derived.Test.YthpcakhhemdibaaGreatRCapsA
import Derived.Test.YthpcakhhemdibaaGreatP9A
set_option linter.unusedVariables false
set_option linter.unusedSimpArgs false
namespace Go.Proofs
open Go Go.Den

theorem TblA.congr {arr arr' : Array Value} {o : Nat} {t : Tb} (h : TblA arr o t) (hs : arr'.size = arr.size) (he : ∀ i, o ≤ i → i < o + 12 → arr'[i]? = arr[i]?) : TblA arr' o t := by
  obtain ⟨h1, h2, h3⟩ := h
  refine ⟨h1, by omega, fun i hi => ?_⟩
  obtain ⟨x, c1, c2, c3, c4⟩ := h3 i hi
  exact ⟨x, by rw [he _ (by omega) (by omega)]; exact c1, by rw [he _ (by omega) (by omega)]; exact c2, by rw [he _ (by omega) (by omega)]; exact c3, c4⟩

structure RA where
  pm : Nat
  pc : Nat
  arr : Array Value
  T : TypeId
  Fm : List Nat
  Fc : List Nat
def rparts (p : Nat) (A : RA) (s : S9) : List Part := [blk p (.cells A.arr A.T (0, 0)), memrPart A.pm s.m A.Fm, crPart A.pc s.c A.Fc]
structure RT (A : RA) (t : Nat → Tb) : Prop where
  size : A.arr.size = 146
  m : A.arr[0]? = some (.pointer (some ⟨A.pm, 0, none⟩))
  c : A.arr[1]? = some (.pointer (some ⟨A.pc, 0, none⟩))
  t : ∀ e < 12, TblA A.arr (2 + e * 12) (t e)
theorem RT.up {A : RA} {t : Nat → Tb} (h : RT A t) {e : Nat} (he : e < 12) {arr' : Array Value} {t' : Tb} (hs : arr'.size = A.arr.size) (ht : TblA arr' (2 + e * 12) t') (ho : ∀ i, i < 2 + e * 12 ∨ 2 + e * 12 + 12 ≤ i → arr'[i]? = A.arr[i]?) : RT { A with arr := arr' } (upT t e t') := by
  refine ⟨by simp only; rw [hs]; exact h.size, by simp only; rw [ho 0 (by omega)]; exact h.m, by simp only; rw [ho 1 (by omega)]; exact h.c, fun e' he' => ?_⟩
  unfold upT
  by_cases hee : e = e'
  · subst hee; rw [if_pos rfl]; exact ht
  · rw [if_neg hee]
    refine (h.t e' he').congr hs fun i h1 h2 => ho i ?_
    rcases Nat.lt_or_gt_of_ne hee with z | z
    · right; omega
    · left; omega

/-- The reference's kernel at block 'p'. -/
def KR (w : World) (p : Nat) (s : S9) (F : List Nat) : Prop := T9 s ∧ ∃ A, Prts w (rparts p A s) ∧ RT A s.t ∧ F = PF (rparts p A s)
theorem KR.lt {w : World} {p : Nat} {s : S9} {F : List Nat} (h : KR w p s F) : ∀ b ∈ F, b < w.heap.size := by
  obtain ⟨-, A, h1, -, rfl⟩ := h; exact h1.lt
theorem KR.keep {w w' : World} {p : Nat} {s : S9} {F : List Nat} (h : KR w p s F) (hk : ∀ b ∈ F, w'.heap[b]? = w.heap[b]?) : KR w' p s F := by
  obtain ⟨h0, A, h1, h2, rfl⟩ := h; exact ⟨h0, A, h1.keep hk, h2, rfl⟩
def krPart (p : Nat) (s : S9) (F : List Nat) : Part := ⟨F, fun w => KR w p s F, fun h k => h.keep k, fun h => h.lt⟩

def Small (c : S8) : Prop := c.L.length ≤ 10000 ∧ c.last ≤ 10000
theorem Small.grows {c c' : S8} (h : Grows 0 c c') (hs : Small c) : Small c' := ⟨Nat.le_trans h.1 hs.1, Int.le_trans h.2 (by have := hs.2; omega)⟩

section
variable {w w' : World} {p : Nat} {A : RA} {s : S9}
theorem rmem (h : Prts w (rparts p A s)) : MemR w A.pm s.m A.Fm := h.nth (i := 1) rfl
theorem rcr (h : Prts w (rparts p A s)) : CR w A.pc s.c A.Fc := h.nth (i := 2) rfl
theorem rblk (h : Prts w (rparts p A s)) : w.heap[p]? = some (.cells A.arr A.T (0, 0)) := h.nth (i := 0) rfl
theorem rc0 (h : Prts w (rparts p A s)) (hR : RT A s.t) : w.cell? ⟨p, 0, none⟩ = some (.pointer (some ⟨A.pm, 0, none⟩)) := by rw [cell_get (rblk h)]; exact hR.m
theorem rc1 (h : Prts w (rparts p A s)) (hR : RT A s.t) : w.cell? ⟨p, 1, none⟩ = some (.pointer (some ⟨A.pc, 0, none⟩)) := by rw [cell_get (rblk h)]; exact hR.c
theorem r_mem (h : Prts w (rparts p A s)) {m' : List (List Int)} (hp : MemR w' A.pm m' A.Fm) (hm : Mod A.Fm w w') : Prts w' (rparts p A { s with m := m' }) ∧ Mod (PF (rparts p A s)) w w' := by
  have := h.step 1 rfl (memrPart A.pm m' A.Fm) hp hm (Own.refl _ _)
  exact ⟨this.1, this.2.1⟩
theorem r_cap (h : Prts w (rparts p A s)) {c' : S8} {Fc' : List Nat} (hp : CR w' A.pc c' Fc') (hm : Mod A.Fc w w') (ho : Own w A.Fc Fc') : Prts w' (rparts p { A with Fc := Fc' } { s with c := c' }) ∧ Mod (PF (rparts p A s)) w w' ∧ Own w (PF (rparts p A s)) (PF (rparts p { A with Fc := Fc' } { s with c := c' })) :=
  h.step 2 rfl (crPart A.pc c' Fc') hp hm ho
theorem r_tbl (h : Prts w (rparts p A s)) {arr' : Array Value} (t : Nat → Tb) (hp : w'.heap[p]? = some (.cells arr' A.T (0, 0))) (hm : Mod [p] w w') : Prts w' (rparts p { A with arr := arr' } { s with t := t }) ∧ Mod (PF (rparts p A s)) w w' := by
  have := h.step 0 rfl (blk p (.cells arr' A.T (0, 0))) hp hm (Own.refl _ _)
  exact ⟨this.1, this.2.1⟩

theorem rcap_run (h : Prts w (rparts p A s)) (hR : RT A s.t) (hS : Small s.c) (e sl r : Int) {K : Value → World → Prop} (hK : ∀ w', Mod [] w w' → K (.tuple #[.int .i64 (cap9 s.c e sl r).1, .bool (cap9 s.c e sl r).2]) w') : CallsR Tryz.prog F_janusref09_Kernel_cap #[.pointer (some ⟨p, 0, none⟩), .int .i64 e, .int .i64 sl, .int .i64 r] w K := by
  apply R_janusref09_Kernel_cap_ok
  simp only [R_janusref09_Kernel_cap, nilK_some, addr_add, Nat.zero_add, drK_eq]
  refine ⟨_, rc1 h hR, get8_run (rcr h) (by have := hS.1; omega) e sl fun w1 m1 => ⟨_, _, _, _, _, rfl, ?_⟩⟩
  refine (Sep.nil m1).new fun b w2 s2 m2 hb => s2.st0 0 rfl rfl fun w3 s3 m3 => ?_
  have s4 := s3.mod0 ((Mod.refl [] w3).drew)
  generalize w3.drew = w4 at s4 ⊢
  have hK := hK w4 s4.mod
  unfold cap9 at hK
  refine ⟨_, s4.cell 0 rfl rfl, spl_of (fun ht => ⟨_, s4.cell 0 rfl rfl, ?_⟩) (fun hf => ?_)⟩
  · rw [ht] at hK; exact hK
  · rw [hf] at hK; exact hK
end

section
variable {w : World} {p : Nat} {s : S9} {F : List Nat}

theorem kr_alloc (h : KR w p s F) (hS : Small s.c) (e : Int) {K : Value → World → Prop} (hK : ∀ w' F', KR w' p (allocS s e) F' → Mod F w w' → Own w F F' → K (.tuple #[.int .i64 (allocV s e).1, .int .i64 (allocV s e).2]) w') :
    CallsR Tryz.prog F_janusref09_Kernel_Alloc #[.pointer (some ⟨p, 0, none⟩), .int .i64 e] w K := by
  obtain ⟨hT, A, h1, hR, rfl⟩ := h
  apply R_janusref09_Kernel_Alloc_ok
  simp only [R_janusref09_Kernel_Alloc, nilK_some, addr_add, Nat.zero_add, spl_decide]
  obtain ⟨hS1, hS2⟩ := hS
  refine env8_run e ⟨_, rfl, ?_⟩
  rw [spl_decide]
  refine ⟨fun he => ?_, fun he => ?_⟩
  rotate_left
  · unfold allocS allocV at hK
    rw [if_neg he, if_neg he] at hK
    exact hK w _ ⟨hT, A, h1, hR, rfl⟩ (Mod.refl _ _) (Own.refl _ _)
  have hle : s.m.length ≤ 1024 := by obtain ⟨_, _, _, _, _, _, _, _, _, _, _, _, _, _, h5⟩ := rmem h1; exact h5
  refine ⟨fun n t w' => ∃ j : Nat, t = j ∧ j ≤ s.m.length ∧ n = s.m.length - j ∧ (∀ f < j, free9 s.c (f : Nat) = false) ∧ Mod [] w w', ⟨s.m.length, 0, rfl, by omega, rfl, fun f hf => by omega, Mod.refl _ _⟩, ?_⟩
  rintro n t - w1 ⟨j, rfl, hj, rfl, hno, m1⟩
  have h2 := h1.mod0 m1
  obtain ⟨Tm, am, cm, hpm⟩ := memr_ptr (rmem h2)
  refine ⟨_, rc0 h2 hR, ?_⟩
  rw [nilK_some]
  refine ⟨_, _, _, by rw [cell_get hpm]; rfl, fun hlt => ?_, fun hge => ?_⟩
  · refine ⟨_, rc1 h2 hR, holders8_run (rcr h2) (by omega) 1 j (wf64_of (by omega) (by omega)) fun a c w2 G hs hG m2 _ => ⟨_, _, _, rfl, fun hgt => ?_, fun hng => ?_⟩⟩
    · refine ⟨s.m.length - (j + 1), by omega, j + 1, by rw [w64 (by omega) (by omega)]; omega, by omega, rfl, fun f hf2 => ?_, m1.trans' m2⟩
      rcases Nat.lt_or_ge f j with z | z
      · exact hno f z
      · have : f = j := by omega
        subst this
        unfold free9
        rw [List.isEmpty_eq_false_iff]
        intro e0
        rw [e0] at hgt
        simp at hgt
    · have ht : free9 s.c (j : Nat) = true := by
        unfold free9
        cases hh : holders8 s.c.L 1 j with
        | nil => rfl
            | cons x l => rw [hh] at hng; simp at hng
      have h3 := h2.mod0 m2
      have hfirst : first9 s = some j := by
        unfold first9
        rw [List.find?_range_eq_some]
        exact ⟨ht, List.mem_range.2 (by omega), fun i hi => by rw [hno i hi]; rfl⟩
      have hcap : fcap j = ⟨1, (j : Int), 1, 7⟩ := rfl
      refine ⟨_, rc1 h3 hR, add8_run (rcr h3) (by omega) (by omega) e ⟨1, j, 1, 7⟩ fun w3 F3 g3 m3 o3 => ⟨_, _, rfl, ?_⟩⟩
      obtain ⟨h4, m4, o4⟩ := r_cap h3 g3 m3 o3
      have m24 := (m1.trans' m2).of0 (S := PF (rparts p A s))
      unfold allocS allocV at hK
      rw [if_pos he, if_pos he, hfirst] at hK
      simp only [hcap] at hK
      refine spl_of (fun hz => ?_) (fun hz => ?_)
      · have hz : (addV8 s.c e ⟨1, j, 1, 7⟩).2 = 0 := by simpa using hz
        refine ⟨_, rc0 h4 ⟨hR.size, hR.m, hR.c, hR.t⟩, rmZero (rmem h4) j fun w5 n5 g5 m5 => ⟨_, rfl, ?_⟩⟩
        obtain ⟨h6, m6⟩ := r_mem h4 g5 m5
        rw [if_pos hz] at hK
        refine hK w5 _ ⟨hT, _, h6, ⟨hR.size, hR.m, hR.c, hR.t⟩, rfl⟩ ((m24.trans' m4).trans m6 fun b hb hlt => ?_) (fun b hb => (o4 b hb).imp id fun hh => by have := m24.size; omega)
        rcases o4 b hb with hh | hh
        · exact hh
        · have := m24.size; omega
      · have hz : (addV8 s.c e ⟨1, j, 1, 7⟩).2 ≠ 0 := by simpa using hz
        rw [if_neg hz] at hK
        exact hK w3 _ ⟨hT, _, h4, ⟨hR.size, hR.m, hR.c, hR.t⟩, rfl⟩ (m24.trans' m4) (fun b hb => (o4 b hb).imp id fun hh => by have := m24.size; omega)
  · have hfirst : first9 s = none := by
      unfold first9
      rw [List.find?_eq_none]
      intro f hf
      rw [List.mem_range] at hf
      rw [hno f (by omega)]
      simp
    unfold allocS allocV at hK
    rw [if_pos he, if_pos he, hfirst] at hK
    exact hK w1 _ ⟨hT, A, h2, hR, rfl⟩ m1.of0 (Own.refl _ _)

end

end Go.Proofs

set_option linter.unusedSimpArgs false
namespace Go.Proofs
open Go Go.Den

theorem RT.eqv {A : RA} {t t' : Nat → Tb} (h : RT A t) (ht : ∀ e < 12, t' e = t e) : RT A t' := ⟨h.size, h.m, h.c, fun e he => by rw [ht e he]; exact h.t e he⟩

section
variable {w : World} {p : Nat} {s : S9} {F : List Nat}

/-- One environment's table of the reference is tidied. -/
theorem rtidy_run (hT : T9 s) (hS : Small s.c) {A : RA} (h : Prts w (rparts p A s)) (hR : RT A s.t) {K : Value → World → Prop} (hK : ∀ w' arr', Prts w' (rparts p { A with arr := arr' } (tidyS s)) → RT { A with arr := arr' } (tidyS s).t → Mod (PF (rparts p A s)) w w' → K (.tuple #[]) w') : CallsR Tryz.prog F_janusref09_Kernel_tidy #[.pointer (some ⟨p, 0, none⟩)] w K := by
  apply R_janusref09_Kernel_tidy_ok
  simp only [R_janusref09_Kernel_tidy, nilK_some, addr_add, Nat.zero_add, spl_decide]
  obtain ⟨hS1, hS2⟩ := hS
  have pin : p ∈ PF (rparts p A s) := mem_PF.2 ⟨0, _, rfl, by simp [blk]⟩
  refine ⟨fun n t w' => ∃ (e : Nat) (arr' : Array Value), t = e ∧ e ≤ 12 ∧ n = 12 - e ∧ Prts w' (rparts p { A with arr := arr' } (tidyN s e)) ∧ RT { A with arr := arr' } (tidyN s e).t ∧ Mod (PF (rparts p A s)) w w', ⟨12, 0, A.arr, rfl, by omega, rfl, by rw [tidyN_0]; exact h, by rw [tidyN_0]; exact hR, Mod.refl _ _⟩, ?_⟩
  rintro n t - w1 ⟨e, arr1, rfl, he, rfl, h1, hR1, m1⟩
  refine ⟨fun hlt => ?_, fun hge => ?_⟩
  · have he12 : e < 12 := by omega
    have hok : TbOk (s.t e) := by have := (hR.t e he12).1; exact this
    have e0 : ∀ q, (upT (tidyN s e).t e (partT s.c e (s.t e) 0)) q = (tidyN s e).t q := fun q => by
      unfold upT
      split
      · rename_i hq; subst hq; rw [partT_0 _ _ hok, tidyN_at]
      · rfl
    refine ⟨fun n t w' => ∃ (j : Nat) (arr' : Array Value), t = j ∧ j ≤ 4 ∧ n = 4 - j ∧ Prts w' (rparts p { A with arr := arr' } s) ∧ RT { A with arr := arr' } (upT (tidyN s e).t e (partT s.c e (s.t e) j)) ∧ Mod (PF (rparts p A s)) w w', ⟨4, 0, arr1, rfl, by omega, rfl, h1, hR1.eqv fun q _ => e0 q, m1⟩, ?_⟩
    rintro n t - w2 ⟨j, arr2, rfl, hj, rfl, h2, hR2, m2⟩
    refine ⟨fun hlt2 => ?_, fun hge2 => ?_⟩
    · refine ⟨fun w' => ∃ (arr' : Array Value), Prts w' (rparts p { A with arr := arr' } s) ∧ RT { A with arr := arr' } (upT (tidyN s e).t e (partT s.c e (s.t e) (j + 1))) ∧ Mod (PF (rparts p A s)) w w', ?_, ?_⟩
      · rintro - w' ⟨arr', z1, z2, z3⟩
        exact ⟨4 - (j + 1), by omega, j + 1, arr', by rw [w64 (by omega) (by omega)]; omega, by omega, rfl, z1, z2, z3⟩
      have hta : TblA arr2 (2 + e * 12) (partT s.c e (s.t e) j) := by have := hR2.t e he12; rwa [upT_at] at this
      rw [Int.toNat_natCast]
      refine ⟨⟨by omega, by omega⟩, tblr_at (rblk h2) hta j fun w3 m3 => ⟨_, _, _, rfl, ?_⟩⟩
      rw [partT_at]
      refine (Sep.nil m3).new fun bx w4 s4 m4 hbx => s4.st0 0 rfl rfl fun w5 s5 m5 => ?_
      have h5 := h2.mod0 s5.mod
      have m15 := m2.trans' (s5.mod.of0 (S := PF (rparts p A s)))
      cases htj : s.t e j with
      | none =>
        refine spl_f rfl ⟨arr2, h5, ?_, m15⟩
        rw [partT_keep (by unfold tidyT; rw [htj])]
        exact hR2
      | some x =>
        rw [htj] at s5
        have hxwf := hT.wf htj
        refine spl_t rfl ⟨fun need w' => need = need9 x.2 ∧ w' = w5, ?_, ?_⟩
        · rintro need - w' ⟨rfl, rfl⟩
          rw [drK_eq]
          have s6 := s5.mod0 ((Mod.refl [] w').drew)
          have h6 := h5.mod0 ((Mod.refl [] w').drew)
          have m16 := m15.drew
          generalize w'.drew = w6 at s6 h6 m16 ⊢
          refine ⟨_, by rw [cell_get (rblk h6)]; exact hR2.c, _, s6.cell 0 rfl rfl, ?_⟩
          refine has8_run (rcr h6) (by omega) e 1 x.1 (need9 x.2) hxwf (need9_wf x.2) fun w7 m7 => ⟨_, rfl, spl_of (fun hh => ⟨arr2, h6.mod0 m7, ?_, m16.trans' m7.of0⟩) (fun hh => ?_)⟩
          · rw [partT_keep (by unfold tidyT; rw [htj]; simp only; unfold holds9; rw [if_pos hh])]
            exact hR2
          · have h7 := h6.mod0 m7
            refine ⟨⟨by omega, by omega⟩, tblr_unmap (rblk h7) hta j fun arr' w8 g1 g2 g3 g4 m8 => ⟨_, rfl, arr', ?_, ?_, (m16.trans' m7.of0).trans' (m8.mono fun z hz => by simp only [List.mem_singleton] at hz; subst hz; exact pin)⟩⟩
            · exact (r_tbl h7 s.t g1 m8).1
            · rw [partT_del (by unfold tidyT; rw [htj]; simp only; unfold holds9; rw [if_neg (by rw [hh]; simp)])]
              have := hR2.up he12 g2 g3 g4
              rw [upT_up] at this
              exact this
        · refine ⟨_, s5.cell 0 rfl rfl, spl_of (fun hb => ⟨?_, rfl⟩) (fun hb => ⟨?_, rfl⟩)⟩
          · rw [show x.2 = true from hb]; rfl
          · rw [show x.2 = false from hb]; rfl
    · obtain rfl : j = 4 := by omega
      refine ⟨12 - (e + 1), by omega, e + 1, arr2, by rw [w64 (by omega) (by omega)]; omega, by omega, rfl, h2, ?_, m2⟩
      rw [partT_4 _ _ hok] at hR2
      rw [tidyN_succ]
      exact hR2
  · obtain rfl : e = 12 := by omega
    exact hK w1 arr1 h1 (hR1.eqv fun q hq => by unfold tidyN tidyS; simp only; rw [if_pos hq]) m1

theorem kr_free (h : KR w p s F) (hS : Small s.c) (e sl : Int) {K : Value → World → Prop} (hK : ∀ w' F', KR w' p (freeS s e sl) F' → Mod F w w' → Own w F F' → K (.int .i64 (dropV8 s.c e sl).2) w') :
    CallsR Tryz.prog F_janusref09_Kernel_Free #[.pointer (some ⟨p, 0, none⟩), .int .i64 e, .int .i64 sl] w K := by
  obtain ⟨hT, A, h1, hR, rfl⟩ := h
  apply R_janusref09_Kernel_Free_ok
  simp only [R_janusref09_Kernel_Free, nilK_some, addr_add, Nat.zero_add]
  refine ⟨_, rc1 h1 hR, drop8_run (rcr h1) (by have := hS.1; omega) e sl fun w1 F1 g1 m1 o1 => ⟨_, _, rfl, ?_⟩⟩
  obtain ⟨h2, m2, o2⟩ := r_cap h1 g1 m1 o1
  refine rtidy_run (hT.c _) (hS.grows (dropS8_len ..)) h2 ⟨hR.size, hR.m, hR.c, hR.t⟩ fun w3 arr3 h3 hR3 m3 => ⟨rfl, hK w3 _ ⟨(hT.c _).tidy, _, h3, hR3, rfl⟩ (m2.trans m3 fun b hb hlt => ?_) o2⟩
  exact (o2 b hb).elim id fun hh => by omega
theorem kr_revoke (h : KR w p s F) (hS : Small s.c) (e sl : Int) {K : Value → World → Prop} (hK : ∀ w' F', KR w' p (revS s e sl) F' → Mod F w w' → Own w F F' → K (.int .i64 (revokeV8 s.c e sl).2) w') :
    CallsR Tryz.prog F_janusref09_Kernel_Revoke #[.pointer (some ⟨p, 0, none⟩), .int .i64 e, .int .i64 sl] w K := by
  obtain ⟨hT, A, h1, hR, rfl⟩ := h
  apply R_janusref09_Kernel_Revoke_ok
  simp only [R_janusref09_Kernel_Revoke, nilK_some, addr_add, Nat.zero_add]
  refine ⟨_, rc1 h1 hR, revoke8_run (rcr h1) (by have := hS.1; omega) e sl fun w1 F1 g1 m1 o1 => ⟨_, _, rfl, ?_⟩⟩
  obtain ⟨h2, m2, o2⟩ := r_cap h1 g1 m1 o1
  refine rtidy_run (hT.c _) (hS.grows (revokeS8_len ..)) h2 ⟨hR.size, hR.m, hR.c, hR.t⟩ fun w3 arr3 h3 hR3 m3 => ⟨rfl, hK w3 _ ⟨(hT.c _).tidy, _, h3, hR3, rfl⟩ (m2.trans m3 fun b hb hlt => ?_) o2⟩
  exact (o2 b hb).elim id fun hh => by omega
theorem kr_map (h : KR w p s F) (hS : Small s.c) (e q sl : Int) (b : Bool) {K : Value → World → Prop} (hK : ∀ w', KR w' p (mapS s e q sl b) F → Mod F w w' → K (.int .i64 (mapV s e q sl b)) w') :
    CallsR Tryz.prog F_janusref09_Kernel_Map #[.pointer (some ⟨p, 0, none⟩), .int .i64 e, .int .i64 q, .int .i64 sl, .bool b] w K := by
  obtain ⟨hT, A, h1, hR, rfl⟩ := h
  have hW8 : W8 s.c := (rcr h1).1
  apply R_janusref09_Kernel_Map_ok
  simp only [R_janusref09_Kernel_Map, spl_decide, nilK_some, addr_add, Nat.zero_add]
  have bad : ¬ (env12 e ∧ in4 q) → K (.int .i64 101) w := fun hn => by
    unfold mapS mapV at hK
    rw [if_neg hn, if_neg fun z => hn z.1] at hK
    exact hK w ⟨hT, A, h1, hR, rfl⟩ (Mod.refl _ _)
  refine env8_run e ⟨_, rfl, ?_⟩
  rw [spl_decide]
  refine ⟨fun he => ⟨fun hq => bad fun z => by have := z.2; unfold in4 at this; omega, fun hq => ⟨fun hq2 => bad fun z => by have := z.2; unfold in4 at this; omega, fun hq2 => ?_⟩⟩, fun he => bad fun z => he z.1⟩
  have hin : env12 e ∧ in4 q := ⟨he, ⟨by omega, by omega⟩⟩
  refine ⟨fun need w' => need = need9 b ∧ w' = w, ?_, by cases b with
    | true => exact spl_t rfl ⟨rfl, rfl⟩
    | false => exact spl_f rfl ⟨rfl, rfl⟩⟩
  rintro need - w' ⟨rfl, rfl⟩
  refine rcap_run h1 hR hS e sl (need9 b) fun w1 m1 => ⟨_, _, rfl, spl_of (fun hc => ?_) (fun hc => ?_)⟩
  · have h2 := h1.mod0 m1
    have he12 : e.toNat < 12 := by unfold env12 at he; omega
    refine ⟨⟨he.1, he.2⟩, tblr_map (rblk h2) (hR.t _ he12) q _ b fun arr' w3 g1 g2 g3 g4 m3 => ⟨_, rfl, ?_⟩⟩
    have hTm := hT.map hW8 e q sl b
    have e1 : mapS s e q sl b = { s with t := upT s.t e.toNat (tMap (s.t e.toNat) q ((cap9 s.c e sl (need9 b)).1, b)) } := by unfold mapS; rw [if_pos ⟨hin, hc⟩]
    obtain ⟨h4, m4⟩ := r_tbl h2 (upT s.t e.toNat (tMap (s.t e.toNat) q ((cap9 s.c e sl (need9 b)).1, b))) g1 m3
    unfold mapV at hK
    rw [if_pos hin, if_pos hc] at hK
    exact hK w3 ⟨hTm, _, by rw [e1]; exact h4, by rw [e1]; exact hR.up he12 g2 g3 g4, by rw [e1]; rfl⟩ (m1.of0.trans' m4)
  · unfold mapS mapV at hK
    rw [if_pos hin, if_neg (by rw [hc]; simp), if_neg fun z => by rw [hc] at z; simp at z] at hK
    exact hK w1 ⟨hT, A, h1.mod0 m1, hR, rfl⟩ m1.of0
theorem kr_unmap (h : KR w p s F) (e q : Int) {K : Value → World → Prop} (hK : ∀ w', KR w' p (unmapS s e q) F → Mod F w w' → K (.int .i64 (unmapV s e q)) w') :
    CallsR Tryz.prog F_janusref09_Kernel_Unmap #[.pointer (some ⟨p, 0, none⟩), .int .i64 e, .int .i64 q] w K := by
  obtain ⟨hT, A, h1, hR, rfl⟩ := h
  apply R_janusref09_Kernel_Unmap_ok
  simp only [R_janusref09_Kernel_Unmap, nilK_some, addr_add, Nat.zero_add]
  refine env8_run e ⟨_, rfl, ?_⟩
  rw [spl_decide]
  refine ⟨fun he => ?_, fun he => ?_⟩
  · have he12 : e.toNat < 12 := by unfold env12 at he; omega
    refine ⟨⟨he.1, he.2⟩, tblr_unmap (rblk h1) (hR.t _ he12) q fun arr' w3 g1 g2 g3 g4 m3 => ⟨_, rfl, ?_⟩⟩
    have hTu := hT.unmap e q
    have e1 : unmapS s e q = { s with t := upT s.t e.toNat (tdel (s.t e.toNat) q) } := by unfold unmapS; rw [if_pos he]
    obtain ⟨h4, m4⟩ := r_tbl h1 (upT s.t e.toNat (tdel (s.t e.toNat) q)) g1 m3
    unfold unmapV at hK
    rw [if_pos he] at hK
    exact hK w3 ⟨hTu, _, by rw [e1]; exact h4, by rw [e1]; exact hR.up he12 g2 g3 g4, by rw [e1]; rfl⟩ m4
  · unfold unmapS unmapV at hK
    rw [if_neg he, if_neg he] at hK
    exact hK w ⟨hT, A, h1, hR, rfl⟩ (Mod.refl _ _)
theorem kr_load (h : KR w p s F) (e : Int) {a : Int} (ha : 0 ≤ a) {K : Value → World → Prop} (hK : ∀ w', Mod [] w w' → K (.tuple #[.int .u64 (loadV s e a).1, .int .i64 (loadV s e a).2]) w') :
    CallsR Tryz.prog F_janusref09_Kernel_Load #[.pointer (some ⟨p, 0, none⟩), .int .i64 e, .int .u64 a] w K := by
  obtain ⟨hT, A, h1, hR, rfl⟩ := h
  apply R_janusref09_Kernel_Load_ok
  simp only [R_janusref09_Kernel_Load, spl_bne, nilK_some, addr_add, Nat.zero_add]
  unfold loadV at hK
  refine env8_run e ⟨_, rfl, ?_⟩
  rw [spl_decide]
  refine ⟨fun he => ?_, fun he => ?_⟩
  · have he12 : e.toNat < 12 := by unfold env12 at he; omega
    rw [if_pos he] at hK
    refine ⟨⟨he.1, he.2⟩, tblr_walk (rblk h1) (hR.t _ he12) ha false fun w1 m1 => ⟨_, _, _, rfl, fun hne => ?_, fun heq => ?_⟩⟩
    · rw [if_neg hne] at hK
      exact hK w1 m1
    · rw [if_pos heq] at hK
      have h2 := h1.mod0 m1
      exact ⟨_, rc0 h2 hR, rmRead (rmem h2) _ _ ⟨_, _, rfl, hK w1 m1⟩⟩
  · rw [if_neg he] at hK
    exact hK w (Mod.refl _ _)
theorem kr_store (h : KR w p s F) (e : Int) {a : Int} (ha : 0 ≤ a) (v : Int) {K : Value → World → Prop} (hK : ∀ w', KR w' p (storeS s e a v) F → Mod F w w' → K (.int .i64 (storeV s e a)) w') :
    CallsR Tryz.prog F_janusref09_Kernel_Store #[.pointer (some ⟨p, 0, none⟩), .int .i64 e, .int .u64 a, .int .u64 v] w K := by
  obtain ⟨hT, A, h1, hR, rfl⟩ := h
  apply R_janusref09_Kernel_Store_ok
  simp only [R_janusref09_Kernel_Store, spl_bne, nilK_some, addr_add, Nat.zero_add]
  unfold storeV storeS at hK
  refine env8_run e ⟨_, rfl, ?_⟩
  rw [spl_decide]
  refine ⟨fun he => ?_, fun he => ?_⟩
  · have he12 : e.toNat < 12 := by unfold env12 at he; omega
    rw [if_pos he] at hK
    refine ⟨⟨he.1, he.2⟩, tblr_walk (rblk h1) (hR.t _ he12) ha true fun w1 m1 => ⟨_, _, _, rfl, fun hne => ?_, fun heq => ?_⟩⟩
    · rw [if_neg hne, if_neg fun z => hne z.2] at hK
      exact hK w1 ⟨hT, A, h1.mod0 m1, hR, rfl⟩ m1.of0
    · rw [if_pos heq, if_pos ⟨he, heq⟩] at hK
      have h2 := h1.mod0 m1
      refine ⟨_, rc0 h2 hR, rmWrite (rmem h2) _ _ v fun w3 g3 m3 => ⟨_, rfl, ?_⟩⟩
      obtain ⟨h4, m4⟩ := r_mem h2 g3 m3
      exact hK w3 ⟨hT.m _, A, h4, hR, rfl⟩ (m1.of0.trans' m4)
  · rw [if_neg he, if_neg fun z => he z.1] at hK
    exact hK w ⟨hT, A, h1, hR, rfl⟩ (Mod.refl _ _)
theorem kr_copy (h : KR w p s F) (hS : Small s.c) (e a b : Int) {K : Value → World → Prop} (hK : ∀ w', KR w' p (copyS s e a b) F → Mod F w w' → K (.int .i64 (copyV s e a b)) w') :
    CallsR Tryz.prog F_janusref09_Kernel_Copy #[.pointer (some ⟨p, 0, none⟩), .int .i64 e, .int .i64 a, .int .i64 b] w K := by
  obtain ⟨hT, A, h1, hR, rfl⟩ := h
  apply R_janusref09_Kernel_Copy_ok
  simp only [R_janusref09_Kernel_Copy, nilK_some]
  unfold copyV copyS at hK
  refine rcap_run h1 hR hS e a 2 fun w1 m1 => ⟨_, _, rfl, ?_⟩
  have h2 := h1.mod0 m1
  refine rcap_run h2 hR hS e b 1 fun w2 m2 => ⟨_, _, rfl, ?_⟩
  have h3 := h2.mod0 m2
  have m12 := m1.trans' m2
  refine spl_of (fun hc => spl_of (fun hd => ?_) (fun hd => ?_)) (fun hc => ?_)
  · rw [if_pos ⟨hc, hd⟩, if_pos ⟨hc, hd⟩] at hK
    refine ⟨_, rc0 h3 hR, rmCopy (rmem h3) _ _ fun w4 g4 m4 => ⟨_, rfl, ?_⟩⟩
    obtain ⟨h5, m5⟩ := r_mem h3 g4 m4
    exact hK w4 ⟨hT.m _, A, h5, hR, rfl⟩ (m12.of0.trans' m5)
  · rw [if_neg fun z => by rw [hd] at z; simp at z, if_neg fun z => by rw [hd] at z; simp at z] at hK
    exact hK w2 ⟨hT, A, h3, hR, rfl⟩ m12.of0
  · rw [if_neg fun z => by rw [hc] at z; simp at z, if_neg fun z => by rw [hc] at z; simp at z] at hK
    exact hK w2 ⟨hT, A, h3, hR, rfl⟩ m12.of0
theorem kr_read (h : KR w p s F) (hS : Small s.c) (e sl d : Int) {K : Value → World → Prop} (hK : ∀ w', Mod [] w w' → K (.tuple #[.int .u64 (readV s e sl d).1, .int .i64 (readV s e sl d).2]) w') :
    CallsR Tryz.prog F_janusref09_Kernel_Read #[.pointer (some ⟨p, 0, none⟩), .int .i64 e, .int .i64 sl, .int .i64 d] w K := by
  obtain ⟨hT, A, h1, hR, rfl⟩ := h
  apply R_janusref09_Kernel_Read_ok
  simp only [R_janusref09_Kernel_Read, nilK_some]
  unfold readV at hK
  refine rcap_run h1 hR hS e sl 1 fun w1 m1 => ⟨_, _, rfl, spl_of (fun hc => ?_) (fun hc => ?_)⟩
  · rw [if_pos hc] at hK
    have h2 := h1.mod0 m1
    exact ⟨_, rc0 h2 hR, rmRead (rmem h2) _ _ ⟨_, _, rfl, hK w1 m1⟩⟩
  · rw [if_neg (by rw [hc]; simp)] at hK
    exact hK w1 m1
theorem kr_write (h : KR w p s F) (hS : Small s.c) (e sl d v : Int) {K : Value → World → Prop} (hK : ∀ w', KR w' p (writeS s e sl d v) F → Mod F w w' → K (.int .i64 (writeV s e sl d)) w') :
    CallsR Tryz.prog F_janusref09_Kernel_Write #[.pointer (some ⟨p, 0, none⟩), .int .i64 e, .int .i64 sl, .int .i64 d, .int .u64 v] w K := by
  obtain ⟨hT, A, h1, hR, rfl⟩ := h
  apply R_janusref09_Kernel_Write_ok
  simp only [R_janusref09_Kernel_Write, nilK_some]
  unfold writeV writeS at hK
  refine rcap_run h1 hR hS e sl 2 fun w1 m1 => ⟨_, _, rfl, spl_of (fun hc => ?_) (fun hc => ?_)⟩
  · rw [if_pos hc, if_pos hc] at hK
    have h2 := h1.mod0 m1
    refine ⟨_, rc0 h2 hR, rmWrite (rmem h2) _ _ v fun w3 g3 m3 => ⟨_, rfl, ?_⟩⟩
    obtain ⟨h4, m4⟩ := r_mem h2 g3 m3
    exact hK w3 ⟨hT.m _, A, h4, hR, rfl⟩ (m1.of0.trans' m4)
  · rw [if_neg (by rw [hc]; simp), if_neg (by rw [hc]; simp)] at hK
    exact hK w1 ⟨hT, A, h1.mod0 m1, hR, rfl⟩ m1.of0
end

end Go.Proofs

set_option linter.unusedSimpArgs false
namespace Go.Proofs
open Go Go.Den

/-- The cells of a table that is empty. -/
def tz : List Value := [.int .i64 0, .bool false, .int .i64 0, .bool false, .int .i64 0, .bool false, .int .i64 0, .bool false, .bool false, .bool false, .bool false, .bool false]
def rz (pm pc : Nat) : Array Value := (Value.pointer (some ⟨pm, 0, none⟩) :: .pointer (some ⟨pc, 0, none⟩) :: (List.replicate 12 tz).flatten).toArray
theorem rz_at (pm pc : Nat) {e j : Nat} (he : e < 12) (hj : j < 12) : (rz pm pc)[2 + e * 12 + j]? = tz[j]? := by
  unfold rz
  rw [show 2 + e * 12 + j = e * 12 + j + 1 + 1 by omega]
  simp only [List.getElem?_toArray, List.getElem?_cons_succ]
  exact flatten_at (k := 12) (fun vs hv => by rw [List.eq_of_mem_replicate hv]; rfl) (by rw [List.getElem?_replicate, if_pos he]) hj
theorem rz_size (pm pc : Nat) : (rz pm pc).size = 146 := by kernel_rfl
theorem rz_tbl (pm pc : Nat) {e : Nat} (he : e < 12) : TblA (rz pm pc) (2 + e * 12) (fun _ => none) := by
  refine ⟨fun k x h => (by cases h), by rw [rz_size]; omega, fun i hi => ⟨(0, false), ?_, ?_, ?_, fun y h => (by cases h)⟩⟩
  · rw [rz_at pm pc he (by omega)]
    rcases i with _ | _ | _ | _ | i <;> first | rfl | omega
  · rw [Nat.add_assoc, rz_at pm pc he (by omega)]
    rcases i with _ | _ | _ | _ | i <;> first | rfl | omega
  · rw [Nat.add_assoc, rz_at pm pc he (by omega)]
    rcases i with _ | _ | _ | _ | i <;> first | rfl | omega

theorem kr_new_gen {w : World} {pm k : Nat} {Fm : List Nat} (gm : MemR w pm (List.replicate k (List.replicate 32 0)) Fm) {T1 T2 : TypeId} {arr : Nat → Array Value} (ha : ∀ b, arr b = rz pm b) {K : Value → World → Prop}
    (hK : ∀ p F w', KR w' p (init9 k) F → Mod [] w w' → (∀ x ∈ F, x ∈ Fm ∨ w.heap.size ≤ x) → K (.pointer (some ⟨p, 0, none⟩)) w') :
    newK w (.cells #[.slice none 0 0, .int .i64 0] T1) fun b5 w6 => newK w6 (.cells (arr b5) T2) fun b7 w8 => K (.pointer (some ⟨b7, 0, none⟩)) w8 := by
  rw [newK_eq]
  have hc1 := alloc_new w (.cells #[.slice none 0 0, .int .i64 0] T1)
  have hm1 : Mod [] w (w.alloc (.cells #[.slice none 0 0, .int .i64 0] T1)) := (Mod.refl _ _).alloc _
  have hs1 := alloc_size w (.cells #[.slice none 0 0, .int .i64 0] T1)
  generalize w.alloc (.cells #[.slice none 0 0, .int .i64 0] T1) = w1 at hc1 hm1 hs1 ⊢
  rw [newK_eq]
  have hc2 := alloc_new w1 (.cells (arr w.heap.size) T2)
  have hm2 : Mod [] w1 (w1.alloc (.cells (arr w.heap.size) T2)) := (Mod.refl _ _).alloc _
  generalize w1.alloc (.cells (arr w.heap.size) T2) = w2 at hc2 hm2 ⊢
  have hlt := gm.lt
  have g1 : CR w2 w.heap.size ⟨[], 0⟩ [w.heap.size] := ⟨W8.nil, none, 0, 0, [], T1, hm2.get hc1 (by simp), SlB.nil _ 8, by simp, rfl⟩
  have g2 : MemR w2 pm (List.replicate k (List.replicate 32 0)) Fm := gm.keep ((hm1.trans' hm2).at0 gm.lt)
  let A : RA := ⟨pm, w.heap.size, arr w.heap.size, T2, Fm, [w.heap.size]⟩
  have hP : Prts w2 (rparts w1.heap.size A (init9 k)) := by
    refine (((Prts.nil w2).cons (p := crPart w.heap.size ⟨[], 0⟩ [w.heap.size]) g1 (by intro x _ hx; cases hx)).cons (p := memrPart pm (List.replicate k (List.replicate 32 0)) Fm) g2 fun x hx hx' => ?_).cons (p := blk w1.heap.size (.cells (arr w.heap.size) T2 (0, 0))) hc2 fun x hx hx' => ?_
    · simp only [PF, List.map_cons, List.map_nil, List.flatten_cons, List.flatten_nil, List.append_nil, crPart, List.mem_singleton] at hx'
      have := hlt x hx
      omega
    · simp only [blk, List.mem_singleton] at hx
      simp only [PF, List.map_cons, List.map_nil, List.flatten_cons, List.flatten_nil, List.append_nil, List.mem_append, crPart, memrPart, List.mem_singleton] at hx'
      rcases hx' with hx' | hx'
      · have := hlt x hx'; omega
      · omega
  have hR : RT A (init9 k).t := by
    refine ⟨?_, ?_, ?_, fun e he => ?_⟩
    · show (arr w.heap.size).size = 146
      rw [ha]; exact rz_size _ _
    · show (arr w.heap.size)[0]? = _
      rw [ha]; rfl
    · show (arr w.heap.size)[1]? = some (.pointer (some ⟨w.heap.size, 0, none⟩))
      rw [ha]; unfold rz; simp
    · show TblA (arr w.heap.size) _ _
      rw [ha]; exact rz_tbl _ _ he
  refine hK w1.heap.size _ w2 ⟨init9_T k, A, hP, hR, rfl⟩ (hm1.trans' hm2) fun x hx => ?_
  simp only [rparts, PF, List.map_cons, List.map_nil, List.flatten_cons, List.flatten_nil, List.append_nil, List.mem_append, crPart, memrPart, blk, List.mem_singleton, A] at hx
  rcases hx with hx | hx | hx
  · right; omega
  · exact .inl hx
  · right; omega
set_option maxRecDepth 100000 in
theorem kr_new (n : Int) (w : World) {K : Value → World → Prop} (h0 : n < 1 ∨ 1024 < n → K (.pointer none) w)
    (h1 : ∀ (k p : Nat) (F : List Nat) (w' : World), n = k → 1 ≤ k → k ≤ 1024 → KR w' p (init9 k) F → Mod [] w w' → Beyond w.heap.size F → K (.pointer (some ⟨p, 0, none⟩)) w') :
    CallsR Tryz.prog F_janusref09_New #[.int .i64 n] w K := by
  apply R_janusref09_New_ok
  simp only [R_janusref09_New]
  refine memr_new n w (fun h => ⟨_, rfl, spl_t rfl (h0 h)⟩) (fun k pm Fm w1 hn hk1 hk2 gm m1 bm => ⟨_, rfl, spl_f rfl ?_⟩)
  have key := @kr_new_gen w1 pm k Fm gm
  refine key (ha := fun b => ?_) fun p F w' g m b => h1 k p F w' hn hk1 hk2 g (m1.trans' m) fun x hx => ?_
  · kernel_rfl
  rcases b x hx with h | h
  · exact bm x h
  · have := m1.size; omega

end Go.Proofs
