/-
  exo: the reference's kernel in the heap; both kernels, new.
  exo: both kernels as the laws begin with them.
-/
import Derived.Test.YthpcakhhemdibaaGreatP13A
import Derived.Test.YthpcakhhemdibaaGreatR9A
import Derived.Test.YthpcakhhemdibaaGreatR12A
import Derived.Test.YthpcakhhemdibaaGreatV1R
import Derived.Test.YthpcakhhemdibaaGreatC13A
set_option linter.unusedVariables false
set_option linter.unusedSimpArgs false
namespace Go.Proofs
open Go Go.Den

structure RX13 where
  pm : Nat
  pd : Nat
  pe : Nat
  Fm : List Nat
  Fd : List Nat
  Fe : List Nat
  Fq : List Nat
  V : List Int
  U : List (Int × Int)
  L : List V11.RMsg
def IpoP (w : World) (r : Nat) (A : RX13) : Prop := ∃ arr T, V11.IpcO w r 3 arr T A.L A.Fq ∧ arr[0]? = some (.pointer (some ⟨A.pm, 0, none⟩)) ∧ arr[1]? = some (.pointer (some ⟨A.pd, 0, none⟩)) ∧ arr[2]? = some (.pointer (some ⟨A.pe, 0, none⟩))
theorem IpoP.lt {w : World} {r : Nat} {A : RX13} (h : IpoP w r A) : ∀ b ∈ r :: A.Fq, b < w.heap.size := by
  obtain ⟨arr, T, h1, -⟩ := h; exact h1.lt
theorem IpoP.keep {w w' : World} {r : Nat} {A : RX13} (h : IpoP w r A) (hk : ∀ b ∈ r :: A.Fq, w'.heap[b]? = w.heap[b]?) : IpoP w' r A := by
  obtain ⟨arr, T, h1, h2⟩ := h; exact ⟨arr, T, h1.keep hk, h2⟩
def ipoPart (r : Nat) (A : RX13) : Part := ⟨r :: A.Fq, fun w => IpoP w r A, fun h k => h.keep k, fun h => h.lt⟩
def rxparts (r : Nat) (A : RX13) (s : S13) : List Part := [ipoPart r A, krPart A.pm s.m A.Fm, krPart12 A.pd s.d A.Fd, V10.rp A.pe ⟨s.e, A.V, A.U⟩ A.Fe]
/-- The reference's kernel at block 'r'. -/
def KRX (w : World) (r : Nat) (s : S13) (F : List Nat) : Prop := ∃ A, Prts w (rxparts r A s) ∧ s.q = V11.projQ A.L ∧ F = PF (rxparts r A s)
theorem KRX.lt {w : World} {r : Nat} {s : S13} {F : List Nat} (h : KRX w r s F) : ∀ b ∈ F, b < w.heap.size := by
  obtain ⟨A, h1, -, rfl⟩ := h; exact h1.lt
theorem KRX.keep {w w' : World} {r : Nat} {s : S13} {F : List Nat} (h : KRX w r s F) (hk : ∀ b ∈ F, w'.heap[b]? = w.heap[b]?) : KRX w' r s F := by
  obtain ⟨A, h1, h2, rfl⟩ := h; exact ⟨A, h1.keep hk, h2, rfl⟩
def krxPart (r : Nat) (s : S13) (F : List Nat) : Part := ⟨F, fun w => KRX w r s F, fun h k => h.keep k, fun h => h.lt⟩

section
variable {w w' : World} {r : Nat} {A : RX13} {s : S13}
theorem rxp (h : Prts w (rxparts r A s)) : IpoP w r A := h.nth (i := 0) rfl
theorem rxm (h : Prts w (rxparts r A s)) : KR w A.pm s.m A.Fm := h.nth (i := 1) rfl
theorem rxd (h : Prts w (rxparts r A s)) : KR12 w A.pd s.d A.Fd := h.nth (i := 2) rfl
theorem rxe (h : Prts w (rxparts r A s)) : V10.RP w A.pe ⟨s.e, A.V, A.U⟩ A.Fe := h.nth (i := 3) rfl
theorem rxc (h : Prts w (rxparts r A s)) : w.cell? ⟨r, 0, none⟩ = some (.pointer (some ⟨A.pm, 0, none⟩)) ∧ w.cell? ⟨r, 1, none⟩ = some (.pointer (some ⟨A.pd, 0, none⟩)) ∧ w.cell? ⟨r, 2, none⟩ = some (.pointer (some ⟨A.pe, 0, none⟩)) := by
  obtain ⟨arr, T, ⟨_, _, _, _, _, _, h1, -⟩, h2, h3, h4⟩ := rxp h
  exact ⟨by rw [cell_get h1]; exact h2, by rw [cell_get h1]; exact h3, by rw [cell_get h1]; exact h4⟩
theorem rx_e (h : Prts w (rxparts r A s)) (hq : s.q = V11.projQ A.L) {t : V10.S10} {F' : List Nat} (hp : V10.RP w' A.pe t F') (hm : Mod A.Fe w w') (ho : Own w A.Fe F') : ∃ F2, KRX w' r { s with e := t.L } F2 ∧ Mod (PF (rxparts r A s)) w w' ∧ Own w (PF (rxparts r A s)) F2 := by
  have := h.step 3 rfl (V10.rp A.pe t F') hp hm ho
  exact ⟨_, ⟨{ A with Fe := F', V := t.V, U := t.U }, this.1, hq, rfl⟩, this.2.1, this.2.2⟩
end

def rre (i : Nat) : Nat := match i with
  | 0 => 0
  | 1 => 3
  | 2 => 2
  | _ => 1
theorem rre_inj : ∀ i < 4, ∀ j < 4, i ≠ j → rre i ≠ rre j := by decide
theorem rx_new (f b : Int) (w : World) {K : Value → World → Prop} (h0 : ∀ w', (f < 1 ∨ 1024 < f) ∨ b < 1 ∨ 1024 < b → Mod [] w w' → K (.pointer none) w')
    (h1 : ∀ (m n k : Nat) (F : List Nat) (w' : World), f = m → b = n → 1 ≤ m → m ≤ 1024 → 1 ≤ n → n ≤ 1024 → KRX w' k (init13 m n) F → Mod [] w w' → Beyond w.heap.size F → K (.pointer (some ⟨k, 0, none⟩)) w') :
    CallsR Tryz.prog F_janusref13_New #[.int .i64 f, .int .i64 b] w K := by
  apply R_janusref13_New_ok
  simp only [R_janusref13_New]
  refine kr_new f w (fun hf => ⟨_, rfl, ?_⟩) (fun m pm Fm w1 hm hm1 hm2 h1' m1 b1 => ⟨_, rfl, ?_⟩)
  · exact kr12_new b w (fun hb => ⟨_, rfl, spl_t rfl (h0 w (.inl hf) (Mod.refl _ _))⟩) (fun n pd Fd w2 hn hn1 hn2 h2 m2 b2 => ⟨_, rfl, spl_t rfl (h0 w2 (.inl hf) m2)⟩)
  have s1 := (Den.Sep.nil (Den.Mod.refl [] w)).push (krPart pm (init9 m) Fm) m1 h1' b1
  refine kr12_new b w1 (fun hb => ⟨_, rfl, spl_f rfl (spl_t rfl (h0 w1 (.inr hb) s1.mod))⟩) (fun n pd Fd w2 hn hn1 hn2 h2 m2 b2 => ⟨_, rfl, spl_f rfl (spl_f rfl ?_)⟩)
  have s2 := s1.push (krPart12 pd (init12 n) Fd) m2 h2 b2
  refine V10.rnew_run w2 16 (fun h => absurd h (by omega)) (fun q pe Fe w3 hq _ _ h3 m3 b3 => ⟨_, rfl, ?_⟩)
  obtain rfl : q = 16 := by omega
  have s3 := s2.push (V10.rp pe ⟨[], List.replicate 16 (-1), []⟩ Fe) m3 h3 b3
  refine s3.new fun b4 w4 s4 m4 hb4 => ?_
  let A : RX13 := ⟨pm, pd, pe, Fm, Fd, Fe, [], List.replicate 16 (-1), [], []⟩
  have hblk : w4.heap[b4]? = some (.cells #[.pointer (some ⟨pm, 0, none⟩), .pointer (some ⟨pd, 0, none⟩), .pointer (some ⟨pe, 0, none⟩), .slice none 0 0] 65 (0, 0)) := s4.nth 0 rfl
  have hip : IpoP w4 b4 A := ⟨_, 65, ⟨none, 0, 0, [], [], [], hblk, rfl, by simpa [V11.rrow] using SlB.nil w4 3, V11.RsOk.nil w4 [], (by intro x hx; cases hx), (by intro x hx; cases hx), by simp, by simp, rfl⟩, rfl, rfl, rfl⟩
  have s5 : Den.Sep w w4 [ipoPart b4 A, V10.rp pe ⟨[], List.replicate 16 (-1), []⟩ Fe, krPart12 pd (init12 n) Fd, krPart pm (init9 m) Fm] := s4.step 0 rfl (ipoPart b4 A) hip (Mod.refl _ _) (Own.refl _ _)
  have hx : Prts w4 (rxparts b4 A (init13 m n)) := s5.prts.re rre (fun i q hq => by
    rcases i with _ | _ | _ | _ | i
    · exact hq
    · exact hq
    · exact hq
    · exact hq
    · simp [rxparts] at hq) (fun i hi j hj hij => rre_inj i hi j hj hij)
  refine h1 m n b4 _ w4 hm hn hm1 hm2 hn1 hn2 ⟨A, hx, by funext e; rfl, rfl⟩ s5.mod fun x hx => ?_
  obtain ⟨i, q, hq, hxq⟩ := mem_PF.1 hx
  rcases i with _ | _ | _ | _ | i
  · cases hq; exact s5.bey 0 rfl x hxq
  · cases hq; exact s5.bey 3 rfl x hxq
  · cases hq; exact s5.bey 2 rfl x hxq
  · cases hq; exact s5.bey 1 rfl x hxq
  · simp [rxparts] at hq

end Go.Proofs

set_option linter.unusedSimpArgs false
namespace Go.Proofs
open Go Go.Den

def W13 (j : Nat) : S13 := ⟨init9 8, init12 16, (List.range j).map fun i : Nat => ((i : Nat) : Int) + 1, fun _ => []⟩
theorem createL (s : V10.S10) (e : Int) : (V10.createS s e).L = if V10.in12 e ∧ e ∉ s.L then putL s.L e else s.L := by
  unfold V10.createS V10.createE
  by_cases h3 : V10.in12 e <;> by_cases h4 : e ∈ s.L <;> simp [h3, h4]
theorem W13_e (j : Nat) (hj : j < 3) : (if V10.in12 ((j : Int) + 1) ∧ ((j : Int) + 1) ∉ (W13 j).e then putL (W13 j).e ((j : Int) + 1) else (W13 j).e) = (W13 (j + 1)).e := by
  rcases j with _ | _ | _ | j
  · kernel_rfl
  · kernel_rfl
  · kernel_rfl
  · omega
theorem W13_err (j : Nat) (hj : j < 3) : (if V10.in12 ((j : Int) + 1) then (if ((j : Int) + 1) ∈ (W13 j).e then 105 else 0) else 101 : Int) = 0 := by
  rcases j with _ | _ | _ | j
  · kernel_rfl
  · kernel_rfl
  · kernel_rfl
  · omega

theorem worlds13_run (w : World) {K : Value → World → Prop} (hK : ∀ w' k r F G, Den.Sep w w' [krxPart r (W13 3) G, kxPart k (W13 3) F] → K (.tuple #[.pointer (some ⟨k, 0, none⟩), .pointer (some ⟨r, 0, none⟩), .bool true]) w') : CallsR Tryz.prog F_januslaw13_worlds #[] w K := by
  apply R_januslaw13_worlds_ok
  simp only [R_januslaw13_worlds]
  refine x_new 8 16 w (fun w' h _ => absurd h (by omega)) fun m n k F w1 hm hn _ _ _ _ h1 m1 b1 => ⟨_, rfl, ?_⟩
  obtain rfl : m = 8 := by omega
  obtain rfl : n = 16 := by omega
  have s1 := (Den.Sep.nil (Den.Mod.refl [] w)).push (kxPart k (init13 8 16) F) m1 h1 b1
  refine rx_new 8 16 w1 (fun w' h _ => absurd h (by omega)) fun m n r G w2 hm hn _ _ _ _ h2 m2 b2 => ⟨_, rfl, ?_⟩
  obtain rfl : m = 8 := by omega
  obtain rfl : n = 16 := by omega
  have s2 := s1.push (krxPart r (init13 8 16) G) m2 h2 b2
  simp only [Option.isNone_some, spl_false, nilK_some, addr_add, Nat.zero_add]
  refine ⟨fun n e w' => ∃ (j : Nat) (F G : List Nat), e = (j : Int) + 1 ∧ j ≤ 3 ∧ n = 3 - j ∧ Den.Sep w w' [krxPart r (W13 j) G, kxPart k (W13 j) F], ⟨3, 0, F, G, rfl, by omega, by omega, s2⟩, ?_⟩
  clear s1 s2 h1 h2 m1 m2 b1 b2 F G
  rintro n e - w3 ⟨j, F, G, rfl, hj, rfl, s3⟩
  rw [spl_decide]
  refine ⟨fun hlt => ?_, fun hge => ?_⟩
  · have hj3 : j < 3 := by omega
    refine x_create (s3.nth 1 rfl) _ fun w4 F4 h4 m4 o4 => ⟨_, rfl, ?_⟩
    rw [W13_e j hj3] at h4
    rw [W13_err j hj3, spl_bne]
    refine ⟨fun h => absurd rfl h, fun _ => ?_⟩
    have s4 : Den.Sep w w4 [krxPart r (W13 j) G, kxPart k (W13 (j + 1)) F4] := s3.step 1 rfl (kxPart k (W13 (j + 1)) F4) h4 m4 o4
    obtain ⟨A, g1, gq, hG⟩ := (s4.nth 0 rfl : KRX w4 r (W13 j) G)
    refine ⟨_, (rxc g1).2.2, V10.rcreate_run (rxe g1) _ fun w5 F5 h5 m5 o5 => ⟨_, rfl, 3 - (j + 1), by omega, j + 1, F4, ?_⟩⟩
    obtain ⟨F2, z1, z2, z3⟩ := rx_e g1 gq h5 m5 o5
    rw [← hG] at z2 z3
    rw [createL, W13_e j hj3] at z1
    exact ⟨F2, by rw [w64 (by omega) (by omega)]; omega, by omega, rfl, s4.step 0 rfl (krxPart r (W13 (j + 1)) F2) z1 z2 z3⟩
  · obtain rfl : j = 3 := by omega
    exact hK w3 k r F G s3

end Go.Proofs
