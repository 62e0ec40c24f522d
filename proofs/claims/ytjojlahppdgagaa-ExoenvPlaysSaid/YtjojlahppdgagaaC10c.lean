/-
  Layer 10: contracts of the reference's environments.
-/
import Derived.Test.YtjojlahppdgagaaC10b
import Derived.Test.YtjojlahppdgagaaDen16
import Derived.Test.YtjojlahppdgagaaRInts
import Derived.Test.YtjojlahppdgagaaRHas
import Derived.Test.YtjojlahppdgagaaRPut
set_option linter.unusedSimpArgs false
namespace Go.Proofs
open Go Go.Den

def upc (u : Int × Int) : List Value := [.int .i64 u.1, .int .u64 u.2]
theorem upc_2 (u : Int × Int) : (upc u).length = 2 := rfl
theorem upc_cell (u : Int × Int) : ∀ v ∈ upc u, isCell v = true := by
  intro v hv
  simp only [upc, List.mem_cons, List.not_mem_nil, or_false] at hv
  rcases hv with rfl | rfl <;> rfl

/-- The reference's environments at block 'p'. -/
def RP (w : World) (p : Nat) (s : S10) (F : List Nat) : Prop :=
  W10 s ∧ 1 ≤ s.V.length ∧ s.V.length ≤ 64 ∧ ∃ a1 l1 c1 G1 a2 l2 c2 G2 a3 l3 c3 G3 T, w.heap[p]? = some (.cells #[.slice a1 l1 c1, .slice a2 l2 c2, .slice a3 l3 c3] T (0, 0)) ∧ SlB w a1 l1 c1 1 (i64s s.L) G1 ∧ SlB w a2 l2 c2 1 (i64s s.V) G2 ∧ SlB w a3 l3 c3 2 (rows upc s.U) G3 ∧
    p ∉ G1 ∧ p ∉ G2 ∧ p ∉ G3 ∧ (∀ b ∈ G2, b ∉ G1) ∧ (∀ b ∈ G2, b ∉ G3) ∧ F = p :: (G1 ++ (G2 ++ G3))
theorem RP.lt {w : World} {p : Nat} {s : S10} {F : List Nat} (h : RP w p s F) : ∀ b ∈ F, b < w.heap.size := by
  obtain ⟨-, -, -, a1, l1, c1, G1, a2, l2, c2, G2, a3, l3, c3, G3, T, h1, h2, h3, h4, -, -, -, -, -, rfl⟩ := h
  intro b hb
  simp only [List.mem_cons, List.mem_append] at hb
  rcases hb with rfl | hb | hb | hb
  · exact lt_of_get h1
  · exact h2.lt b hb
  · exact h3.lt b hb
  · exact h4.lt b hb
theorem RP.keep {w w' : World} {p : Nat} {s : S10} {F : List Nat} (h : RP w p s F) (hk : ∀ b ∈ F, w'.heap[b]? = w.heap[b]?) : RP w' p s F := by
  obtain ⟨q1, q2, q3, a1, l1, c1, G1, a2, l2, c2, G2, a3, l3, c3, G3, T, h1, h2, h3, h4, r1, r2, r3, r4, r5, rfl⟩ := h
  exact ⟨q1, q2, q3, a1, l1, c1, G1, a2, l2, c2, G2, a3, l3, c3, G3, T, (hk p (by simp)).trans h1, h2.keep fun b hb => hk b (by simp [hb]), h3.keep fun b hb => hk b (by simp [hb]), h4.keep fun b hb => hk b (by simp [hb]), r1, r2, r3, r4, r5, rfl⟩
def rp (p : Nat) (s : S10) (F : List Nat) : Part := ⟨F, fun w => RP w p s F, fun h k => h.keep k, fun h => h.lt⟩

theorem rnew_run (w : World) (n : Int) {K : Value → World → Prop} (h0 : n < 1 ∨ 64 < n → K (.pointer none) w) (h : ∀ (m p : Nat) (F : List Nat) (w' : World), n = m → 1 ≤ m → m ≤ 64 → RP w' p ⟨[], List.replicate m (-1), []⟩ F → Mod [] w w' → Beyond w.heap.size F → K (.pointer (some ⟨p, 0, none⟩)) w') : CallsR Try.prog F_janusref10_New #[.int .i64 n] w K := by
  apply R_janusref10_New_ok
  simp only [R_janusref10_New, newK_eq, spl_decide]
  refine ⟨fun hlt => h0 (.inl hlt), fun hge => ⟨fun hgt => h0 (.inr hgt), fun hle => ?_⟩⟩
  obtain ⟨m, rfl⟩ := nat_of (by omega : 0 ≤ n)
  have hb : (w.alloc (.cells #[.slice none 0 0, .slice none 0 0, .slice none 0 0] 48)).heap[w.heap.size]? = some _ := alloc_new w _
  have m0 : Mod [] w (w.alloc (.cells #[.slice none 0 0, .slice none 0 0, .slice none 0 0] 48)) := (Mod.refl _ _).alloc _
  have hs0 := alloc_size w (.cells #[.slice none 0 0, .slice none 0 0, .slice none 0 0] 48)
  generalize w.alloc (.cells #[.slice none 0 0, .slice none 0 0, .slice none 0 0] 48) = w1 at hb m0 hs0 ⊢
  generalize hp : w.heap.size = p at hb ⊢
  refine ⟨fun k i w' => ∃ (j : Nat) (a : Option Addr) (l c : Nat) (G : List Nat) (T : TypeId), i = j ∧ j ≤ m ∧ k = m - j ∧ w'.heap[p]? = some (.cells #[.slice none 0 0, .slice a l c, .slice none 0 0] T (0, 0)) ∧ SlB w' a l c 1 (i64s (List.replicate j (-1))) G ∧ p ∉ G ∧ Beyond w.heap.size G ∧ Mod [] w w', ⟨m, 0, none, 0, 0, [], _, rfl, by omega, rfl, hb, SlB.nil _ 1, by simp, by simp [Beyond], m0⟩, ?_⟩
  rintro k i - w2 ⟨j, a, l, c, G, T, rfl, hj, rfl, h1, h2, h3, h4, h5⟩
  have hl := h2.i64
  rw [List.length_replicate] at hl
  refine ⟨fun hlt => ⟨a, l, c, by rw [cell_get h1]; rfl, ?_⟩, fun hge => ?_⟩
  · refine grow_K slT_int (by decide) h2 (us := [.int .i64 (-1)]) rfl (by simp [isCell]) (by omega) (by omega) fun A C w3 G3 hs3 hm3 ho3 => ⟨_, _, _, rfl, ?_⟩
    have hp3 := hm3.get h1 h3
    have hsz := h5.size
    have hp2 := lt_of_get h1
    have hpG3 : p ∉ G3 := fun h => by
      rcases ho3 p h with h | h
      · exact h3 h
      · omega
    refine stK_of hp3 (by simp) ?_
    refine ⟨m - (j + 1), by omega, j + 1, A, l + 1, C, G3, T, by rw [w64 (by omega) (by omega)]; omega, by omega, rfl, by rw [upd_same hp3]; rfl, ?_, hpG3, fun b hb => ?_, (h5.trans hm3 fun b hb hlt => absurd (h4 b hb) (by omega)).upd (.inr (by omega)) _⟩
    · rw [List.replicate_succ', i64s_append]
      exact hs3.keep fun b hb => upd_ne _ (by rintro rfl; exact hpG3 hb)
    · exact (ho3 b hb).elim (h4 b) fun h => by omega
  · have hjm : j = m := by omega
    subst hjm
    refine h j p (p :: ([] ++ (G ++ []))) w2 rfl (by omega) (by omega) ⟨W10.new j, by simp; omega, by simp; omega, none, 0, 0, [], a, l, c, G, none, 0, 0, [], T, h1, SlB.nil _ 1, h2, SlB.nil _ 2, by simp, h3, by simp, by simp, by simp, rfl⟩ h5 ?_
    intro b hb
    simp only [List.nil_append, List.append_nil, List.mem_cons] at hb
    rcases hb with rfl | hb
    · omega
    · have := h4 b hb; omega

section
variable {w : World} {p : Nat} {s : S10} {F : List Nat}

theorem W10.short {s : S10} (h : W10 s) : s.L.length ≤ 12 := by
  have := live_eq h
  have h2 : ((ups 12).filter fun x => decide (x ∈ s.L)).length ≤ (ups 12).length := List.length_filter_le _ _
  rw [this] at h2
  simpa [ups] using h2

theorem ris_run (h : RP w p s F) (e : Int) {K : Value → World → Prop} (hK : K (.bool (decide (e ∈ s.L))) w) : CallsR Try.prog F_janusref10_Envs_Is #[.pointer (some ⟨p, 0, none⟩), .int .i64 e] w K := by
  apply R_janusref10_Envs_Is_ok
  simp only [R_janusref10_Envs_Is, nilK_some]
  obtain ⟨q1, q2, q3, a1, l1, c1, G1, a2, l2, c2, G2, a3, l3, c3, G3, T, h1, h2, h3, h4, r1, r2, r3, r4, r5, rfl⟩ := h
  have hl := h2.i64
  have := q1.short
  exact ⟨a1, l1, c1, by rw [cell_get h1]; rfl, has_rd h2.rd (by omega) e ⟨_, rfl, hK⟩⟩

theorem env_run (n : Int) {w : World} {K : Value → World → Prop} (h : K (.bool (decide (in12 n))) w) : CallsR Try.prog F_janusref08_Env #[.int .i64 n] w K := by
  apply R_janusref08_Env_ok
  simp only [R_janusref08_Env, spl_decide]
  refine ⟨fun h1 => ?_, fun h1 => ?_⟩
  · rw [show decide (n < 12) = decide (in12 n) from decide_eq_decide.2 (by unfold in12; omega)]; exact h
  · rw [show false = decide (in12 n) from (decide_eq_false (by unfold in12; omega)).symm]; exact h

theorem rcreate_run (h : RP w p s F) (e : Int) {K : Value → World → Prop} (hK : ∀ w' F', RP w' p (createS s e) F' → Mod F w w' → Own w F F' → K (.int .i64 (createE s e)) w') :
    CallsR Try.prog F_janusref10_Envs_Create #[.pointer (some ⟨p, 0, none⟩), .int .i64 e] w K := by
  apply R_janusref10_Envs_Create_ok
  simp only [R_janusref10_Envs_Create, nilK_some]
  have h0 := h
  have hFlt := h.lt
  obtain ⟨q1, q2, q3, a1, l1, c1, G1, a2, l2, c2, G2, a3, l3, c3, G3, T, h1, h2, h3, h4, r1, r2, r3, r4, r5, rfl⟩ := h
  have no : ∀ v : Int, v ≠ 0 → createE s e = v → K (.int .i64 v) w := fun v hv he => by
    have := hK w _ (by unfold createS; rw [he, if_neg hv]; exact h0) (Mod.refl _ _) (Own.refl _ _)
    rwa [he] at this
  refine env_run e ⟨_, rfl, ?_⟩
  rw [spl_decide]
  refine ⟨fun hin => ris_run h0 e ⟨_, rfl, ?_⟩, fun hn => no 101 (by decide) (if_pos hn)⟩
  rw [spl_decide]
  refine ⟨fun hm => no 105 (by decide) (by unfold createE; rw [if_neg (by simp [hin]), if_pos hm]), fun hn => ⟨a1, l1, c1, by rw [cell_get h1]; rfl, ?_⟩⟩
  have hE : createE s e = 0 := by unfold createE; rw [if_neg (by simp [hin]), if_neg hn]
  have hl := h2.i64
  have := q1.short
  refine put_rd h2.rd h2.le (by omega) e fun A L C w1 G hs hG hm => ⟨_, _, _, rfl, ?_⟩
  have hp1 := hm.get h1 (by simp)
  have hplt := lt_of_get h1
  have hpG : p ∉ G := fun h => by have := hG p h; omega
  refine stK_of hp1 (by simp) ?_
  have kk : ∀ b, b < w.heap.size → b ≠ p → (w1.upd p (.cells (splice #[.slice a1 l1 c1, .slice a2 l2 c2, .slice a3 l3 c3] 0 [.slice A L C]) T (0, 0))).heap[b]? = w.heap[b]? := fun b hb hbp => by
    rw [upd_ne _ (Ne.symm hbp)]; exact hm.keep b hb (by simp)
  have hS : createS s e = ⟨putL s.L e, s.V, s.U⟩ := if_pos hE
  have hW := q1.create e
  rw [hS] at hW hK
  have := hK _ (p :: (G ++ (G2 ++ G3))) ⟨hW, q2, q3, A, L, C, G, a2, l2, c2, G2, a3, l3, c3, G3, T, by rw [upd_same hp1]; rfl, hs.keep fun b hb => upd_ne _ (by rintro rfl; exact hpG hb), h3.keep fun b hb => kk b (h3.lt b hb) (by rintro rfl; exact r2 hb), h4.keep fun b hb => kk b (h4.lt b hb) (by rintro rfl; exact r3 hb), hpG, r2, r3, fun b hb hh => by have := hG b hh; have := h3.lt b hb; omega, r5, rfl⟩ (hm.of0.upd (.inl (by simp)) _) (fun b hb => by
    simp only [List.mem_cons, List.mem_append] at hb ⊢
    rcases hb with rfl | hb | hb | hb
    · exact .inl (.inl rfl)
    · exact .inr (hG b hb)
    · exact .inl (.inr (.inr (.inl hb)))
    · exact .inl (.inr (.inr (.inr hb))))
  rwa [hE] at this

theorem rupcall_run {w : World} {p : Nat} {s : S10} {F : List Nat} {a1 : Option Addr} {l1 c1 : Nat} {a2 : Option Addr} {l2 c2 : Nat} {a3 : Option Addr} {l3 c3 : Nat} {G3 : List Nat} {T : TypeId} (h1 : w.heap[p]? = some (.cells #[.slice a1 l1 c1, .slice a2 l2 c2, .slice a3 l3 c3] T (0, 0))) (h4 : SlB w a3 l3 c3 2 (rows upc s.U) G3) (hU : s.U.length ≤ 1000) (r3 : p ∉ G3) (e : Int) {K : Value → World → Prop}
    (hK : ∀ w' A L C G, w'.heap[p]? = some (.cells #[.slice a1 l1 c1, .slice a2 l2 c2, .slice A L C] T (0, 0)) → SlB w' A L C 2 (rows upc (upD s.U e)) G → p ∉ G → Beyond w.heap.size G → Mod [p] w w' → K (.tuple #[.int .u64 (upV s.U e).1, .bool (upV s.U e).2]) w') :
    CallsR Try.prog F_janusref10_Envs_Upcall #[.pointer (some ⟨p, 0, none⟩), .int .i64 e] w K := by
  apply R_janusref10_Envs_Upcall_ok
  simp only [R_janusref10_Envs_Upcall, nilK_some, addr_add, Nat.zero_add, spl_decide, spl_beq, newK_eq]
  have hl := h4.count upc_2 (by decide)
  have hplt := lt_of_get h1
  refine ⟨fun n ad ok A L C i w' => ∃ (j : Nat) (G' : List Nat), i = j ∧ j ≤ l3 ∧ n = l3 - j ∧ L ≤ j ∧ (ad, ok) = upV (s.U.take j) e ∧ SlB w' A L C 2 (rows upc (upD (s.U.take j) e)) G' ∧ Beyond w.heap.size G' ∧ Mod [] w w', ⟨l3, 0, [], rfl, by omega, rfl, by omega, rfl, SlB.nil _ 2, by simp [Beyond], Mod.refl _ _⟩, ?_⟩
  rintro n ad ok A L C i - w1 ⟨j, G', rfl, hj, rfl, hL, hV, hs1, hG1, hm1⟩
  have hp1 := hm1.get h1 (by simp)
  have hu1 := h4.keep (hm1.at0 h4.lt)
  refine ⟨a3, l3, c3, by rw [cell_get hp1]; rfl, fun hlt => ⟨fun ad ok A L C w' => ∃ G', L ≤ j + 1 ∧ (ad, ok) = upV (s.U.take (j + 1)) e ∧ SlB w' A L C 2 (rows upc (upD (s.U.take (j + 1)) e)) G' ∧ Beyond w.heap.size G' ∧ Mod [] w w', ?_, a3, l3, c3, by rw [cell_get hp1]; rfl, ?_⟩, fun hge => ?_⟩
  · rintro ad ok A L C - w' ⟨G2, z1, z2, z3, z4, z5⟩
    exact ⟨l3 - (j + 1), by omega, j + 1, G2, by rw [w64 (by omega) (by omega)]; omega, by omega, rfl, z1, z2, z3, z4, z5⟩
  · obtain ⟨ad3, u, rfl, hu, -, -, hc⟩ := hu1.rd.row upc_2 (by decide) (i := j) (by omega)
    have c0 := hc 0 (by decide)
    have c1' := hc 1 (by decide)
    rw [add_zero] at c0
    have et : s.U.take (j + 1) = s.U.take j ++ [u] := by rw [List.take_add_one, hu]; rfl
    simp only [nilK_some, Int.toNat_natCast]
    refine ⟨⟨by omega, by omega⟩, u.1, c0, fun heq => ⟨some ad3, l3, c3, by rw [cell_get hp1]; rfl, ?_⟩, fun hne => ⟨some ad3, l3, c3, by rw [cell_get hp1]; rfl, ?_⟩⟩
    · rw [nilK_some]
      refine ⟨⟨by omega, by omega⟩, u.2, c1', G', by omega, ?_, ?_, hG1, hm1⟩
      · rw [et, upV_snoc, if_pos heq]
      · rw [et, upD, List.filter_append, ← upD, show [u].filter (fun u => !(u.1 == e)) = [] by simp [heq], List.append_nil]
        exact hs1
    · rw [nilK_some]
      refine ⟨⟨by omega, by omega⟩, u.1, u.2, ⟨c0, c1'⟩, ?_⟩
      refine push_K slT_janusref10_Up (by decide) hs1 hG1 hm1 (us := upc u) rfl (upc_cell u) (by omega) (by omega) fun A' C' w5 G5 hs' hG' hm' _ _ => ⟨_, _, _, rfl, G5, by omega, ?_, ?_, hG', hm'⟩
      · rw [et, upV_snoc, if_neg hne]; exact hV
      · rw [et, upD, List.filter_append, ← upD, show [u].filter (fun u => !(u.1 == e)) = [u] by simp [hne], rows_app, rows_one]
        exact hs'
  · have hjl : j = l3 := by omega
    subst hjl
    rw [List.take_of_length_le (by omega)] at hs1 hV
    have hpG : p ∉ G' := fun h => by have := hG1 p h; omega
    refine stK_of hp1 (by simp) ?_
    have := hK (w1.upd p (.cells (splice #[.slice a1 l1 c1, .slice a2 l2 c2, .slice a3 j c3] 2 [.slice A L C]) T (0, 0))) A L C G' (by rw [upd_same hp1]; rfl) (hs1.keep fun b hb => upd_ne _ (by rintro rfl; exact hpG hb)) hpG hG1 (hm1.of0.upd (.inl (by simp)) _)
    rw [← hV] at this
    exact this

theorem rupcallP_run (h : RP w p s F) (hU : s.U.length ≤ 1000) (e : Int) {K : Value → World → Prop} (hK : ∀ w' F', RP w' p (upcallS s e) F' → Mod F w w' → Own w F F' → K (.tuple #[.int .u64 (upV s.U e).1, .bool (upV s.U e).2]) w') :
    CallsR Try.prog F_janusref10_Envs_Upcall #[.pointer (some ⟨p, 0, none⟩), .int .i64 e] w K := by
  have hFlt := h.lt
  obtain ⟨q1, q2, q3, a1, l1, c1, G1, a2, l2, c2, G2, a3, l3, c3, G3, T, h1, h2, h3, h4, r1, r2, r3, r4, r5, rfl⟩ := h
  refine rupcall_run (F := [p]) h1 h4 hU r3 e fun w' A L C G k1 k2 k3 k4 k5 => ?_
  have kk : ∀ b, b < w.heap.size → b ≠ p → w'.heap[b]? = w.heap[b]? := fun b hb hbp => k5.keep b hb (by simpa using hbp)
  refine hK w' (p :: (G1 ++ (G2 ++ G))) ⟨q1.upcall e, q2, q3, a1, l1, c1, G1, a2, l2, c2, G2, A, L, C, G, T, k1, h2.keep fun b hb => kk b (h2.lt b hb) (by rintro rfl; exact r1 hb), h3.keep fun b hb => kk b (h3.lt b hb) (by rintro rfl; exact r2 hb), k2, r1, r2, k3, r4, fun b hb hh => by have := k4 b hh; have := h3.lt b hb; omega, rfl⟩ (k5.mono (by simp)) (fun b hb => ?_)
  simp only [List.mem_cons, List.mem_append] at hb ⊢
  rcases hb with rfl | hb | hb | hb
  · exact .inl (.inl rfl)
  · exact .inl (.inr (.inl hb))
  · exact .inl (.inr (.inr (.inl hb)))
  · exact .inr (k4 b hb)

theorem rslice_run (h : RP w p s F) (n e : Int) {K : Value → World → Prop} (hK : ∀ w', RP w' p (sliceS s n e) F → Mod F w w' → K (.int .i64 (sliceE s n e)) w') :
    CallsR Try.prog F_janusref10_Envs_Slice #[.pointer (some ⟨p, 0, none⟩), .int .i64 n, .int .i64 e] w K := by
  apply R_janusref10_Envs_Slice_ok
  simp only [R_janusref10_Envs_Slice, nilK_some, addr_add, Nat.zero_add, spl_decide, spl_bne]
  have h0 := h
  obtain ⟨q1, q2, q3, a1, l1, c1, G1, a2, l2, c2, G2, a3, l3, c3, G3, T, h1, h2, h3, h4, r1, r2, r3, r4, r5, rfl⟩ := h
  have hl := h3.i64
  have no : ∀ v : Int, v ≠ 0 → sliceE s n e = v → K (.int .i64 v) w := fun v hv he => by
    have := hK w (by unfold sliceS; rw [he, if_neg hv]; exact h0) (Mod.refl _ _)
    rwa [he] at this
  refine ⟨fun hlt => no 101 (by decide) (if_pos (.inl hlt)), fun hge => ⟨a2, l2, c2, by rw [cell_get h1]; rfl, fun hge2 => no 101 (by decide) (if_pos (.inr (by omega))), fun hlt => ⟨fun w' => w' = w ∧ sliceE s n e = 0, ?_, ?_⟩⟩⟩
  · rintro - w' ⟨rfl, hE⟩
    obtain ⟨k, rfl⟩ := nat_of (by omega : 0 ≤ n)
    refine ⟨a2, l2, c2, by rw [cell_get h1]; rfl, ?_⟩
    obtain ⟨b, o, rfl, rfl⟩ := h3.isNone (by omega)
    obtain ⟨arr, T', hbk, hcap, -⟩ := h3.block
    have hle := h3.le
    rw [nilK_some, Int.toNat_natCast, addr_add]
    refine ⟨⟨by omega, by omega⟩, ?_⟩
    refine stK_of hbk (by simp; omega) ?_
    simp only [splice_cons, splice_nil]
    have hset := h3.set hbk (j := k) (by rw [i64s_length]; omega) (.int .i64 e)
    rw [i64s_set] at hset
    have hS : sliceS s k e = ⟨s.L, s.V.set k e, s.U⟩ := by unfold sliceS; rw [if_pos hE, Int.toNat_natCast]
    have hW := q1.slice k e
    have hbp : b ≠ p := fun e => r2 (by simp [e])
    have := hK (w'.upd b (.cells (arr.setIfInBounds (o + k) (.int .i64 e)) T' (0, 0))) (by
      rw [hS] at hW ⊢
      exact ⟨hW, by simpa using q2, by simpa using q3, a1, l1, c1, G1, some ⟨b, o, none⟩, l2, c2, [b], a3, l3, c3, G3, T, (upd_ne _ hbp).trans h1, h2.keep fun z hz => upd_ne _ (by rintro rfl; exact r4 b (by simp) hz), hset, h4.keep fun z hz => upd_ne _ (by rintro rfl; exact r5 b (by simp) hz), r1, r2, r3, r4, r5, rfl⟩) ((Mod.refl _ _).upd (.inl (by simp)) _)
    rwa [hE] at this
  · have hg : ¬ (n < 0 ∨ (s.V.length : Int) ≤ n) := by omega
    refine ⟨fun hne => ris_run h0 e ⟨_, rfl, ?_⟩, fun heq => ⟨rfl, by unfold sliceE; rw [if_neg hg, if_neg (by simp [heq])]⟩⟩
    rw [spl_decide]
    exact ⟨fun hm => ⟨rfl, by unfold sliceE; rw [if_neg hg, if_neg (by simp [hm])]⟩, fun hm => no 106 (by decide) (by unfold sliceE; rw [if_neg hg, if_pos ⟨hne, hm⟩])⟩

theorem rpick_run (h : RP w p s F) (n : Int) {K : Value → World → Prop} (hK : K (.int .i64 (pickV s n)) w) :
    CallsR Try.prog F_janusref10_Envs_Pick #[.pointer (some ⟨p, 0, none⟩), .int .i64 n] w K := by
  apply R_janusref10_Envs_Pick_ok
  simp only [R_janusref10_Envs_Pick, nilK_some, addr_add, Nat.zero_add, spl_decide]
  obtain ⟨q1, q2, q3, a1, l1, c1, G1, a2, l2, c2, G2, a3, l3, c3, G3, T, h1, h2, h3, h4, r1, r2, r3, r4, r5, rfl⟩ := h
  have hl := h3.i64
  have g1 : 0 ≤ n.emod l2 := Int.emod_nonneg n (by omega)
  have g2 : n.emod l2 < l2 := Int.emod_lt_of_pos n (by omega)
  have ht : n.tmod l2 = n.emod l2 ∨ n.tmod l2 = n.emod l2 - l2 := by
    rw [Int.tmod_eq_emod]
    split
    · left; simp; rfl
    · right; simp; rfl
  refine ⟨a2, l2, c2, by rw [cell_get h1]; rfl, by omega, fun at_ w' => at_ = n.emod l2 ∧ w' = w, ?_, fun hneg => ⟨a2, l2, c2, by rw [cell_get h1]; rfl, ?_, rfl⟩, fun hpos => ⟨by omega, rfl⟩⟩
  · rintro at_ - w' ⟨rfl, rfl⟩
    refine ⟨a2, l2, c2, by rw [cell_get h1]; rfl, ?_⟩
    obtain ⟨k, hk⟩ := nat_of g1
    rw [hk] at g2 ⊢
    obtain ⟨ad, x, rfl, hx, hc, -, -⟩ := h3.rd.i64at (k := k) (by omega)
    rw [nilK_some, Int.toNat_natCast]
    refine ⟨⟨by omega, by omega⟩, x, hc, ?_⟩
    rw [pickV, hl, hk, Int.toNat_natCast, hx] at hK
    exact hK
  · rw [w64 (by omega) (by omega)]
    omega

theorem rfault_run (h : RP w p s F) (hU : s.U.length ≤ 1000) (e a : Int) {K : Value → World → Prop} (hK : ∀ w' F', RP w' p (faultS s e a) F' → Mod F w w' → Own w F F' → K (.int .i64 (faultE s e)) w') :
    CallsR Try.prog F_janusref10_Envs_Fault #[.pointer (some ⟨p, 0, none⟩), .int .i64 e, .int .u64 a] w K := by
  apply R_janusref10_Envs_Fault_ok
  simp only [R_janusref10_Envs_Fault, nilK_some, addr_add, Nat.zero_add, newK_eq]
  have h0 := h
  obtain ⟨q1, q2, q3, a1, l1, c1, G1, a2, l2, c2, G2, a3, l3, c3, G3, T, h1, h2, h3, h4, r1, r2, r3, r4, r5, rfl⟩ := h
  have hl := h4.count upc_2 (by decide)
  have hplt := lt_of_get h1
  have no : ∀ v : Int, v ≠ 0 → faultE s e = v → K (.int .i64 v) w := fun v hv he => by
    have := hK w _ (by unfold faultS; rw [he, if_neg hv]; exact h0) (Mod.refl _ _) (Own.refl _ _)
    rwa [he] at this
  refine ris_run h0 e ⟨_, rfl, ?_⟩
  rw [spl_decide]
  refine ⟨fun hm => ?_, fun hn => no 106 (by decide) (if_pos hn)⟩
  refine ⟨fun n i w' => ∃ j : Nat, i = j ∧ j ≤ l3 ∧ n = l3 - j ∧ (∀ u ∈ s.U.take j, u.1 ≠ e) ∧ w' = w, ⟨l3, 0, rfl, by omega, rfl, by simp, rfl⟩, ?_⟩
  rintro n i - w' ⟨j, rfl, hj, rfl, hno, rfl⟩
  refine ⟨a3, l3, c3, by rw [cell_get h1]; rfl, ?_⟩
  rw [spl_decide]
  refine ⟨fun hlt => ⟨a3, l3, c3, by rw [cell_get h1]; rfl, ?_⟩, fun hge => ⟨a3, l3, c3, by rw [cell_get h1]; rfl, ?_⟩⟩
  · obtain ⟨ad3, u, rfl, hu, -, -, hc⟩ := h4.rd.row upc_2 (by decide) (i := j) (by omega)
    have c0 := hc 0 (by decide)
    rw [add_zero] at c0
    simp only [nilK_some, Int.toNat_natCast]
    refine ⟨⟨by omega, by omega⟩, u.1, c0, ?_⟩
    rw [spl_beq]
    refine ⟨fun heq => no 105 (by decide) (by unfold faultE; rw [if_neg (by simp [hm]), if_pos (upV_in (List.mem_of_getElem? hu) heq)]), fun hne => ⟨l3 - (j + 1), by omega, j + 1, by rw [w64 (by omega) (by omega)]; omega, by omega, rfl, fun v hv => ?_, by first | rfl | trivial⟩⟩
    rw [List.take_add_one, hu] at hv
    rcases List.mem_append.1 hv with h | h
    · exact hno v h
    · simp at h; subst h; exact hne
  · rw [List.take_of_length_le (by omega)] at hno
    have hE : faultE s e = 0 := by unfold faultE; rw [if_neg (by simp [hm]), if_neg (by rw [upV_out hno]; simp)]
    refine push_rd_K (w0 := w') slT_janusref10_Up (by decide) (SlB.nil w' 2) (by simp [Beyond]) (Mod.refl _ _) h4.rd (rows_cell upc_cell _) (by omega) (by omega) fun A C w2 G hs2 hG2 m2 _ _ => ⟨_, _, _, rfl, ?_⟩
    rw [Nat.zero_add] at hs2 ⊢
    rw [List.nil_append] at hs2
    refine push_K (w0 := w') slT_janusref10_Up (by decide) hs2 hG2 m2 (us := upc (e, a)) rfl (upc_cell _) (by omega) (by omega) fun A' C' w3 G' hs3 hG3 m3 _ _ => ⟨_, _, _, rfl, ?_⟩
    have hp3 := m3.get h1 (by simp)
    have hpG : p ∉ G' := fun h => by have := hG3 p h; omega
    refine stK_of hp3 (by simp) ?_
    have kk : ∀ b, b < w'.heap.size → b ≠ p → (w3.upd p (.cells (splice #[.slice a1 l1 c1, .slice a2 l2 c2, .slice a3 l3 c3] 2 [.slice A' (l3 + 1) C']) T (0, 0))).heap[b]? = w'.heap[b]? := fun b hb hbp => by
      rw [upd_ne _ (Ne.symm hbp)]; exact m3.keep b hb (by simp)
    have hS : faultS s e a = ⟨s.L, s.V, s.U ++ [(e, a)]⟩ := if_pos hE
    have hW := q1.fault e a
    rw [hS] at hW hK
    have := hK _ (p :: (G1 ++ (G2 ++ G'))) ⟨hW, q2, q3, a1, l1, c1, G1, a2, l2, c2, G2, A', l3 + 1, C', G', T, by rw [upd_same hp3]; rfl, h2.keep fun b hb => kk b (h2.lt b hb) (by rintro rfl; exact r1 hb), h3.keep fun b hb => kk b (h3.lt b hb) (by rintro rfl; exact r2 hb), by rw [rows_app, rows_one]; exact hs3.keep fun b hb => upd_ne _ (by rintro rfl; exact hpG hb), r1, r2, hpG, r4, fun b hb hh => by have := hG3 b hh; have := h3.lt b hb; omega, rfl⟩ (m3.of0.upd (.inl (by simp)) _) (fun b hb => by
      simp only [List.mem_cons, List.mem_append] at hb ⊢
      rcases hb with rfl | hb | hb | hb
      · exact .inl (.inl rfl)
      · exact .inl (.inr (.inl hb))
      · exact .inl (.inr (.inr (.inl hb)))
      · exact .inr (hG3 b hb))
    rwa [hE] at this

theorem rkill_run (h : RP w p s F) (hU : s.U.length ≤ 1000) (e : Int) {K : Value → World → Prop} (hK : ∀ w' F', RP w' p (killS s e) F' → Mod F w w' → Own w F F' → K (.int .i64 (killE s e)) w') :
    CallsR Try.prog F_janusref10_Envs_Kill #[.pointer (some ⟨p, 0, none⟩), .int .i64 e] w K := by
  apply R_janusref10_Envs_Kill_ok
  simp only [R_janusref10_Envs_Kill, nilK_some, addr_add, Nat.zero_add, newK_eq]
  have h0 := h
  have hFlt := h.lt
  obtain ⟨q1, q2, q3, a1, l1, c1, G1, a2, l2, c2, G2, a3, l3, c3, G3, T, h1, h2, h3, h4, r1, r2, r3, r4, r5, rfl⟩ := h
  have hl1 := h2.i64
  have hl2 := h3.i64
  have hsh := q1.short
  have hplt := lt_of_get h1
  refine ris_run h0 e ⟨_, rfl, ?_⟩
  rw [spl_decide]
  refine ⟨fun hm => ?_, fun hn => (by
    have := hK w _ (by unfold killS; rw [if_neg hn]; exact h0) (Mod.refl _ _) (Own.refl _ _)
    rw [killE, if_neg hn] at this
    exact this)⟩
  have hE : killE s e = 0 := if_pos hm
  refine ⟨fun n A L C i w' => ∃ (j : Nat) (G' : List Nat), i = j ∧ j ≤ l1 ∧ n = l1 - j ∧ L ≤ j ∧ SlB w' A L C 1 (i64s (ridL (s.L.take j) e)) G' ∧ Beyond w.heap.size G' ∧ Mod [] w w', ⟨l1, 0, [], rfl, by omega, rfl, by omega, SlB.nil _ 1, by simp [Beyond], Mod.refl _ _⟩, ?_⟩
  rintro n A L C i - w1 ⟨j, G', rfl, hj, rfl, hL, hs1, hG1, hm1⟩
  have hp1 := hm1.get h1 (by simp)
  refine ⟨a1, l1, c1, by rw [cell_get hp1]; rfl, ?_⟩
  rw [spl_decide]
  refine ⟨fun hlt => ⟨fun A L C w' => ∃ G', L ≤ j + 1 ∧ SlB w' A L C 1 (i64s (ridL (s.L.take (j + 1)) e)) G' ∧ Beyond w.heap.size G' ∧ Mod [] w w', ?_, a1, l1, c1, by rw [cell_get hp1]; rfl, ?_⟩, fun hge => ?_⟩
  · rintro A L C - w' ⟨G2, z1, z2, z3, z4⟩
    exact ⟨l1 - (j + 1), by omega, j + 1, G2, by rw [w64 (by omega) (by omega)]; omega, by omega, rfl, z1, z2, z3, z4⟩
  · obtain ⟨ad, x, rfl, hx, hc, -, -⟩ := (h2.keep (hm1.at0 h2.lt)).rd.i64at (k := j) (by omega)
    have et : ridL (s.L.take (j + 1)) e = ridL (s.L.take j) e ++ ridL [x] e := by rw [List.take_add_one, hx, ridL, List.filter_append]; rfl
    simp only [nilK_some, Int.toNat_natCast]
    refine ⟨⟨by omega, by omega⟩, x, hc, ?_⟩
    rw [spl_bne]
    refine ⟨fun hne => ⟨some ad, l1, c1, by rw [cell_get hp1]; rfl, ?_⟩, fun heq => ⟨G', by omega, ?_, hG1, hm1⟩⟩
    · rw [nilK_some]
      refine ⟨⟨by omega, by omega⟩, x, hc, ?_⟩
      refine push_K slT_int (by decide) hs1 hG1 hm1 (us := [.int .i64 x]) rfl (by simp [isCell]) (by omega) (by omega) fun A' C' w5 G5 hs' hG' hm' _ _ => ⟨_, _, _, rfl, G5, by omega, ?_, hG', hm'⟩
      rw [et, show ridL [x] e = [x] by simp [ridL, hne], i64s_append]
      exact hs'
    · rw [et, show ridL [x] e = [] by simp [ridL, heq], List.append_nil]
      exact hs1
  · have hjl : j = l1 := by omega
    rw [hjl, List.take_of_length_le (by omega)] at hs1
    have hpG : p ∉ G' := fun h => by have := hG1 p h; omega
    refine stK_of hp1 (by simp) ?_
    have k1 : (w1.upd p (.cells (splice #[.slice a1 l1 c1, .slice a2 l2 c2, .slice a3 l3 c3] 0 [.slice A L C]) T (0, 0))).heap[p]? = some (.cells #[.slice A L C, .slice a2 l2 c2, .slice a3 l3 c3] T (0, 0)) := by rw [upd_same hp1]; rfl
    have kk : ∀ b, b < w.heap.size → b ≠ p → (w1.upd p (.cells (splice #[.slice a1 l1 c1, .slice a2 l2 c2, .slice a3 l3 c3] 0 [.slice A L C]) T (0, 0))).heap[b]? = w.heap[b]? := fun b hb hbp => by
      rw [upd_ne _ (Ne.symm hbp)]; exact hm1.keep b hb (by simp)
    have k2 : SlB (w1.upd p (.cells (splice #[.slice a1 l1 c1, .slice a2 l2 c2, .slice a3 l3 c3] 0 [.slice A L C]) T (0, 0))) A L C 1 (i64s (ridL s.L e)) G' := hs1.keep fun b hb => upd_ne _ (by rintro rfl; exact hpG hb)
    have m2 : Mod [p] w (w1.upd p (.cells (splice #[.slice a1 l1 c1, .slice a2 l2 c2, .slice a3 l3 c3] 0 [.slice A L C]) T (0, 0))) := hm1.of0.upd (.inl (by simp)) _
    generalize w1.upd p _ = w2 at k1 kk k2 m2 ⊢
    have k3 : SlB w2 a2 l2 c2 1 (i64s (ridV s.V e 0)) G2 := by rw [ridV_0]; exact h3.keep fun b hb => kk b (h3.lt b hb) (by rintro rfl; exact r2 hb)
    refine ⟨fun n i w' => ∃ j : Nat, i = j ∧ j ≤ l2 ∧ n = l2 - j ∧ SlB w' a2 l2 c2 1 (i64s (ridV s.V e j)) G2 ∧ Mod G2 w2 w', ⟨l2, 0, rfl, by omega, rfl, k3, Mod.refl _ _⟩, ?_⟩
    have hm2sz := m2.size
    have hG2lt : ∀ b ∈ G2, b < w.heap.size := h3.lt
    clear k3
    rintro n i - w3 ⟨i, rfl, hi, rfl, hs3, hm3⟩
    have hp3 := hm3.get k1 r2
    refine ⟨a2, l2, c2, by rw [cell_get hp3]; rfl, ?_⟩
    rw [spl_decide]
    refine ⟨fun hlt => ⟨fun w' => SlB w' a2 l2 c2 1 (i64s (ridV s.V e (i + 1))) G2 ∧ Mod G2 w2 w', ?_, a2, l2, c2, by rw [cell_get hp3]; rfl, ?_⟩, fun hge => ?_⟩
    · rintro - w' ⟨z1, z2⟩
      exact ⟨l2 - (i + 1), by omega, i + 1, by rw [w64 (by omega) (by omega)]; omega, by omega, rfl, z1, z2⟩
    · obtain ⟨b, o, rfl, rfl⟩ := hs3.isNone (by omega)
      obtain ⟨ad, x, ha, hx, hc, -, -⟩ := hs3.rd.i64at (k := i) (by omega)
      cases ha
      rw [ridV_get, List.getElem?_eq_getElem (by omega)] at hx
      have hx := Option.some.inj hx
      rw [nilK_some, Int.toNat_natCast]
      refine ⟨⟨by omega, by omega⟩, x, hc, ?_⟩
      rw [spl_beq]
      refine ⟨fun heq => ⟨some ⟨b, o, none⟩, l2, c2, by rw [cell_get hp3]; rfl, ?_⟩, fun hne => ⟨?_, hm3⟩⟩
      · rw [nilK_some]
        refine ⟨⟨by omega, by omega⟩, ?_⟩
        obtain ⟨arr, T', hbk, hcap, -⟩ := hs3.block
        have hle := hs3.le
        rw [addr_add]
        refine stK_of hbk (by simp; omega) ?_
        simp only [splice_cons, splice_nil]
        have hset := hs3.set hbk (j := i) (by rw [i64s_length, ridV_len]; omega) (.int .i64 (-1))
        rw [i64s_set] at hset
        refine ⟨?_, hm3.upd (.inl (by simp)) _⟩
        rw [ridV_succ s.V e (by omega), hx, if_pos heq]
        exact hset
      · rw [ridV_same s.V e (by omega) (by rw [hx]; exact hne)]
        exact hs3
    · have hil : i = l2 := by omega
      rw [hil, ← hl2, ridV_all, hl2] at hs3
      have h4' : SlB w3 a3 l3 c3 2 (rows upc s.U) G3 := (h4.keep fun b hb => kk b (h4.lt b hb) (by rintro rfl; exact r3 hb)).keep (hm3.at (fun b hb => by have := h4.lt b hb; omega) fun b hb hh => r5 b hh hb)
      refine rupcall_run (s := s) (F := [p]) hp3 h4' hU r3 e fun w4 A4 L4 C4 G4 g1 g2 g3 g4 g5 => ⟨_, _, rfl, ?_⟩
      have hS : killS s e = ⟨ridL s.L e, s.V.map (fun x => if x = e then -1 else x), upD s.U e⟩ := if_pos hm
      have hW := q1.kill e
      rw [hS] at hW hK
      have hm3sz := hm3.size
      have hGlt2 := k2.lt
      have kG' : ∀ b ∈ G', w4.heap[b]? = w2.heap[b]? := fun b hb => by
        have h5 := hG1 b hb
        have h6 := hGlt2 b hb
        rw [g5.keep b (by omega) (by simp; rintro rfl; exact hpG hb)]
        exact hm3.keep b h6 fun hh => by have := hG2lt b hh; omega
      have kall : ∀ b, b < w.heap.size → b ≠ p → b ∉ G2 → w4.heap[b]? = w.heap[b]? := fun b hb hbp hbG => by
        rw [g5.keep b (by omega) (by simpa using hbp), hm3.keep b (by omega) hbG]
        exact kk b hb hbp
      have kG2 : ∀ b ∈ G2, w4.heap[b]? = w3.heap[b]? := fun b hb => g5.keep b (by have := hG2lt b hb; omega) (by simp; rintro rfl; exact r2 hb)
      have hmm : Mod (p :: (G1 ++ (G2 ++ G3))) w w4 := by
        refine ((m2.mono (by simp)).trans hm3 fun b hb hlt => by simp [hb]).trans g5 fun b hb hlt => ?_
        simp only [List.mem_singleton] at hb
        simp [hb]
      have := hK w4 (p :: (G' ++ (G2 ++ G4))) ⟨hW, by simpa using q2, by simpa using q3, A, L, C, G', a2, l2, c2, G2, A4, L4, C4, G4, T, g1, k2.keep kG', hs3.keep kG2, g2, hpG, r2, g3, fun b hb hh => by have := hG1 b hh; have := hG2lt b hb; omega, fun b hb hh => by have := g4 b hh; have := hG2lt b hb; omega, rfl⟩ hmm (fun b hb => by
        simp only [List.mem_cons, List.mem_append] at hb ⊢
        rcases hb with rfl | hb | hb | hb
        · exact .inl (.inl rfl)
        · exact .inr (hG1 b hb)
        · exact .inl (.inr (.inr (.inl hb)))
        · have := g4 b hb; exact .inr (by omega))
      rwa [hE] at this
end

end Go.Proofs
