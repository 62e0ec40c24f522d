/-
  Layer 10: what the document says, as plain functions.
  Messages, as plain functions.
  Layer 10: contracts of the program's environments.
  Layer 11: contracts of the program's lines of messages.
  Layer 11: contracts of the program's messages.
-/
import Derived.Test.YthpcakhhemdibaaGreatDenC
import Derived.Test.YthpcakhhemdibaaGreatRes
set_option linter.unusedVariables false
namespace Go.Proofs.V10
open Go Go.Den

/-- Who lives; the vector; the upcalls that wait. -/
structure S10 where
  L : List Int
  V : List Int
  U : List (Int × Int)

def in12 (n : Int) : Prop := 0 ≤ n ∧ n < 12
instance (n : Int) : Decidable (in12 n) := inferInstanceAs (Decidable (_ ∧ _))
def upV (U : List (Int × Int)) (e : Int) : Int × Bool := match (U.filter fun u => u.1 == e).getLast? with
  | some u => (u.2, true)
  | none => (0, false)
theorem upV_out {U : List (Int × Int)} {e : Int} (h : ∀ u ∈ U, u.1 ≠ e) : upV U e = (0, false) := by
  unfold upV
  have : (U.filter fun u => u.1 == e) = [] := List.filter_eq_nil_iff.2 fun u hu => by simpa using h u hu
  rw [this]
  rfl
def createE (s : S10) (e : Int) : Int := if ¬ in12 e then 101 else if e ∈ s.L then 105 else 0
def createS (s : S10) (e : Int) : S10 := if createE s e = 0 then ⟨putL s.L e, s.V, s.U⟩ else s
def sliceE (s : S10) (n e : Int) : Int := if n < 0 ∨ (s.V.length : Int) ≤ n then 101 else if e ≠ -1 ∧ e ∉ s.L then 106 else 0
def sliceS (s : S10) (n e : Int) : S10 := if sliceE s n e = 0 then ⟨s.L, s.V.set n.toNat e, s.U⟩ else s
/-- What holds of all that comes of these. -/
structure W10 (s : S10) : Prop where
  rise : Rising s.L
  in_ : ∀ x ∈ s.L, in12 x
  up : ∀ u ∈ s.U, u.1 ∈ s.L
  v : ∀ x ∈ s.V, x = -1 ∨ x ∈ s.L

theorem W10.new (n : Nat) : W10 ⟨[], List.replicate n (-1), []⟩ := ⟨by simp [Rising], by simp, by simp, fun x hx => .inl (List.eq_of_mem_replicate hx)⟩
theorem W10.create {s : S10} (h : W10 s) (e : Int) : W10 (createS s e) := by
  unfold createS
  split
  · rename_i h0
    have hin : in12 e := by
      unfold createE at h0
      split at h0
      · cases h0
      · rename_i hh; exact Decidable.not_not.1 hh
    refine ⟨h.rise.put e, fun x hx => ?_, fun u hu => mem_putL.2 (.inr (h.up u hu)), fun x hx => (h.v x hx).imp id fun h => mem_putL.2 (.inr h)⟩
    rcases mem_putL.1 hx with rfl | hx
    · exact hin
    · exact h.in_ x hx
  · exact h
theorem W10.slice {s : S10} (h : W10 s) (n e : Int) : W10 (sliceS s n e) := by
  unfold sliceS
  split
  · rename_i h0
    refine ⟨h.rise, h.in_, h.up, fun x hx => ?_⟩
    rcases List.mem_or_eq_of_mem_set hx with hx | rfl
    · exact h.v x hx
    · unfold sliceE at h0
      split at h0
      · cases h0
      · split at h0
        · cases h0
        · rename_i hh
          by_cases he : x = -1
          · exact .inl he
          · exact .inr (Decidable.not_not.1 fun hx => hh ⟨he, hx⟩)
  · exact h
theorem createV (s : S10) (e : Int) : (createS s e).V = s.V := by unfold createS; split <;> rfl
theorem live_eq {s : S10} (h : W10 s) : (ups 12).filter (fun x => decide (x ∈ s.L)) = s.L := h.rise.is_filter fun x hx => h.in_ x hx

end Go.Proofs.V10

set_option linter.unusedSimpArgs false
namespace Go.Proofs.V11
open Go Go.Den

/-- A message: whose it is, its words. -/
abbrev Msg := Int × List Int
/-- What waits for each. -/
abbrev Qs := Int → List Msg
def qput (Q : Qs) (n : Int) (ms : List Msg) : Qs := fun j => if n = j then ms else Q j
def in12 (n : Int) : Prop := 0 ≤ n ∧ n < 12
instance (n : Int) : Decidable (in12 n) := inferInstanceAs (Decidable (_ ∧ _))
def sendE (Q : Qs) (f t : Int) (n : Nat) : Int := if ¬ in12 f ∨ ¬ in12 t ∨ 8 < n then 101 else if 4 ≤ (Q t).length then 105 else 0
def sendQ (Q : Qs) (f t : Int) (ws : List Int) : Qs := if sendE Q f t ws.length = 0 then qput Q t (Q t ++ [(f, ws)]) else Q
def QOk (Q : Qs) : Prop := (∀ n, ¬ in12 n → Q n = []) ∧ ∀ n, (Q n).length ≤ 4

theorem qput_self (Q : Qs) (n : Int) : qput Q n (Q n) = Q := by
  funext j; unfold qput; split
  · rename_i h; rw [h]
  · rfl
theorem QOk.put {Q : Qs} (h : QOk Q) {n : Int} (hn : in12 n) {ms : List Msg} (hl : ms.length ≤ 4) : QOk (qput Q n ms) := by
  refine ⟨fun j hj => ?_, fun j => ?_⟩
  · unfold qput; split
    · rename_i e; subst e; exact absurd hn hj
    · exact h.1 j hj
  · unfold qput; split
    · exact hl
    · exact h.2 j

end Go.Proofs.V11

set_option linter.unusedSimpArgs false
namespace Go.Proofs.V10
open Go Go.Den

theorem mul_1 : ∀ n : Fin 65, (IntKind.u64.wrap ((IntKind.u64.wrap ((IntKind.u64.wrap ((Int.fdiv 1 (2 ^ (min ((32 : Int) : Int).toNat IntKind.u64.bits))) * (Int.fdiv (n.val : Int) (2 ^ (min ((32 : Int) : Int).toNat IntKind.u64.bits))))) + (Int.fdiv (IntKind.u64.wrap ((IntKind.u64.wrap ((Int.fdiv 1 (2 ^ (min ((32 : Int) : Int).toNat IntKind.u64.bits))) * (ibits .and .u64 (n.val : Int) (4294967295 : Int)))) + (Int.fdiv (IntKind.u64.wrap ((ibits .and .u64 1 (4294967295 : Int)) * (ibits .and .u64 (n.val : Int) (4294967295 : Int)))) (2 ^ (min ((32 : Int) : Int).toNat IntKind.u64.bits))))) (2 ^ (min ((32 : Int) : Int).toNat IntKind.u64.bits))))) + (Int.fdiv (IntKind.u64.wrap ((ibits .and .u64 (IntKind.u64.wrap ((IntKind.u64.wrap ((Int.fdiv 1 (2 ^ (min ((32 : Int) : Int).toNat IntKind.u64.bits))) * (ibits .and .u64 (n.val : Int) (4294967295 : Int)))) + (Int.fdiv (IntKind.u64.wrap ((ibits .and .u64 1 (4294967295 : Int)) * (ibits .and .u64 (n.val : Int) (4294967295 : Int)))) (2 ^ (min ((32 : Int) : Int).toNat IntKind.u64.bits))))) (4294967295 : Int)) + (IntKind.u64.wrap ((ibits .and .u64 1 (4294967295 : Int)) * (Int.fdiv (n.val : Int) (2 ^ (min ((32 : Int) : Int).toNat IntKind.u64.bits))))))) (2 ^ (min ((32 : Int) : Int).toNat IntKind.u64.bits))))) = 0 ∧ IntKind.u64.wrap (1 * (n.val : Int)) = (n.val : Int) ∧ IntKind.u64.wrap (n.val : Int) = (n.val : Int) ∧ IntKind.i64.wrap (n.val : Int) = (n.val : Int) := by
  decide +kernel

theorem repeat_run {w : World} {b n : Nat} {T : TypeId} (hb : w.heap[b]? = some (.cells #[.int .i64 (-1)] T (0, 0))) (h1 : 1 ≤ n) (h64 : n ≤ 64) {K : Value → World → Prop}
    (hK : ∀ A C w' H, SlB w' A n C 1 (i64s (List.replicate n (-1))) H → Beyond w.heap.size H → Mod [] w w' → K (.slice A n C) w') : CallsR Tryz.prog F_slices_Repeat_int_int #[.slice (some ⟨b, 0, none⟩) 1 1, .int .i64 n] w K := by
  apply R_slices_Repeat_int_int_ok
  simp only [R_slices_Repeat_int_int, drK_eq]
  obtain ⟨e1, e2, e3, e4⟩ := mul_1 ⟨n, by omega⟩
  simp only at e1 e2 e3 e4
  refine spl_f (by simp) ?_
  rw [e3, show IntKind.u64.wrap ((1 : Nat) : Int) = 1 by decide]
  apply R_math_bits_Mul_ok
  simp only [R_math_bits_Mul]
  apply R_math_bits_Mul64_ok
  simp only [R_math_bits_Mul64]
  refine ⟨by decide, by decide, by decide, by decide, by decide, _, _, rfl, _, _, rfl, ?_⟩
  rw [e1, e2, e4]
  clear e1 e2 e3 e4
  refine spl_f (by decide) (spl_f (by simp; omega) ?_)
  have hx0 : SlB w (some ⟨b, 0, none⟩) 1 1 1 (i64s [-1]) [b] := .inr ⟨b, 0, _, T, rfl, rfl, hb, by omega, by simp, rfl, fun i hi => by
    have : i = 0 := by simp [i64s] at hi; omega
    subst this; rfl⟩
  refine makeSlice_K slT_int (l := n) (c := n) (Nat.le_refl _) (by omega) (by omega) fun w1 hs1 m1 => ⟨_, _, _, rfl, ?_⟩
  generalize hq : w.heap.size = q at hs1 ⊢
  have hbq : b < q := by have := lt_of_get hb; omega
  refine copy_K slT_int hs1 (hx0.keep (m1.at0 hx0.lt)) (i64s_cell _) fun w2 hs2 m2 => ⟨_, rfl, ?_⟩
  have e5 : Nat.min 1 n = 1 := Nat.min_eq_left h1
  rw [e5] at hs2 ⊢
  have m02 : Mod [] w w2 := m1.trans m2 fun x hx hlt => by simp only [List.mem_singleton] at hx; omega
  have ez : (i64s [-1]).take (1 * 1) ++ (zrow (Value.int .i64 0) (n * 1)).drop (1 * 1) = i64s (List.replicate 1 (-1) ++ List.replicate (n - 1) 0) := by
    have : zrow (Value.int .i64 0) (n * 1) = i64s (List.replicate n 0) := by
      apply List.ext_getElem
      · simp [zrow, i64s, Value.cells]
      · intro i h1 h2
        simp [zrow, i64s, Value.cells, Nat.mod_one]
    rw [this, i64s_drop, i64s_take, ← i64s_append]
    simp
  rw [ez] at hs2
  refine ⟨fun m i w' => ∃ k : Nat, i = k ∧ 1 ≤ k ∧ k ≤ n ∧ m = n - k ∧ SlB w' (some ⟨q, 0, none⟩) n n 1 (i64s (List.replicate k (-1) ++ List.replicate (n - k) 0)) [q] ∧ Mod [] w w', ⟨n - 1, 1, rfl, by omega, by omega, rfl, hs2, m02⟩, ?_⟩
  clear hs1 hs2 m1 m2 m02 ez
  rintro m i - w3 ⟨k, rfl, hk1, hkn, rfl, hs3, hm3⟩
  rw [spl_decide]
  refine ⟨fun hlt => ⟨[], ?_⟩, fun hge => ?_⟩
  · have hs3' : SlB w3.drew (some ⟨q, 0, none⟩) n n 1 (i64s (List.replicate k (-1) ++ List.replicate (n - k) 0)) [q] := hs3
    have hm3' := hm3.drew
    generalize w3.drew = w4 at hs3' hm3' ⊢
    refine slK_of hs3' (L := k) (H := n) (M := n) (.inl rfl) (.inr ⟨rfl, rfl⟩) (.inr ⟨rfl, rfl⟩) (by omega) (by omega) (by omega) (Nat.le_refl _) fun a5 ha5 hs5 => ?_
    refine slK_of hs3' (L := 0) (H := k) (M := n) (.inr ⟨rfl, rfl⟩) (.inl rfl) (.inr ⟨rfl, rfl⟩) (by omega) (by omega) (by omega) (Nat.le_refl _) fun a6 ha6 hs6 => ?_
    have e6 : ((i64s (List.replicate k (-1) ++ List.replicate (n - k) 0)).drop (0 * 1)).take ((k - 0) * 1) = i64s (List.replicate k (-1)) := by
      simp [i64s_take]
    rw [e6] at hs6
    obtain ⟨arr, T', hbk, hcap, -⟩ := hs3'.block
    have ea5 : a5 = some ⟨q, 0 + k, none⟩ := by
      rw [ha5]
      unfold slA
      rw [if_neg (by omega)]
      simp [Addr.add_lit]
    subst ea5
    refine ⟨_, _, copy_at slT_int hbk (o := 0 + k) (l := n - k) (c := n - k) (by omega) hs6 (i64s_cell _) _, _, rfl, ?_⟩
    have emin : Nat.min (k - 0) (n - k) = min k (n - k) := rfl
    rw [emin]
    have hlt3 : k < n := by omega
    obtain ⟨d, hd⟩ : ∃ d, d = min k (n - k) := ⟨_, rfl⟩
    have hd1 : 1 ≤ d := by omega
    have hdk : d ≤ k := by omega
    have hdn : k + d ≤ n := by omega
    rw [← hd, w64 (by omega) (by omega)]
    have et : (i64s (List.replicate k (-1))).take (d * 1) = i64s (List.replicate d (-1)) := by
      rw [Nat.mul_one, i64s_take, List.take_replicate, Nat.min_eq_left hdk]
    rw [et]
    have hsp := hs3'.splice hbk (j := k) (us := i64s (List.replicate d (-1))) (by simp [i64s]; omega)
    have ev : (i64s (List.replicate k (-1) ++ List.replicate (n - k) 0)).take k ++ i64s (List.replicate d (-1)) ++ (i64s (List.replicate k (-1) ++ List.replicate (n - k) 0)).drop (k + (i64s (List.replicate d (-1))).length) = i64s (List.replicate (k + d) (-1) ++ List.replicate (n - (k + d)) 0) := by
      rw [i64s_take, i64s_drop, ← i64s_append, ← i64s_append]
      congr 1
      rw [i64s_length, List.length_replicate, List.take_left' (by simp), show k + d = (List.replicate k (-1 : Int)).length + d by simp, List.drop_append]
      simp [List.replicate_append_replicate, Nat.sub_sub, List.drop_replicate]
    rw [ev] at hsp
    refine ⟨n - (k + d), by omega, k + d, by omega, by omega, hdn, rfl, hsp, hm3'.upd (.inr (by omega)) _⟩
  · have hkn' : k = n := by omega
    subst hkn'
    rw [Nat.sub_self, List.replicate_zero, List.append_nil] at hs3
    exact hK _ _ w3 [q] hs3 (by intro x hx; simp only [List.mem_singleton] at hx; omega) hm3

/-- What the environment at place 'i' holds. -/
def ob10 (s : S10) (i : Nat) : Option (Array Value) := if (i : Int) ∈ s.L then some #[.bool (upV s.U i).2, .int .u64 (upV s.U i).1] else none

/-- The program's environments at block 'p'. -/
def EP (w : World) (p : Nat) (s : S10) (F : List Nat) : Prop :=
  W10 s ∧ 1 ≤ s.V.length ∧ s.V.length ≤ 64 ∧ ∃ ps a l c G H, PT w p ps (ob10 s) [.slice a l c] H ∧ ps.length = 12 ∧ SlB w a l c 1 (i64s s.V) G ∧ (∀ b ∈ G, b ∉ H) ∧ F = H ++ G
theorem EP.lt {w : World} {p : Nat} {s : S10} {F : List Nat} (h : EP w p s F) : ∀ b ∈ F, b < w.heap.size := by
  obtain ⟨-, -, -, ps, a, l, c, G, H, h1, h2, h3, h4, rfl⟩ := h
  intro b hb
  exact (List.mem_append.1 hb).elim (h1.lt b) (h3.lt b)
theorem EP.keep {w w' : World} {p : Nat} {s : S10} {F : List Nat} (h : EP w p s F) (hk : ∀ b ∈ F, w'.heap[b]? = w.heap[b]?) : EP w' p s F := by
  obtain ⟨q1, q2, q3, ps, a, l, c, G, H, h1, h2, h3, h4, rfl⟩ := h
  exact ⟨q1, q2, q3, ps, a, l, c, G, H, h1.keep fun b hb => hk b (by simp [hb]), h2, h3.keep fun b hb => hk b (by simp [hb]), h4, rfl⟩
def ep (p : Nat) (s : S10) (F : List Nat) : Part := ⟨F, fun w => EP w p s F, fun h k => h.keep k, fun h => h.lt⟩

section
variable {w : World} {p : Nat} {s : S10} {F : List Nat}

theorem enew_run (w : World) (n : Int) {K : Value → World → Prop} (h0 : n < 1 ∨ 64 < n → K (.pointer none) w) (h : ∀ (m p : Nat) (F : List Nat) (w' : World), n = m → 1 ≤ m → m ≤ 64 → EP w' p ⟨[], List.replicate m (-1), []⟩ F → Mod [] w w' → Beyond w.heap.size F → K (.pointer (some ⟨p, 0, none⟩)) w') : CallsR Tryz.prog F_exoenv_New #[.int .i64 n] w K := by
  apply R_exoenv_New_ok
  simp only [R_exoenv_New, newK_eq, spl_decide]
  refine ⟨fun hlt => h0 (.inl hlt), fun hge => ⟨fun hgt => h0 (.inr hgt), fun hle => ?_⟩⟩
  obtain ⟨m, rfl⟩ := nat_of (by omega : 0 ≤ n)
  have hm0 : Mod [] w (w.alloc (.cells #[.int .i64 (-1)] Ty_int)) := (Mod.refl _ _).alloc _
  refine repeat_run (alloc_new w _) (by omega) (by omega) fun A C w1 H hs1 hH m1 => ⟨_, _, _, rfl, ?_⟩
  have m01 := hm0.trans' m1
  have hsz := m01.size
  rw [alloc_size] at hH
  have hm2 : Mod [] w1 (w1.alloc (.cells #[.pointer none, .pointer none, .pointer none, .pointer none, .pointer none, .pointer none, .pointer none, .pointer none, .pointer none, .pointer none, .pointer none, .pointer none, .slice A m C] Ty_exoenv_Envs)) := (Mod.refl _ _).alloc _
  have hHlt := hs1.lt
  refine h m _ ([w1.heap.size] ++ H) _ rfl (by omega) (by omega) ⟨W10.new m, by simp; omega, by simp; omega, List.replicate 12 none, A, m, C, H, [w1.heap.size], ⟨⟨_, by rw [alloc_new w1 _]; rfl⟩, fun i q hi => ?_, fun i hi => ?_, fun i j q hi hj => ?_, fun i hi => ?_, by simp⟩, by simp, hs1.alloc _, fun b hb hh => by have := hHlt b hb; simp only [List.mem_singleton] at hh; omega, rfl⟩ (m01.trans' hm2) ?_
  · rw [List.getElem?_replicate] at hi; split at hi <;> cases hi
  · simp [ob10]
  · rw [List.getElem?_replicate] at hi; split at hi <;> cases hi
  · rw [List.getElem?_replicate] at hi; split at hi <;> cases hi
  · intro b hb
    rcases List.mem_append.1 hb with hb | hb
    · simp only [List.mem_singleton] at hb; omega
    · have := hH b hb; omega

theorem at_run {ps : List (Option Nat)} {rest : List Value} {H : List Nat} (h : PT w p ps (ob10 s) rest H) (hl : ps.length = 12) (hw : W10 s) (e : Int) {K : Value → World → Prop} (h0 : e ∉ s.L → K (.pointer none) w)
    (h1 : ∀ k q : Nat, e = k → k < 12 → e ∈ s.L → ps[k]? = some (some q) → K (.pointer (some ⟨q, 0, none⟩)) w) : CallsR Tryz.prog F_exoenv_Envs_at #[.pointer (some ⟨p, 0, none⟩), .int .i64 e] w K := by
  apply R_exoenv_Envs_at_ok
  simp only [R_exoenv_Envs_at, Option.isNone_some, spl_false, spl_decide, nilK_some, addr_add, Nat.zero_add]
  refine ⟨fun hlt => h0 fun hm => ?_, fun hge => ⟨fun hlt => h0 fun hm => ?_, fun hlt => ⟨⟨by omega, by omega⟩, ?_⟩⟩⟩
  · have := hw.in_ e hm; unfold in12 at this; omega
  · have := hw.in_ e hm; unfold in12 at this; omega
  · obtain ⟨k, rfl⟩ := nat_of (by omega : 0 ≤ e)
    obtain ⟨o, ho, hc⟩ := h.cell (i := k) (by omega)
    rw [ptrTo_eq] at hc
    rw [Int.toNat_natCast]
    refine ⟨_, hc, ?_⟩
    cases o with
    | none =>
      refine h0 fun hm => ?_
      have := h.no k ho
      rw [ob10, if_pos hm] at this
      cases this
    | some q =>
      obtain ⟨arr, T, ha, hb⟩ := h.at_ k q ho
      refine h1 k q rfl (by omega) ?_ ho
      unfold ob10 at ha
      split at ha
      · rename_i hm; exact hm
      · cases ha

theorem is_run (h : EP w p s F) (e : Int) {K : Value → World → Prop} (hK : K (.bool (decide (e ∈ s.L))) w) : CallsR Tryz.prog F_exoenv_Envs_Is #[.pointer (some ⟨p, 0, none⟩), .int .i64 e] w K := by
  apply R_exoenv_Envs_Is_ok
  simp only [R_exoenv_Envs_Is]
  obtain ⟨q1, q2, q3, ps, a, l, c, G, H, h1, h2, h3, h4, rfl⟩ := h
  refine at_run h1 h2 q1 e (fun hn => ⟨_, rfl, ?_⟩) (fun k q _ _ hm _ => ⟨_, rfl, ?_⟩)
  · rw [decide_eq_false hn] at hK; exact hK
  · rw [decide_eq_true hm] at hK; exact hK

theorem create_run (h : EP w p s F) (e : Int) {K : Value → World → Prop} (hK : ∀ w' F', EP w' p (createS s e) F' → Mod F w w' → Own w F F' → K (.int .i64 (createE s e)) w') :
    CallsR Tryz.prog F_exoenv_Envs_Create #[.pointer (some ⟨p, 0, none⟩), .int .i64 e] w K := by
  apply R_exoenv_Envs_Create_ok
  simp only [R_exoenv_Envs_Create, Option.isNone_some, spl_false, spl_decide, nilK_some, addr_add, Nat.zero_add, newK_eq]
  have no : ∀ v : Int, v ≠ 0 → createE s e = v → K (.int .i64 v) w := fun v hv he => by
    have := hK w F (by unfold createS; rw [he, if_neg hv]; exact h) (Mod.refl _ _) (Own.refl _ _)
    rwa [he] at this
  have bad : ¬ in12 e → createE s e = 101 := fun hn => if_pos hn
  have hFlt := h.lt
  have h' := h
  obtain ⟨q1, q2, q3, ps, a, l, c, G, H, h1, h2, h3, h4, rfl⟩ := h
  refine ⟨fun hlt => no 101 (by decide) (bad fun hh => by unfold in12 at hh; omega), fun hge => ⟨fun hlt => no 101 (by decide) (bad fun hh => by unfold in12 at hh; omega), fun hlt => ⟨⟨by omega, by omega⟩, ?_⟩⟩⟩
  obtain ⟨k, rfl⟩ := nat_of (by omega : 0 ≤ e)
  have hin : in12 k := ⟨by omega, by omega⟩
  obtain ⟨o, ho, hc⟩ := h1.cell (i := k) (by omega)
  rw [ptrTo_eq] at hc
  rw [Int.toNat_natCast]
  refine ⟨_, hc, ?_⟩
  cases o with
  | some q =>
    refine spl_t rfl (no 105 (by decide) ?_)
    obtain ⟨arr, T, ha, hb⟩ := h1.at_ k q ho
    unfold ob10 at ha
    split at ha
    · rename_i hm
      unfold createE
      rw [if_neg (by simp [hin]), if_pos hm]
    · cases ha
  | none =>
    have hnm : (k : Int) ∉ s.L := fun hm => by
      have := h1.no k ho
      rw [ob10, if_pos hm] at this
      cases this
    have hE : createE s k = 0 := by unfold createE; rw [if_neg (by simp [hin]), if_neg hnm]
    refine spl_f rfl ⟨⟨by omega, by omega⟩, ?_⟩
    obtain ⟨T, hrow⟩ := h1.row
    have m1 : Mod [] w (w.alloc (.cells #[.bool false, .int .u64 0] Ty_exoenv_one)) := (Mod.refl _ _).alloc _
    have hq : (w.alloc (.cells #[.bool false, .int .u64 0] Ty_exoenv_one)).heap[w.heap.size]? = some _ := alloc_new w _
    have hqn : w.heap.size ∉ H ++ G := fun hh => by have := hFlt _ hh; omega
    generalize hqe : w.heap.size = q at hq hqn ⊢
    generalize w.alloc (.cells #[.bool false, .int .u64 0] Ty_exoenv_one) = w1 at m1 hq ⊢
    have hp1 := m1.get hrow (by simp)
    refine stK_of hp1 (by simp; omega) ?_
    simp only [splice_cons, splice_nil]
    rw [show Value.pointer (some ⟨q, 0, none⟩) = ptrTo (some q) from rfl, ptrs_set ps _ (by omega)]
    have hpq : p ≠ q := fun e => hqn (by simp [← e, h1.pmem])
    have hm2 : Mod (H ++ G) w (w1.upd p (.cells ((ps.set k (some q)).map ptrTo ++ [Value.slice a l c]).toArray T (0, 0))) := m1.of0.upd (.inl (by simp [h1.pmem])) _
    have kk : ∀ b ∈ H ++ G, b ≠ p → (w1.upd p (.cells ((ps.set k (some q)).map ptrTo ++ [Value.slice a l c]).toArray T (0, 0))).heap[b]? = w.heap[b]? := fun b hb hbp => by
      rw [upd_ne _ (Ne.symm hbp)]; exact m1.keep b (hFlt b hb) (by simp)
    have kq : (w1.upd p (.cells ((ps.set k (some q)).map ptrTo ++ [Value.slice a l c]).toArray T (0, 0))).heap[q]? = some _ := (upd_ne _ hpq).trans hq
    have kp := upd_same (x := .cells ((ps.set k (some q)).map ptrTo ++ [Value.slice a l c]).toArray T (0, 0)) hp1
    generalize w1.upd p _ = w2 at hm2 kk kq kp ⊢
    obtain ⟨H', hPT, hH'⟩ := h1.put ho kp kq (fun hh => hqn (by simp [hh])) (fun b hb => kk b (by simp [hb]))
    have := hK w2 (H' ++ G) ⟨q1.create k, by rw [createV]; exact q2, by rw [createV]; exact q3, ps.set k (some q), a, l, c, G, H', ?_, by simpa using h2, ?_, ?_, rfl⟩ hm2 ?_
    · rwa [hE] at this
    · refine hPT.say fun i hi => ?_
      unfold createS
      rw [if_pos hE]
      unfold ob10
      simp only [mem_putL]
      by_cases hik : k = i
      · subst hik
        have hup : upV s.U k = (0, false) := upV_out fun u hu hue => hnm (hue ▸ q1.up u hu)
        rw [if_pos (.inl rfl), if_pos rfl, hup]
      · rw [if_neg hik]
        have : ((i : Int) = k ∨ (i : Int) ∈ s.L) ↔ (i : Int) ∈ s.L := by
          constructor
          · rintro (h | h)
            · omega
            · exact h
          · exact .inr
        simp only [this]
    · rw [createV]; exact h3.keep fun b hb => kk b (by simp [hb]) fun e => h4 b hb (e ▸ h1.pmem)
    · intro b hb hh
      rcases hH' b hh with h | rfl
      · exact h4 b hb h
      · exact hqn (by simp [hb])
    · intro b hb
      rcases List.mem_append.1 hb with hb | hb
      · rcases hH' b hb with h | rfl
        · exact .inl (by simp [h])
        · exact .inr (by omega)
      · exact .inl (by simp [hb])
end

end Go.Proofs.V10

set_option linter.unusedSimpArgs false
namespace Go.Proofs.V11
open Go Go.Den

/-- A message, as it lies in its row. -/
abbrev PM := Int × Option Addr × Nat × Nat
def mcell (m : PM) : List Value := [.int .i64 m.1, .slice m.2.1 m.2.2.1 m.2.2.2]
def mrow (ph : List PM) : List Value := (ph.map mcell).flatten
theorem mrow_2 (ph : List PM) : ∀ vs ∈ ph.map mcell, vs.length = 2 := by
  intro vs hv
  simp only [List.mem_map] at hv
  obtain ⟨p, _, rfl⟩ := hv
  rfl
theorem mrow_cell (ph : List PM) : ∀ u ∈ mrow ph, isCell u = true := by
  intro u hu
  simp only [mrow, List.mem_flatten, List.mem_map] at hu
  obtain ⟨vs, ⟨p, _, rfl⟩, hu⟩ := hu
  simp only [mcell, List.mem_cons, List.not_mem_nil, or_false] at hu
  rcases hu with rfl | rfl <;> rfl
theorem mrow_len (ph : List PM) : (mrow ph).length = ph.length * 2 := by
  induction ph with
  | nil => rfl
  | cons p L ih => simp only [mrow, List.map_cons, List.flatten_cons, List.length_append, List.length_cons] at ih ⊢; rw [ih]; simp [mcell]; omega
theorem mrow_app (a b : List PM) : mrow (a ++ b) = mrow a ++ mrow b := by simp [mrow]
theorem mrow_take (ph : List PM) (n : Nat) : (mrow ph).take (n * 2) = mrow (ph.take n) := by
  induction ph generalizing n with
  | nil => simp [mrow]
  | cons p ph ih =>
    cases n with
    | zero => simp [mrow]
    | succ n =>
      have := ih n
      simp only [mrow, List.map_cons, List.flatten_cons, List.take_succ_cons] at this ⊢
      rw [show (n + 1) * 2 = (mcell p).length + n * 2 by simp [mcell]; omega, List.take_length_add_append, this]
theorem mrow_drop (ph : List PM) (n : Nat) : (mrow ph).drop (n * 2) = mrow (ph.drop n) := by
  induction ph generalizing n with
  | nil => simp [mrow]
  | cons p ph ih =>
    cases n with
    | zero => simp [mrow]
    | succ n =>
      have := ih n
      simp only [mrow, List.map_cons, List.flatten_cons, List.drop_succ_cons] at this ⊢
      rw [show (n + 1) * 2 = (mcell p).length + n * 2 by simp [mcell]; omega, List.drop_length_add_append, this]

/-- What lies in a row is a message; its words lie in the blocks 'W'. -/
def MsgOk (w : World) (W : List Nat) (m : PM) (x : Msg) : Prop := m.1 = x.1 ∧ ∃ H, Rd w m.2.1 m.2.2.1 1 (u64s x.2) H ∧ (∀ b ∈ H, b ∈ W) ∧ m.2.2.1 ≤ m.2.2.2 ∧ x.2.length ≤ 8
def MsgsOk (w : World) (W : List Nat) (ph : List PM) (ms : List Msg) : Prop := ph.length = ms.length ∧ ∀ (i : Nat) m x, ph[i]? = some m → ms[i]? = some x → MsgOk w W m x

theorem MsgOk.keep {w w' : World} {W : List Nat} {m : PM} {x : Msg} (h : MsgOk w W m x) (hk : ∀ b ∈ W, w'.heap[b]? = w.heap[b]?) : MsgOk w' W m x := by
  obtain ⟨h1, H, h2, h3, h4⟩ := h
  exact ⟨h1, H, h2.keep fun b hb => hk b (h3 b hb), h3, h4⟩
theorem MsgsOk.keep {w w' : World} {W : List Nat} {ph : List PM} {ms : List Msg} (h : MsgsOk w W ph ms) (hk : ∀ b ∈ W, w'.heap[b]? = w.heap[b]?) : MsgsOk w' W ph ms :=
  ⟨h.1, fun i m x hm hx => (h.2 i m x hm hx).keep hk⟩
theorem MsgsOk.mono {w : World} {W W' : List Nat} {ph : List PM} {ms : List Msg} (h : MsgsOk w W ph ms) (hk : ∀ b ∈ W, b ∈ W') : MsgsOk w W' ph ms :=
  ⟨h.1, fun i m x hm hx => by
    obtain ⟨h1, H, h2, h3, h4⟩ := h.2 i m x hm hx
    exact ⟨h1, H, h2, fun b hb => hk b (h3 b hb), h4⟩⟩
theorem MsgsOk.nil (w : World) (W : List Nat) : MsgsOk w W [] [] := ⟨rfl, fun i m x hm => by simp at hm⟩
theorem MsgsOk.append {w : World} {W : List Nat} {ph ph' : List PM} {ms ms' : List Msg} (h : MsgsOk w W ph ms) (h' : MsgsOk w W ph' ms') : MsgsOk w W (ph ++ ph') (ms ++ ms') := by
  refine ⟨by simp [h.1, h'.1], fun i m x hm hx => ?_⟩
  have hl := h.1
  by_cases hi : i < ph.length
  · rw [List.getElem?_append_left hi] at hm
    rw [List.getElem?_append_left (by omega)] at hx
    exact h.2 i m x hm hx
  · rw [List.getElem?_append_right (by omega)] at hm
    rw [List.getElem?_append_right (by omega), ← hl] at hx
    exact h'.2 _ m x hm hx
theorem MsgsOk.single {w : World} {W : List Nat} {m : PM} {x : Msg} (h : MsgOk w W m x) : MsgsOk w W [m] [x] := by
  refine ⟨rfl, fun i m' x' hm hx => ?_⟩
  cases i with
  | zero => cases hm; cases hx; exact h
  | succ i => simp at hm
theorem MsgsOk.cons {w : World} {W : List Nat} {m : PM} {x : Msg} {ph : List PM} {ms : List Msg} (h : MsgsOk w W (m :: ph) (x :: ms)) : MsgOk w W m x ∧ MsgsOk w W ph ms :=
  ⟨h.2 0 m x rfl rfl, by simpa using h.1, fun i m' x' hm hx => h.2 (i + 1) m' x' (by simpa using hm) (by simpa using hx)⟩

/-- A line of messages: its slice, and what it holds. -/
def LineP (w : World) (a : Option Addr) (l c : Nat) (ms : List Msg) (F W : List Nat) : Prop :=
  ∃ (ph : List PM) (G : List Nat), SlB w a l c 2 (mrow ph) G ∧ MsgsOk w W ph ms ∧ (∀ b ∈ W, b < w.heap.size) ∧ (∀ b ∈ G, b ∉ W) ∧ F = G ++ W

theorem LineP.lt {w : World} {a : Option Addr} {l c : Nat} {ms : List Msg} {F W : List Nat} (h : LineP w a l c ms F W) : ∀ b ∈ F, b < w.heap.size := by
  obtain ⟨ph, G, h1, h2, h3, h4, rfl⟩ := h
  intro b hb
  rcases List.mem_append.1 hb with h | h
  · exact h1.lt b h
  · exact h3 b h
theorem lt_keep {w w' : World} {b : Nat} (h : b < w.heap.size) (hk : w'.heap[b]? = w.heap[b]?) : b < w'.heap.size :=
  lt_of_get (hk.trans (Array.getElem?_eq_getElem h))
theorem LineP.keep {w w' : World} {a : Option Addr} {l c : Nat} {ms : List Msg} {F W : List Nat} (h : LineP w a l c ms F W) (hk : ∀ b ∈ F, w'.heap[b]? = w.heap[b]?) : LineP w' a l c ms F W := by
  obtain ⟨ph, G, h1, h2, h3, h4, rfl⟩ := h
  exact ⟨ph, G, h1.keep fun b hb => hk b (by simp [hb]), h2.keep fun b hb => hk b (by simp [hb]), fun b hb => lt_keep (h3 b hb) (hk b (by simp [hb])), h4, rfl⟩
theorem LineP.len {w : World} {a : Option Addr} {l c : Nat} {ms : List Msg} {F W : List Nat} (h : LineP w a l c ms F W) : ms.length = l := by
  obtain ⟨ph, G, h1, h2, h3, h4, rfl⟩ := h
  have := h1.length
  rw [mrow_len] at this
  have := h2.1
  omega
theorem LineP.nil (w : World) : LineP w none 0 0 [] [] [] := ⟨[], [], SlB.nil w 2, MsgsOk.nil w _, by simp, by simp, rfl⟩

/-- A message of a row. -/
theorem row_at {w : World} {a : Option Addr} {l c : Nat} {ph : List PM} {G : List Nat} (h : SlB w a l c 2 (mrow ph) G) {i : Nat} (hi : i < l) :
    ∃ ad m, a = some ad ∧ ph[i]? = some m ∧ w.cell? (Addr.add ad (i * 2)) = some (.int .i64 m.1) ∧ w.cell? (Addr.add (Addr.add ad (i * 2)) 1) = some (.slice m.2.1 m.2.2.1 m.2.2.2) := by
  have hlen := h.length
  rw [mrow_len] at hlen
  obtain ⟨ad, vs, ha, hvs, -, -, -, hc⟩ := h.rd.elem (vss := ph.map mcell) (by simp; omega) (mrow_2 ph) hi
  simp only [List.getElem?_map, Option.map_eq_some_iff] at hvs
  obtain ⟨m, hm, rfl⟩ := hvs
  exact ⟨ad, m, ha, hm, by have := hc 0 (by decide); rw [add_zero] at this; exact this, hc 1 (by decide)⟩

theorem clone_u64 {w : World} {a : Option Addr} {l c : Nat} {xs : List Int} {F : List Nat} (hs : Rd w a l 1 (u64s xs) F) (hb : l ≤ 1000000) {K : Value → World → Prop}
    (h : ∀ A C w' H, SlB w' A l C 1 (u64s xs) H → Beyond w.heap.size H → Mod [] w w' → K (.slice A l C) w') : CallsR Tryz.prog F_slices_Clone_uint64_uint64 #[.slice a l c] w K := by
  apply R_slices_Clone_uint64_uint64_ok
  refine clone_body slT_u64 (by decide) hs (u64s_cell _) (by omega) (by omega) h (fun ha hl => ?_)
  subst hl
  have := h none 0 w [] (by have := hs.u64; rw [List.eq_nil_of_length_eq_zero this]; exact SlB.nil w 1) (by simp [Beyond]) (Mod.refl _ _)
  exact this

theorem clone_msg {w : World} {a : Option Addr} {l c : Nat} {ph : List PM} {F : List Nat} (hs : Rd w a l 2 (mrow ph) F) (hb : l ≤ 1000000) {K : Value → World → Prop}
    (h : ∀ A C w' H, SlB w' A l C 2 (mrow ph) H → Beyond w.heap.size H → Mod [] w w' → K (.slice A l C) w') : CallsR Tryz.prog F_slices_Clone_exoipc_message_exoipc_message #[.slice a l c] w K := by
  apply R_slices_Clone_exoipc_message_exoipc_message_ok
  refine clone_body slT_exoipc_message (by decide) hs (mrow_cell _) (by omega) (by omega) h (fun ha hl => ?_)
  subst hl
  have hl0 := hs.length
  rw [mrow_len] at hl0
  have := h none 0 w [] (by have : ph = [] := List.eq_nil_of_length_eq_zero (by omega)
                            subst this; exact SlB.nil w 2) (by simp [Beyond]) (Mod.refl _ _)
  exact this

section
variable {w : World} {p k : Nat} {arr : Array Value} {T : TypeId} {a : Option Addr} {l c : Nat} {ms : List Msg} {F W : List Nat}

theorem line_push (hp : w.heap[p]? = some (.cells arr T (0, 0))) (hk : arr[k]? = some (.slice a l c)) (hL : LineP w a l c ms F W) (hpF : p ∉ F) (hl4 : l ≤ 1000) {from_ : Int} {wa : Option Addr} {wl wc : Nat} {ws : List Int} {H : List Nat}
    (hw : Rd w wa wl 1 (u64s ws) H) (hwc : wl ≤ wc) (hw8 : ws.length ≤ 8) (hHF : ∀ b ∈ H, b ∉ F) (hpH : p ∉ H) {K : Value → World → Prop}
    (hK : ∀ w' a' c' F', w'.heap[p]? = some (.cells (arr.setIfInBounds k (.slice a' (l + 1) c')) T (0, 0)) → LineP w' a' (l + 1) c' (ms ++ [(from_, ws)]) F' (W ++ H) → Mod (p :: F) w w' → (∀ b ∈ F', b ∈ F ∨ b ∈ H ∨ w.heap.size ≤ b) → (∀ b ∈ W, w'.heap[b]? = w.heap[b]?) → K (.tuple #[]) w') :
    CallsR Tryz.prog F_exoipc_line_exoipc_message_push #[.pointer (some ⟨p, k, none⟩), .agg #[.int .i64 from_, .slice wa wl wc]] w K := by
  apply R_exoipc_line_exoipc_message_push_ok
  simp only [R_exoipc_line_exoipc_message_push, newK_eq, drK_eq, nilK_some]
  obtain ⟨ph, G, hs, hms, hW, hGW, rfl⟩ := hL
  have hplt := lt_of_get hp
  have hklt : k < arr.size := (Array.getElem?_eq_some_iff.1 hk).1
  have hGlt := hs.lt
  have hHlt := hw.lt
  have hm1 : Mod [] w (w.alloc (.cells #[.int .i64 from_, .slice wa wl wc] Ty_exoipc_message)).drew := ((Mod.refl _ _).alloc _).drew
  have hb1 : (w.alloc (.cells #[.int .i64 from_, .slice wa wl wc] Ty_exoipc_message)).drew.heap[w.heap.size]? = some (.cells #[.int .i64 from_, .slice wa wl wc] Ty_exoipc_message) := alloc_new w _
  generalize hbn : w.heap.size = bn at hb1 ⊢
  generalize (w.alloc (.cells #[.int .i64 from_, .slice wa wl wc] Ty_exoipc_message)).drew = w1 at hm1 hb1 ⊢
  have hp1 := hm1.get hp (by simp)
  have hs1 := hs.keep (hm1.at0 hs.lt)
  have kp : ∀ {u : World}, Mod G w1 u → keepB [p, bn] w1 u := fun hm x hx => by
    simp only [List.mem_cons, List.not_mem_nil, or_false] at hx
    rcases hx with rfl | rfl
    · exact hm.keep _ (lt_of_get hp1) fun h => hpF (by simp [h])
    · exact hm.keep _ (lt_of_get hb1) fun h => by have := hGlt _ h; omega
  refine ⟨[p, bn], by simp, a, l, c, by rw [cell_get hp1]; exact hk, by simp, from_, wa, wl, wc, ⟨by rw [cell_get hb1]; rfl, by rw [cell_get hb1]; rfl⟩, kp ((Mod.refl _ _).alloc _), ?_⟩
  refine grow_K slT_exoipc_message (by decide) hs1 (us := mcell (from_, wa, wl, wc)) rfl (by simp [isCell, mcell]) (by omega) (by omega) fun A C w2 G2 hs2 hm2 ho2 => ⟨_, _, _, rfl, ?_⟩
  have hp2 := hm2.get hp1 (fun h => hpF (by simp [h]))
  have hs1sz := hm1.size
  have hG2 : ∀ b ∈ G2, b ∈ G ∨ w.heap.size ≤ b := fun b hb => (ho2 b hb).imp id fun h => by omega
  have hpG2 : p ∉ G2 := fun h => by
    rcases hG2 p h with h | h
    · exact hpF (by simp [h])
    · omega
  have hm02 : Mod G w w2 := hm1.of0.trans' hm2
  refine stK_of hp2 (by simp; omega) ?_
  simp only [splice_cons, splice_nil]
  have kW : ∀ x, x < w.heap.size → x ∉ G → p ≠ x → (w2.upd p (.cells (arr.setIfInBounds k (.slice A (l + 1) C)) T (0, 0))).heap[x]? = w.heap[x]? := fun x hx hxG hpx => by
    rw [upd_ne _ hpx]
    exact hm02.keep x hx hxG
  refine hK _ A C (G2 ++ (W ++ H)) (upd_same hp2) ⟨ph ++ [(from_, wa, wl, wc)], G2, ?_, ?_, ?_, ?_, rfl⟩ ((hm02.mono (by simp +contextual)).upd (.inl (by simp)) _) ?_ (fun b hb => kW b (hW b hb) (fun h => hGW b h hb) (by rintro rfl; exact hpF (by simp [hb])))
  · rw [mrow_app]
    have : mrow [(from_, wa, wl, wc)] = mcell (from_, wa, wl, wc) := by simp [mrow]
    rw [this]
    exact hs2.keep fun b hb => upd_ne _ (by rintro rfl; exact hpG2 hb)
  · refine MsgsOk.append ((hms.keep fun b hb => kW b (hW b hb) (fun h => hGW b h hb) (by rintro rfl; exact hpF (by simp [hb]))).mono (by simp +contextual)) (MsgsOk.single ⟨rfl, H, ?_, by simp +contextual, hwc, hw8⟩)
    exact hw.keep fun b hb => kW b (hHlt b hb) (fun h => hHF b hb (by simp [h])) (by rintro rfl; exact hpH hb)
  · intro b hb
    rw [upd_size]
    have := hm02.size
    rcases List.mem_append.1 hb with h | h
    · have := hW b h; omega
    · have := hHlt b h; omega
  · intro b hb hbW
    rcases hG2 b hb with h | h
    · rcases List.mem_append.1 hbW with h' | h'
      · exact hGW b h h'
      · exact hHF b h' (by simp [h])
    · rcases List.mem_append.1 hbW with h' | h'
      · have := hW b h'; omega
      · have := hHlt b h'; omega
  · intro b hb
    simp only [List.mem_append] at hb ⊢
    rcases hb with h | h | h
    · exact (hG2 b h).elim (fun h => .inl (.inl h)) fun h => .inr (.inr h)
    · exact .inl (.inr h)
    · exact .inr (.inl h)

theorem line_pop (hp : w.heap[p]? = some (.cells arr T (0, 0))) (hk : arr[k]? = some (.slice a l c)) (hL : LineP w a l c ms F W) (hpF : p ∉ F) (hl4 : l ≤ 1000) {K : Value → World → Prop}
    (h0 : ∀ w', ms = [] → Mod [] w w' → K (.tuple #[.agg #[.int .i64 0, .slice none 0 0], .bool false]) w')
    (hK : ∀ x ms' w' a' c' F' wa wl wc H, ms = x :: ms' → w'.heap[p]? = some (.cells (arr.setIfInBounds k (.slice a' (l - 1) c')) T (0, 0)) → LineP w' a' (l - 1) c' ms' F' W → Mod [p] w w' → (∀ b ∈ F', b ∈ F ∨ w.heap.size ≤ b) → Rd w' wa wl 1 (u64s x.2) H → (∀ b ∈ H, b ∈ W) → wl ≤ wc → x.2.length ≤ 8 → (∀ b ∈ W, w'.heap[b]? = w.heap[b]?) →
      K (.tuple #[.agg #[.int .i64 x.1, .slice wa wl wc], .bool true]) w') :
    CallsR Tryz.prog F_exoipc_line_exoipc_message_pop #[.pointer (some ⟨p, k, none⟩)] w K := by
  apply R_exoipc_line_exoipc_message_pop_ok
  simp only [R_exoipc_line_exoipc_message_pop, newK_eq, nilK_some, spl_beq]
  have hlen := hL.len
  obtain ⟨ph, G, hs, hms, hW, hGW, rfl⟩ := hL
  have hplt := lt_of_get hp
  have hklt : k < arr.size := (Array.getElem?_eq_some_iff.1 hk).1
  have hGlt := hs.lt
  have s1 := (Sep.nil (Mod.refl [] w)).alloc (.cells #[.int .i64 0, .slice none 0 0] Ty_exoipc_message)
  generalize w.alloc (.cells #[.int .i64 0, .slice none 0 0] Ty_exoipc_message) = w1 at s1 ⊢
  generalize w.heap.size = b1 at s1 ⊢
  have s2 := s1.alloc (.cells #[.int .i64 0, .slice none 0 0] Ty_exoipc_message)
  generalize w1.alloc (.cells #[.int .i64 0, .slice none 0 0] Ty_exoipc_message) = w2 at s2 ⊢
  generalize w1.heap.size = b2 at s2 ⊢
  have hp2 := s2.mod.get hp (by simp)
  have cp : w2.cell? ⟨p, k, none⟩ = some (.slice a l c) := by rw [cell_get hp2]; exact hk
  refine ⟨a, l, c, cp, fun hz => ?_, fun hnz => ?_⟩
  · have hb2 : w2.heap[b2]? = some _ := s2.nth 0 rfl
    refine ⟨0, none, 0, 0, ⟨by rw [cell_get hb2]; rfl, by rw [cell_get hb2]; rfl⟩, ?_⟩
    have hb1 : w2.heap[b1]? = some _ := s2.nth 1 rfl
    refine stK_of hb1 (by simp) ?_
    have hu := upd_same (x := .cells (splice #[.int .i64 0, .slice none 0 0] 0 [.int .i64 0, .slice none 0 0]) Ty_exoipc_message (0, 0)) hb1
    refine ⟨0, none, 0, 0, ⟨by rw [cell_get hu]; rfl, by rw [cell_get hu]; rfl⟩, h0 _ (List.eq_nil_of_length_eq_zero (by omega)) (s2.mod.upd (.inr (s2.bey 1 rfl b1 (by simp [blk]))) _)⟩
  · have hs2 := hs.keep (s2.mod.at0 hs.lt)
    obtain ⟨ad, m, rfl, hm, c0, c1⟩ := row_at hs2 (i := 0) (by omega)
    simp only [Nat.zero_mul, add_zero] at c0 c1
    obtain ⟨x, ms', rfl⟩ : ∃ x ms', ms = x :: ms' := by
      cases ms with
      | nil => simp at hlen; omega
      | cons x ms' => exact ⟨x, ms', rfl⟩
    obtain ⟨ph', rfl⟩ : ∃ ph', ph = m :: ph' := by
      cases ph with
      | nil => simp at hm
      | cons y ph' => exact ⟨ph', by simp at hm; rw [hm]⟩
    obtain ⟨⟨hm1, H, hrd, hHW, hmc, hx8⟩, hms'⟩ := hms.cons
    refine ⟨some ad, l, c, cp, ?_⟩
    rw [nilK_some]
    refine ⟨⟨by omega, by omega⟩, m.1, m.2.1, m.2.2.1, m.2.2.2, ⟨c0, c1⟩, ?_⟩
    refine s2.stK rfl fun w3 s3 m3 => ?_
    generalize w2.heap.size = b3 at s3 ⊢
    have hp3 := s3.mod.get hp (by simp)
    refine ⟨some ad, l, c, by rw [cell_get hp3]; exact hk, ?_⟩
    have hs3 := hs.keep (s3.mod.at0 hs.lt)
    have hl2 := hs3.length
    rw [mrow_len] at hl2
    refine slK_rd hs3.rd hs3.le (L := 1) (H := l) (.inl rfl) (.inr ⟨rfl, rfl⟩) (by omega) (Nat.le_refl _) fun a4 G4 hr4 hG4 => ?_
    have e4 : ((mrow (m :: ph')).drop (1 * 2)).take ((l - 1) * 2) = mrow ph' := by
      rw [mrow_drop, mrow_take, List.drop_one, List.tail_cons, List.take_of_length_le (by simp at hl2; omega)]
    rw [e4] at hr4
    refine clone_msg hr4 (by omega) fun A C w5 G5 hs5 hG5 m5 => ⟨_, _, _, rfl, ?_⟩
    have s5 := s3.mod0 m5
    have hp5 := s5.mod.get hp (by simp)
    have hb5 : w5.heap[b3]? = some _ := s5.nth 0 rfl
    have hb15 : w5.heap[b1]? = some _ := s5.nth 2 rfl
    have hb3w := s3.bey 0 rfl b3 (by simp [blk])
    have hb1w := s3.bey 2 rfl b1 (by simp [blk])
    have hpb3 : p ≠ b3 := by omega
    have hpb1 : p ≠ b1 := by omega
    have hb31 : b3 ≠ b1 := fun e => s3.dj 0 2 (by decide) rfl rfl b3 (by simp [blk]) (by simp [blk, e])
    refine stK_of hp5 (by simp; omega) ?_
    simp only [splice_cons, splice_nil]
    have hp6 := upd_same (x := .cells (arr.setIfInBounds k (.slice A (l - 1) C)) T (0, 0)) hp5
    have m6 : Mod [p] w (w5.upd p (.cells (arr.setIfInBounds k (.slice A (l - 1) C)) T (0, 0))) := s5.mod.of0.upd (.inl (by simp)) _
    have k6 : ∀ x, p ≠ x → (w5.upd p (.cells (arr.setIfInBounds k (.slice A (l - 1) C)) T (0, 0))).heap[x]? = w5.heap[x]? := fun x hx => upd_ne _ hx
    generalize w5.upd p (.cells (arr.setIfInBounds k (.slice A (l - 1) C)) T (0, 0)) = w6 at hp6 m6 k6 ⊢
    have hb6 := (k6 b3 hpb3).trans hb5
    refine ⟨m.1, m.2.1, m.2.2.1, m.2.2.2, ⟨by rw [cell_get hb6]; rfl, by rw [cell_get hb6]; rfl⟩, ?_⟩
    have hb16 := (k6 b1 hpb1).trans hb15
    refine stK_of hb16 (by simp) ?_
    have hu := upd_same (x := .cells (splice #[.int .i64 0, .slice none 0 0] 0 [.int .i64 m.1, .slice m.2.1 m.2.2.1 m.2.2.2]) Ty_exoipc_message (0, 0)) hb16
    have m7 : Mod [p] w (w6.upd b1 (.cells (splice #[.int .i64 0, .slice none 0 0] 0 [.int .i64 m.1, .slice m.2.1 m.2.2.1 m.2.2.2]) Ty_exoipc_message (0, 0))) := m6.upd (.inr hb1w) _
    have k7 : ∀ x, b1 ≠ x → (w6.upd b1 (.cells (splice #[.int .i64 0, .slice none 0 0] 0 [.int .i64 m.1, .slice m.2.1 m.2.2.1 m.2.2.2]) Ty_exoipc_message (0, 0))).heap[x]? = w6.heap[x]? := fun x hx => upd_ne _ hx
    refine ⟨m.1, m.2.1, m.2.2.1, m.2.2.2, ⟨by rw [cell_get hu]; rfl, by rw [cell_get hu]; rfl⟩, ?_⟩
    generalize w6.upd b1 _ = w7 at m7 k7 ⊢
    have hw3 := s3.mod.size
    have hG5' : ∀ b ∈ G5, w.heap.size ≤ b := fun b hb => by have := hG5 b hb; omega
    have hb1G5 : b1 ∉ G5 := fun h => by
      have h1 := hG5 b1 h
      have h2 : b1 < w3.heap.size := lt_of_get (show w3.heap[b1]? = some _ from s3.nth 2 rfl)
      omega
    have hpG5 : p ∉ G5 := fun h => by have := hG5' p h; omega
    have kF : ∀ b ∈ W, w7.heap[b]? = w.heap[b]? := fun b hb => m7.keep b (hW b hb) (by simp; rintro rfl; exact hpF (by simp [hb]))
    rw [hm1]
    refine hK x ms' w7 A C (G5 ++ W) m.2.1 m.2.2.1 m.2.2.2 H rfl ((k7 p (Ne.symm hpb1)).trans hp6) ⟨ph', G5, ?_, hms'.keep kF, fun b hb => lt_keep (hW b hb) (kF b hb), fun b hb hbW => by have := hG5' b hb; have := hW b hbW; omega, rfl⟩ m7 ?_ (hrd.keep fun b hb => kF b (hHW b hb)) hHW hmc hx8 kF
    · exact hs5.keep fun b hb => (k7 b (by rintro rfl; exact hb1G5 hb)).trans (k6 b (by rintro rfl; exact hpG5 hb))
    · intro b hb
      simp only [List.mem_append] at hb ⊢
      rcases hb with h | h
      · exact .inr (hG5' b h)
      · exact .inl (.inr h)
end

end Go.Proofs.V11

set_option linter.unusedSimpArgs false
namespace Go.Proofs.V11
open Go Go.Den

/-- The program's messages at block 'p'. -/
def IpcP (w : World) (p : Nat) (Q : Qs) (F W : List Nat) : Prop :=
  ∃ (ls : List (Option Addr × Nat × Nat)) (Fs Ws : List (List Nat)) (T : TypeId), w.heap[p]? = some (.cells (ls.map fun x => Value.slice x.1 x.2.1 x.2.2).toArray T (0, 0)) ∧ ls.length = 12 ∧ Fs.length = 12 ∧ Ws.length = 12 ∧ QOk Q ∧
    (∀ (i : Nat) x Fi Wi, ls[i]? = some x → Fs[i]? = some Fi → Ws[i]? = some Wi → LineP w x.1 x.2.1 x.2.2 (Q (i : Int)) Fi Wi ∧ p ∉ Fi) ∧ (∀ (i j : Nat) Fi Fj, i ≠ j → Fs[i]? = some Fi → Fs[j]? = some Fj → ∀ b ∈ Fi, b ∉ Fj) ∧ F = p :: Fs.flatten ∧ W = Ws.flatten

theorem LineP.sub {w : World} {a : Option Addr} {l c : Nat} {ms : List Msg} {F W : List Nat} (h : LineP w a l c ms F W) : ∀ b ∈ W, b ∈ F := by
  obtain ⟨ph, G, h1, h2, h3, h4, rfl⟩ := h
  intro b hb
  simp [hb]
theorem IpcP.ok {w : World} {p : Nat} {Q : Qs} {F W : List Nat} (h : IpcP w p Q F W) : QOk Q := by
  obtain ⟨ls, Fs, Ws, T, h1, h2, h3, h3', h4, -⟩ := h
  exact h4
theorem IpcP.lt {w : World} {p : Nat} {Q : Qs} {F W : List Nat} (h : IpcP w p Q F W) : ∀ b ∈ F, b < w.heap.size := by
  obtain ⟨ls, Fs, Ws, T, h1, h2, h3, h3', h4, h5, h6, rfl, rfl⟩ := h
  intro b hb
  simp only [List.mem_cons, List.mem_flatten] at hb
  rcases hb with rfl | ⟨Fi, hFi, hb⟩
  · exact lt_of_get h1
  · obtain ⟨i, hi⟩ := List.getElem?_of_mem hFi
    have hil : i < ls.length := by have := (List.getElem?_eq_some_iff.1 hi).1; omega
    exact (h5 i _ Fi _ (List.getElem?_eq_getElem hil) hi (List.getElem?_eq_getElem (by omega))).1.lt b hb
theorem IpcP.keep {w w' : World} {p : Nat} {Q : Qs} {F W : List Nat} (h : IpcP w p Q F W) (hk : ∀ b ∈ F, w'.heap[b]? = w.heap[b]?) : IpcP w' p Q F W := by
  obtain ⟨ls, Fs, Ws, T, h1, h2, h3, h3', h4, h5, h6, rfl, rfl⟩ := h
  refine ⟨ls, Fs, Ws, T, (hk p (by simp)).trans h1, h2, h3, h3', h4, fun i x Fi Wi hx hF hW => ?_, h6, rfl, rfl⟩
  obtain ⟨h7, h8⟩ := h5 i x Fi Wi hx hF hW
  exact ⟨h7.keep fun b hb => hk b (by simp only [List.mem_cons, List.mem_flatten]; exact .inr ⟨Fi, List.mem_of_getElem? hF, hb⟩), h8⟩

/-- The words of messages, also of those that were taken, are as they were. -/
def Keep (W W' : List Nat) (w w' : World) : Prop := ∀ b ∈ W, w'.heap[b]? = w.heap[b]? ∧ b ∈ W'
theorem Keep.refl (W : List Nat) (w : World) : Keep W W w w := fun _ h => ⟨rfl, h⟩
theorem Keep.trans {W W1 W2 : List Nat} {w w1 w2 : World} (h : Keep W W1 w w1) (h' : Keep W1 W2 w1 w2) : Keep W W2 w w2 := fun b hb => ⟨((h' b (h b hb).2).1).trans (h b hb).1, (h' b (h b hb).2).2⟩

theorem ipc_line {w : World} {p : Nat} {Q : Qs} {F W : List Nat} (h : IpcP w p Q F W) {k : Nat} (hk : k < 12) :
    ∃ arr T a l c Fi Wi, w.heap[p]? = some (.cells arr T (0, 0)) ∧ arr[k]? = some (.slice a l c) ∧ arr.size = 12 ∧ LineP w a l c (Q (k : Int)) Fi Wi ∧ p ∉ Fi ∧ (∀ b ∈ Fi, b ∈ F) ∧ p ∈ F ∧ (∀ b ∈ W, b ∈ F) ∧ (∀ b ∈ Wi, b ∈ W) ∧
      ∀ w' a' l' c' ms' Fi' Wi', w'.heap[p]? = some (.cells (arr.setIfInBounds k (.slice a' l' c')) T (0, 0)) → LineP w' a' l' c' ms' Fi' Wi' → ms'.length ≤ 4 → Mod (p :: Fi) w w' → (∀ b ∈ Fi', b ∈ Fi ∨ b ∉ F) → (∀ b ∈ Wi, w'.heap[b]? = w.heap[b]? ∧ b ∈ Wi') → ∃ F' W', IpcP w' p (qput Q k ms') F' W' ∧ (∀ b ∈ F', b ∈ F ∨ b ∈ Fi') ∧ Keep W W' w w' ∧ (∀ b ∈ Wi', b ∈ W') := by
  have hlt := h.lt
  obtain ⟨ls, Fs, Ws, T, h1, h2, h3, h3', h4, h5, h6, rfl, rfl⟩ := h
  have hx : ls[k]? = some (ls[k]'(by omega)) := List.getElem?_eq_getElem _
  have hF : Fs[k]? = some (Fs[k]'(by omega)) := List.getElem?_eq_getElem _
  have hW : Ws[k]? = some (Ws[k]'(by omega)) := List.getElem?_eq_getElem _
  obtain ⟨x, hx'⟩ : ∃ x, x = ls[k]'(by omega) := ⟨_, rfl⟩
  obtain ⟨Fi, hFi⟩ : ∃ Fi, Fi = Fs[k]'(by omega) := ⟨_, rfl⟩
  obtain ⟨Wi, hWi⟩ : ∃ Wi, Wi = Ws[k]'(by omega) := ⟨_, rfl⟩
  rw [← hx'] at hx
  rw [← hFi] at hF
  rw [← hWi] at hW
  obtain ⟨h7, h8⟩ := h5 k x Fi Wi hx hF hW
  have inF : ∀ (j : Nat) Fj, Fs[j]? = some Fj → ∀ b ∈ Fj, b ∈ p :: Fs.flatten := fun j Fj hj b hb => by
    simp only [List.mem_cons, List.mem_flatten]
    exact .inr ⟨Fj, List.mem_of_getElem? hj, hb⟩
  have inW : ∀ b ∈ Ws.flatten, ∃ (j : Nat) (Wj Fj : List Nat), Ws[j]? = some Wj ∧ Fs[j]? = some Fj ∧ b ∈ Wj ∧ b ∈ Fj ∧ b ≠ p := fun b hb => by
    simp only [List.mem_flatten] at hb
    obtain ⟨Wj, hWj, hb⟩ := hb
    obtain ⟨j, hj⟩ := List.getElem?_of_mem hWj
    have hjl : j < 12 := by have := (List.getElem?_eq_some_iff.1 hj).1; omega
    obtain ⟨h9, h10⟩ := h5 j _ _ Wj (List.getElem?_eq_getElem (by omega)) (List.getElem?_eq_getElem (by omega)) hj
    exact ⟨j, Wj, _, hj, List.getElem?_eq_getElem (by omega), hb, h9.sub b hb, by rintro rfl; exact h10 (h9.sub _ hb)⟩
  refine ⟨_, T, x.1, x.2.1, x.2.2, Fi, Wi, h1, by simp [hx], by simpa using h2, h7, h8, inF k Fi hF, by simp, ?_, fun b hb => by simp only [List.mem_flatten]; exact ⟨Wi, List.mem_of_getElem? hW, hb⟩, ?_⟩
  · intro b hb
    obtain ⟨j, Wj, Fj, _, hFj, _, hb', _⟩ := inW b hb
    exact inF j Fj hFj b hb'
  intro w' a' l' c' ms' Fi' Wi' hp' hL' hl4 hm hFi' hWi'
  have hpFi' : p ∉ Fi' := fun hh => by
    rcases hFi' p hh with h | h
    · exact h8 h
    · exact h (by simp)
  refine ⟨p :: (Fs.set k Fi').flatten, (Ws.set k Wi').flatten, ⟨ls.set k (a', l', c'), Fs.set k Fi', Ws.set k Wi', T, ?_, by simpa using h2, by simpa using h3, by simpa using h3', h4.put ⟨by omega, by omega⟩ hl4, fun i y Fj Wj hy hj hwj => ?_, fun i j Fa Fb hij hi hj => ?_, rfl, rfl⟩, fun b hb => ?_, fun b hb => ?_, fun b hb => ?_⟩
  · rw [hp', List.map_set]; simp
  · rw [List.getElem?_set] at hy hj hwj
    by_cases hik : k = i
    · subst hik
      rw [if_pos rfl, if_pos (by omega)] at hy hj hwj
      obtain rfl := Option.some.inj hy
      obtain rfl := Option.some.inj hj
      obtain rfl := Option.some.inj hwj
      exact ⟨by simpa [qput] using hL', hpFi'⟩
    · rw [if_neg hik] at hy hj hwj
      obtain ⟨h9, h10⟩ := h5 i y Fj Wj hy hj hwj
      refine ⟨?_, h10⟩
      have e : qput Q k ms' (i : Int) = Q (i : Int) := by unfold qput; rw [if_neg (by omega)]
      rw [e]
      exact h9.keep (hm.at h9.lt fun b hb hh => by
        simp only [List.mem_cons] at hh
        rcases hh with rfl | hh
        · exact h10 hb
        · exact h6 k i Fi Fj hik hF hj b hh hb)
  · rw [List.getElem?_set] at hi hj
    have new : ∀ (m : Nat) Fm, m ≠ k → Fs[m]? = some Fm → ∀ b ∈ Fi', b ∉ Fm := fun m Fm hmk hm' b hb hbm => by
      rcases hFi' b hb with h | h
      · exact h6 k m Fi Fm (Ne.symm hmk) hF hm' b h hbm
      · exact h (inF m Fm hm' b hbm)
    by_cases hik : k = i <;> by_cases hjk : k = j
    · omega
    · rw [if_pos hik, if_pos (by omega)] at hi
      rw [if_neg hjk] at hj
      obtain rfl := Option.some.inj hi
      exact new j Fb (Ne.symm hjk) hj
    · rw [if_pos hjk, if_pos (by omega)] at hj
      rw [if_neg hik] at hi
      obtain rfl := Option.some.inj hj
      exact fun b hb hb' => new i Fa (Ne.symm hik) hi b hb' hb
    · rw [if_neg hik] at hi; rw [if_neg hjk] at hj
      exact h6 i j Fa Fb hij hi hj
  · simp only [List.mem_cons, List.mem_flatten] at hb
    rcases hb with rfl | ⟨Fj, hj, hb⟩
    · exact .inl (by simp)
    · obtain ⟨i, hi⟩ := List.getElem?_of_mem hj
      rw [List.getElem?_set] at hi
      by_cases hik : k = i
      · rw [if_pos hik, if_pos (by omega)] at hi
        obtain rfl := Option.some.inj hi
        exact .inr hb
      · rw [if_neg hik] at hi
        exact .inl (inF i Fj hi b hb)
  · obtain ⟨j, Wj, Fj, hWj, hFj, hbW, hbF, hbp⟩ := inW b hb
    by_cases hjk : k = j
    · subst hjk
      rw [hW] at hWj
      obtain rfl := Option.some.inj hWj
      obtain ⟨h9, h10⟩ := hWi' b hbW
      refine ⟨h9, ?_⟩
      simp only [List.mem_flatten]
      exact ⟨Wi', List.mem_of_getElem? (i := k) (by rw [List.getElem?_set, if_pos rfl, if_pos (by omega)]), h10⟩
    · refine ⟨hm.keep b (hlt b (inF j Fj hFj b hbF)) fun hh => ?_, ?_⟩
      · simp only [List.mem_cons] at hh
        rcases hh with rfl | hh
        · exact hbp rfl
        · exact h6 k j Fi Fj hjk hF hFj b hh hbF
      · simp only [List.mem_flatten]
        exact ⟨Wj, List.mem_of_getElem? (i := j) (by rw [List.getElem?_set, if_neg hjk]; exact hWj), hbW⟩
  · simp only [List.mem_flatten]
    exact ⟨Wi', List.mem_of_getElem? (i := k) (by rw [List.getElem?_set, if_pos rfl, if_pos (by omega)]), hb⟩

theorem ipc_new (w : World) {K : Value → World → Prop} (h : ∀ (p : Nat) (F W : List Nat) (w' : World), IpcP w' p (fun _ => []) F W → Mod [] w w' → Beyond w.heap.size F → K (.pointer (some ⟨p, 0, none⟩)) w') : CallsR Tryz.prog F_exoipc_New #[] w K := by
  apply R_exoipc_New_ok
  simp only [R_exoipc_New, newK_eq]
  refine h _ [w.heap.size] [] _ ⟨List.replicate 12 (none, 0, 0), List.replicate 12 [], List.replicate 12 [], Ty_exoipc_Ipc, alloc_new w _, by simp, by simp, by simp, ⟨fun _ _ => rfl, fun _ => by simp⟩, fun i x Fi Wi hx hF hW => ?_, fun i j Fa Fb hij hi hj b hb => ?_, by simp, by simp⟩ ((Mod.refl _ _).alloc _) (by simp [Beyond])
  · rw [List.getElem?_replicate] at hx hF hW
    split at hx
    · rename_i hi
      rw [if_pos hi] at hF hW
      obtain rfl := Option.some.inj hx
      obtain rfl := Option.some.inj hF
      obtain rfl := Option.some.inj hW
      exact ⟨LineP.nil _, by simp⟩
    · cases hx
  · rw [List.getElem?_replicate] at hi
    split at hi
    · obtain rfl := Option.some.inj hi; simp at hb
    · cases hi

theorem is_run (n : Int) {w : World} {K : Value → World → Prop} (h : K (.bool (decide (in12 n))) w) : CallsR Tryz.prog F_exoipc_is #[.int .i64 n] w K := by
  apply R_exoipc_is_ok
  simp only [R_exoipc_is, spl_decide]
  refine ⟨fun h1 => ?_, fun h1 => ?_⟩
  · rw [show decide (n < 12) = decide (in12 n) from decide_eq_decide.2 (by unfold in12; omega)]; exact h
  · rw [show false = decide (in12 n) from (decide_eq_false (by unfold in12; omega)).symm]; exact h

theorem ipc_send {w : World} {p : Nat} {Q : Qs} {F W : List Nat} (h : IpcP w p Q F W) (f t : Int) {wa : Option Addr} {wl wc : Nat} {ws : List Int} {H : List Nat} (hw : Rd w wa wl 1 (u64s ws) H) {K : Value → World → Prop}
    (hK : ∀ w' F' W', IpcP w' p (sendQ Q f t ws) F' W' → Mod F w w' → Own w F F' → Keep W W' w w' → K (.int .i64 (sendE Q f t ws.length)) w') :
    CallsR Tryz.prog F_exoipc_Ipc_Send #[.pointer (some ⟨p, 0, none⟩), .int .i64 f, .int .i64 t, .slice wa wl wc] w K := by
  apply R_exoipc_Ipc_Send_ok
  simp only [R_exoipc_Ipc_Send, Option.isNone_some, spl_false, nilK_some, addr_add, Nat.zero_add, drK_eq, spl_decide]
  have hwl := hw.u64
  have err : ∀ e : Int, e ≠ 0 → sendE Q f t ws.length = e → K (.int .i64 e) w := fun e he hh => by
    have := hK w F W (by unfold sendQ; rw [hh, if_neg he]; exact h) (Mod.refl _ _) (Own.refl _ _) (Keep.refl _ _)
    rwa [hh] at this
  refine is_run f ⟨_, rfl, ?_⟩
  rw [spl_decide]
  refine ⟨fun hf => is_run t ⟨_, rfl, ?_⟩, fun hf => err 101 (by decide) (if_pos (.inl hf))⟩
  rw [spl_decide]
  refine ⟨fun ht => ⟨fun hgt => err 101 (by decide) (if_pos (.inr (.inr (by omega)))), fun hle => ⟨ht, ?_⟩⟩, fun ht => err 101 (by decide) (if_pos (.inr (.inl ht)))⟩
  have hgood : ¬ (¬ in12 f ∨ ¬ in12 t ∨ 8 < ws.length) := by
    rintro (h | h | h)
    · exact h hf
    · exact h ht
    · omega
  obtain ⟨k, rfl⟩ := nat_of ht.1
  have hk12 : k < 12 := by have := ht.2; omega
  obtain ⟨arr, T, a, l, c, Fi, Wi, hp, hk, hsz, hL, hpFi, hFiF, hpF, hWF, hWiW, hset⟩ := ipc_line h hk12
  have hlen := hL.len
  have hFlt := h.lt
  rw [Int.toNat_natCast]
  refine ⟨a, l, c, by rw [cell_get hp]; exact hk, fun hge => err 105 (by decide) (by unfold sendE; rw [if_neg hgood, if_pos (by omega)]), fun hlt => ?_⟩
  have hE : sendE Q f k ws.length = 0 := by unfold sendE; rw [if_neg hgood, if_neg (by omega)]
  refine ⟨[], ht, ?_⟩
  refine clone_u64 (hw.keep (w' := w.drew) fun _ _ => rfl) (by omega) fun A C w1 H1 hs1 hH1 hm1 => ⟨_, _, _, rfl, ?_⟩
  have hm01 : Mod [] w w1 := (Mod.refl _ _).drew.trans' hm1
  have hH1' : ∀ b ∈ H1, b ∉ F := fun b hb hh => by have := hH1 b hb; have := hFlt b hh; rw [drew_heap] at *; omega
  have hsl1 := hs1.u64
  refine line_push (hm01.get hp (by simp)) hk (hL.keep (hm01.at0 hL.lt)) hpFi (by omega) hs1.rd hs1.le (by omega) (fun b hb hh => hH1' b hb (hFiF b hh)) (fun hh => hH1' p hh hpF) fun w2 a' c' F2 hp2 hL2 hm2 hF2 hkW2 => ⟨rfl, ?_⟩
  have hm02 : Mod (p :: Fi) w w2 := hm01.of0.trans' hm2
  have hF2' : ∀ b ∈ F2, b ∈ Fi ∨ (b ∉ F ∧ w.heap.size ≤ b) := fun b hb => by
    rcases hF2 b hb with h | h | h
    · exact .inl h
    · have := hH1 b h; rw [drew_heap] at this; exact .inr ⟨hH1' b h, this⟩
    · have := hm01.size
      exact .inr ⟨fun hh => by have := hFlt b hh; omega, by omega⟩
  obtain ⟨F3, W3, hI3, hF3, hkW3, -⟩ := hset w2 a' (l + 1) c' _ F2 _ hp2 hL2 (by rw [List.length_append, List.length_singleton]; omega) hm02 (fun b hb => (hF2' b hb).imp id (·.1)) (fun b hb => ⟨(hkW2 b hb).trans (hm01.keep b (hFlt b (hWF b (hWiW b hb))) (by simp)), by simp [hb]⟩)
  have := hK w2 F3 W3 (by unfold sendQ; rw [hE, if_pos rfl]; exact hI3) (hm02.mono fun b hb => by
    simp only [List.mem_cons] at hb
    rcases hb with rfl | hb
    · exact hpF
    · exact hFiF b hb) (fun b hb => by
    rcases hF3 b hb with h | h
    · exact .inl h
    · exact (hF2' b h).imp (hFiF b) (·.2)) hkW3
  rwa [hE] at this

theorem ipc_recv {w : World} {p : Nat} {Q : Qs} {F W : List Nat} (h : IpcP w p Q F W) (e : Int) {K : Value → World → Prop} (h0 : ∀ w', Q e = [] → Mod [] w w' → K (.tuple #[.int .i64 0, .slice none 0 0, .bool false]) w')
    (hK : ∀ x ms w' F' W' wa wl wc H, Q e = x :: ms → IpcP w' p (qput Q e ms) F' W' → Mod F w w' → Own w F F' → Keep W W' w w' → Rd w' wa wl 1 (u64s x.2) H → (∀ b ∈ H, b ∈ W') → wl ≤ wc → x.2.length ≤ 8 → K (.tuple #[.int .i64 x.1, .slice wa wl wc, .bool true]) w') :
    CallsR Tryz.prog F_exoipc_Ipc_Recv #[.pointer (some ⟨p, 0, none⟩), .int .i64 e] w K := by
  apply R_exoipc_Ipc_Recv_ok
  simp only [R_exoipc_Ipc_Recv, Option.isNone_some, spl_false, nilK_some, addr_add, Nat.zero_add, drK_eq, newK_eq]
  have hok := h.ok
  refine is_run e ⟨_, rfl, ?_⟩
  rw [spl_decide]
  refine ⟨fun he => ⟨he, ?_⟩, fun he => h0 w (hok.1 e he) (Mod.refl _ _)⟩
  obtain ⟨k, rfl⟩ := nat_of he.1
  have hk12 : k < 12 := by have := he.2; omega
  obtain ⟨arr, T, a, l, c, Fi, Wi, hp, hk, hsz, hL, hpFi, hFiF, hpF, hWF, hWiW, hset⟩ := ipc_line h hk12
  have hlen := hL.len
  have hFlt := h.lt
  have h4 := hok.2 (k : Int)
  rw [Int.toNat_natCast]
  have sub : ∀ b ∈ p :: Fi, b ∈ F := fun b hb => by
    simp only [List.mem_cons] at hb
    rcases hb with rfl | hb
    · exact hpF
    · exact hFiF b hb
  refine line_pop hp hk hL hpFi (by omega) (fun w1 hnil hm1 => ⟨_, _, _, _, _, rfl, ?_⟩) (fun x ms' w1 a' c' F1 wa wl wc H hx hp1 hL1 hm1 hF1 hrd hHF hwc hx8 hkW1 => ⟨_, _, _, _, _, rfl, ?_⟩)
  · refine (Sep.nil hm1).stK rfl fun w2 s2 m2 => ?_
    have hb : w2.drew.heap[w1.heap.size]? = some _ := s2.nth 0 rfl
    exact ⟨0, by rw [cell_get hb]; rfl, none, 0, 0, by rw [cell_get hb]; rfl, h0 _ hnil s2.mod.drew⟩
  · refine (Sep.nil (Mod.refl [] w1)).stK rfl fun w2 s2 m2 => ?_
    have hb : w2.drew.heap[w1.heap.size]? = some _ := s2.nth 0 rfl
    refine ⟨x.1, by rw [cell_get hb]; rfl, wa, wl, wc, by rw [cell_get hb]; rfl, ?_⟩
    have hm2 : Mod [p] w w2.drew := hm1.trans' (m2.of0.drew)
    have m2d : Mod [] w1 w2.drew := m2.drew
    have hF1' : ∀ b ∈ F1, b ∈ Fi ∨ (b ∉ F ∧ w.heap.size ≤ b) := fun b hb => (hF1 b hb).imp id fun h => ⟨fun hh => by have := hFlt b hh; omega, h⟩
    obtain ⟨F3, W3, hI3, hF3, hkW3, hW3⟩ := hset w2.drew a' (l - 1) c' ms' F1 Wi (m2d.get hp1 (by simp)) (hL1.keep (m2d.at0 hL1.lt)) (by have := congrArg List.length hx; simp at this; omega) (hm2.mono (by simp)) (fun b hb => (hF1' b hb).imp id (·.1)) (fun b hb => ⟨(m2d.keep b (hL1.lt b (hL1.sub b hb)) (by simp)).trans (hkW1 b hb), hb⟩)
    exact hK x ms' w2.drew F3 W3 wa wl wc H hx hI3 ((hm2.mono (by simp)).mono sub) (fun b hb => by
      rcases hF3 b hb with h | h
      · exact .inl h
      · exact (hF1' b h).imp (hFiF b) (·.2)) hkW3 (hrd.mod0 m2d) (fun b hb => hW3 b (hHF b hb)) hwc hx8

theorem ipc_from {w : World} {p : Nat} {Q : Qs} {F W : List Nat} (h : IpcP w p Q F W) (e : Int) {K : Value → World → Prop} (hK : ∀ A N C G w', SlB w' A N C 1 (i64s ((Q e).map (·.1))) G → Beyond w.heap.size G → Mod [] w w' → K (.slice A N C) w') :
    CallsR Tryz.prog F_exoipc_Ipc_From #[.pointer (some ⟨p, 0, none⟩), .int .i64 e] w K := by
  apply R_exoipc_Ipc_From_ok
  simp only [R_exoipc_Ipc_From, Option.isNone_some, spl_false, nilK_some, addr_add, Nat.zero_add, newK_eq]
  have hok := h.ok
  refine is_run e ⟨_, rfl, ?_⟩
  rw [spl_decide]
  refine ⟨fun he => ⟨he, ?_⟩, fun he => hK none 0 0 [] w (by rw [hok.1 e he]; exact SlB.nil w 1) (by simp [Beyond]) (Mod.refl _ _)⟩
  obtain ⟨k, rfl⟩ := nat_of he.1
  have hk12 : k < 12 := by have := he.2; omega
  obtain ⟨arr, T, a, l, c, Fi, Wi, hp, hk, hsz, hL, hpFi, hFiF, hpF, -⟩ := ipc_line h hk12
  have hlen := hL.len
  have h4 := hok.2 (k : Int)
  obtain ⟨ph, G, hs, hms, hW, hGW, rfl⟩ := hL
  rw [Int.toNat_natCast]
  refine ⟨a, l, c, by rw [cell_get hp]; exact hk, ?_⟩
  refine ⟨fun n A N C t w' => ∃ (j : Nat) (G' : List Nat), t = j ∧ j ≤ l ∧ n = l - j ∧ SlB w' A N C 1 (i64s (((Q (k : Int)).take j).map (·.1))) G' ∧ Beyond w.heap.size G' ∧ Mod [] w w', ⟨l, 0, [], rfl, by omega, rfl, SlB.nil _ 1, by simp [Beyond], Mod.refl _ _⟩, ?_⟩
  rintro n A N C t - w2 ⟨j, G', rfl, hj, rfl, hs2, hG2, hm2⟩
  rw [spl_decide]
  refine ⟨fun hlt => ?_, fun hge => ?_⟩
  · obtain ⟨ad, m, rfl, hm, c0, c1⟩ := row_at (hs.keep (hm2.at0 hs.lt)) (i := j) (by omega)
    have hl2 := hs2.i64
    rw [List.length_map, List.length_take] at hl2
    obtain ⟨x, hx⟩ : ∃ x, (Q (k : Int))[j]? = some x := ⟨_, List.getElem?_eq_getElem (by omega)⟩
    have hmx := (hms.2 j m x hm hx).1
    rw [nilK_some, Int.toNat_natCast]
    refine ⟨⟨by omega, by omega⟩, m.1, m.2.1, m.2.2.1, m.2.2.2, ⟨c0, c1⟩, ?_⟩
    refine (Sep.nil hm2).stK rfl fun w3 s3 m3 => ?_
    have hb : w3.heap[w2.heap.size]? = some _ := s3.nth 0 rfl
    refine ⟨m.1, by rw [cell_get hb]; rfl, ?_⟩
    refine push_K slT_int (by decide) (hs2.keep (m3.at0 hs2.lt)) hG2 (hm2.trans' m3) (us := [.int .i64 m.1]) rfl (by simp [isCell]) (by omega) (by omega) fun A' C' w5 G' hs' hG' hm' _ _ => ⟨_, _, _, rfl, l - (j + 1), by omega, j + 1, G', by rw [w64 (by omega) (by omega)]; omega, by omega, rfl, ?_, hG', hm'⟩
    rw [List.take_add_one, hx, List.map_append, i64s_append, hmx] at *
    exact hs'
  · have hjl : j = l := by omega
    subst hjl
    rw [List.take_of_length_le (by omega)] at hs2
    exact hK A N C G' w2 hs2 hG2 hm2

theorem ipc_waiting {w : World} {p : Nat} {Q : Qs} {F W : List Nat} (h : IpcP w p Q F W) (e : Int) {K : Value → World → Prop} (hK : ∀ w', Mod [] w w' → K (.int .i64 ((Q e).length : Int)) w') :
    CallsR Tryz.prog F_exoipc_Ipc_Waiting #[.pointer (some ⟨p, 0, none⟩), .int .i64 e] w K := by
  apply R_exoipc_Ipc_Waiting_ok
  refine ipc_from h e fun A N C G w' hs _ hm => ⟨_, _, _, rfl, ?_⟩
  have := hs.i64
  rw [List.length_map] at this
  rw [← this]
  exact hK w' hm

end Go.Proofs.V11
