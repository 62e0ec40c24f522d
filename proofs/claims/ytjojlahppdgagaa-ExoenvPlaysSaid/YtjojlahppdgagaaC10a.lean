/-
  Layer 10: contracts of the program's environments.
-/
import Derived.Test.YtjojlahppdgagaaU64
import Derived.Test.YtjojlahppdgagaaDen15
import Derived.Test.YtjojlahppdgagaaC10p
import Derived.Test.YtjojlahppdgagaaRes
set_option linter.unusedSimpArgs false
namespace Go.Proofs
open Go Go.Den

theorem clone_i64 {w : World} {a : Option Addr} {l c : Nat} {xs : List Int} {F : List Nat} (hs : Rd w a l 1 (i64s xs) F) (hb : l ≤ 1000000) {K : Value → World → Prop}
    (h : ∀ A C w' H, SlB w' A l C 1 (i64s xs) H → Beyond w.heap.size H → Mod [] w w' → K (.slice A l C) w') : CallsR Try.prog F_slices_Clone_int_int #[.slice a l c] w K := by
  apply R_slices_Clone_int_int_ok
  refine clone_body slT_int (by decide) hs (i64s_cell _) (by omega) (by omega) h (fun ha hl => ?_)
  subst hl
  have := h none 0 w [] (by have := hs.i64; rw [List.eq_nil_of_length_eq_zero this]; exact SlB.nil w 1) (by simp [Beyond]) (Mod.refl _ _)
  exact this

theorem mul_1 : ∀ n : Fin 65, (IntKind.u64.wrap ((IntKind.u64.wrap ((IntKind.u64.wrap ((Int.fdiv 1 (2 ^ (min ((32 : Int) : Int).toNat IntKind.u64.bits))) * (Int.fdiv (n.val : Int) (2 ^ (min ((32 : Int) : Int).toNat IntKind.u64.bits))))) + (Int.fdiv (IntKind.u64.wrap ((IntKind.u64.wrap ((Int.fdiv 1 (2 ^ (min ((32 : Int) : Int).toNat IntKind.u64.bits))) * (ibits .and .u64 (n.val : Int) (4294967295 : Int)))) + (Int.fdiv (IntKind.u64.wrap ((ibits .and .u64 1 (4294967295 : Int)) * (ibits .and .u64 (n.val : Int) (4294967295 : Int)))) (2 ^ (min ((32 : Int) : Int).toNat IntKind.u64.bits))))) (2 ^ (min ((32 : Int) : Int).toNat IntKind.u64.bits))))) + (Int.fdiv (IntKind.u64.wrap ((ibits .and .u64 (IntKind.u64.wrap ((IntKind.u64.wrap ((Int.fdiv 1 (2 ^ (min ((32 : Int) : Int).toNat IntKind.u64.bits))) * (ibits .and .u64 (n.val : Int) (4294967295 : Int)))) + (Int.fdiv (IntKind.u64.wrap ((ibits .and .u64 1 (4294967295 : Int)) * (ibits .and .u64 (n.val : Int) (4294967295 : Int)))) (2 ^ (min ((32 : Int) : Int).toNat IntKind.u64.bits))))) (4294967295 : Int)) + (IntKind.u64.wrap ((ibits .and .u64 1 (4294967295 : Int)) * (Int.fdiv (n.val : Int) (2 ^ (min ((32 : Int) : Int).toNat IntKind.u64.bits))))))) (2 ^ (min ((32 : Int) : Int).toNat IntKind.u64.bits))))) = 0 ∧ IntKind.u64.wrap (1 * (n.val : Int)) = (n.val : Int) ∧ IntKind.u64.wrap (n.val : Int) = (n.val : Int) ∧ IntKind.i64.wrap (n.val : Int) = (n.val : Int) := by
  decide +kernel

theorem repeat_run {w : World} {b n : Nat} {T : TypeId} (hb : w.heap[b]? = some (.cells #[.int .i64 (-1)] T (0, 0))) (h1 : 1 ≤ n) (h64 : n ≤ 64) {K : Value → World → Prop}
    (hK : ∀ A C w' H, SlB w' A n C 1 (i64s (List.replicate n (-1))) H → Beyond w.heap.size H → Mod [] w w' → K (.slice A n C) w') : CallsR Try.prog F_slices_Repeat_int_int #[.slice (some ⟨b, 0, none⟩) 1 1, .int .i64 n] w K := by
  apply R_slices_Repeat_int_int_ok
  simp only [R_slices_Repeat_int_int, drK_eq]
  obtain ⟨e1, e2, e3, e4⟩ := mul_1 ⟨n, by omega⟩
  simp only at e1 e2 e3 e4
  refine spl_f (by simp) ?_
  rw [e3, show IntKind.u64.wrap ((1 : Nat) : Int) = 1 by decide]
  apply R_math_bits_Mul_ok
  simp only [R_math_bits_Mul]
  apply R_math_bits_Mul64_ok
  simp only [R_math_bits_Mul64]
  refine ⟨by decide, by decide, by decide, by decide, by decide, _, _, rfl, _, _, rfl, ?_⟩
  rw [e1, e2, e4]
  clear e1 e2 e3 e4
  refine spl_f (by decide) (spl_f (by simp; omega) ?_)
  have hx0 : SlB w (some ⟨b, 0, none⟩) 1 1 1 (i64s [-1]) [b] := .inr ⟨b, 0, _, T, rfl, rfl, hb, by omega, by simp, rfl, fun i hi => by
    have : i = 0 := by simp [i64s] at hi; omega
    subst this; rfl⟩
  refine makeSlice_K slT_int (l := n) (c := n) (Nat.le_refl _) (by omega) (by omega) fun w1 hs1 m1 => ⟨_, _, _, rfl, ?_⟩
  generalize hq : w.heap.size = q at hs1 ⊢
  have hbq : b < q := by have := lt_of_get hb; omega
  refine copy_K slT_int hs1 (hx0.keep (m1.at0 hx0.lt)) (i64s_cell _) fun w2 hs2 m2 => ⟨_, rfl, ?_⟩
  have e5 : Nat.min 1 n = 1 := Nat.min_eq_left h1
  rw [e5] at hs2 ⊢
  have m02 : Mod [] w w2 := m1.trans m2 fun x hx hlt => by simp only [List.mem_singleton] at hx; omega
  have ez : (i64s [-1]).take (1 * 1) ++ (zrow (Value.int .i64 0) (n * 1)).drop (1 * 1) = i64s (List.replicate 1 (-1) ++ List.replicate (n - 1) 0) := by
    have : zrow (Value.int .i64 0) (n * 1) = i64s (List.replicate n 0) := by
      apply List.ext_getElem
      · simp [zrow, i64s, Value.cells]
      · intro i h1 h2
        simp [zrow, i64s, Value.cells, Nat.mod_one]
    rw [this, i64s_drop, i64s_take, ← i64s_append]
    simp
  rw [ez] at hs2
  refine ⟨fun m i w' => ∃ k : Nat, i = k ∧ 1 ≤ k ∧ k ≤ n ∧ m = n - k ∧ SlB w' (some ⟨q, 0, none⟩) n n 1 (i64s (List.replicate k (-1) ++ List.replicate (n - k) 0)) [q] ∧ Mod [] w w', ⟨n - 1, 1, rfl, by omega, by omega, rfl, hs2, m02⟩, ?_⟩
  clear hs1 hs2 m1 m2 m02 ez
  rintro m i - w3 ⟨k, rfl, hk1, hkn, rfl, hs3, hm3⟩
  rw [spl_decide]
  refine ⟨fun hlt => ⟨[], ?_⟩, fun hge => ?_⟩
  · have hs3' : SlB w3.drew (some ⟨q, 0, none⟩) n n 1 (i64s (List.replicate k (-1) ++ List.replicate (n - k) 0)) [q] := hs3
    have hm3' := hm3.drew
    generalize w3.drew = w4 at hs3' hm3' ⊢
    refine slK_of hs3' (L := k) (H := n) (M := n) (.inl rfl) (.inr ⟨rfl, rfl⟩) (.inr ⟨rfl, rfl⟩) (by omega) (by omega) (by omega) (Nat.le_refl _) fun a5 ha5 hs5 => ?_
    refine slK_of hs3' (L := 0) (H := k) (M := n) (.inr ⟨rfl, rfl⟩) (.inl rfl) (.inr ⟨rfl, rfl⟩) (by omega) (by omega) (by omega) (Nat.le_refl _) fun a6 ha6 hs6 => ?_
    have e6 : ((i64s (List.replicate k (-1) ++ List.replicate (n - k) 0)).drop (0 * 1)).take ((k - 0) * 1) = i64s (List.replicate k (-1)) := by
      simp [i64s_take]
    rw [e6] at hs6
    obtain ⟨arr, T', hbk, hcap, -⟩ := hs3'.block
    have ea5 : a5 = some ⟨q, 0 + k, none⟩ := by
      rw [ha5]
      unfold slA
      rw [if_neg (by omega)]
      simp [Addr.add_lit]
    subst ea5
    refine ⟨_, _, copy_at slT_int hbk (o := 0 + k) (l := n - k) (c := n - k) (by omega) hs6 (i64s_cell _) _, _, rfl, ?_⟩
    have emin : Nat.min (k - 0) (n - k) = min k (n - k) := rfl
    rw [emin]
    have hlt3 : k < n := by omega
    obtain ⟨d, hd⟩ : ∃ d, d = min k (n - k) := ⟨_, rfl⟩
    have hd1 : 1 ≤ d := by omega
    have hdk : d ≤ k := by omega
    have hdn : k + d ≤ n := by omega
    rw [← hd, w64 (by omega) (by omega)]
    have et : (i64s (List.replicate k (-1))).take (d * 1) = i64s (List.replicate d (-1)) := by
      rw [Nat.mul_one, i64s_take, List.take_replicate, Nat.min_eq_left hdk]
    rw [et]
    have hsp := hs3'.splice hbk (j := k) (us := i64s (List.replicate d (-1))) (by simp [i64s]; omega)
    have ev : (i64s (List.replicate k (-1) ++ List.replicate (n - k) 0)).take k ++ i64s (List.replicate d (-1)) ++ (i64s (List.replicate k (-1) ++ List.replicate (n - k) 0)).drop (k + (i64s (List.replicate d (-1))).length) = i64s (List.replicate (k + d) (-1) ++ List.replicate (n - (k + d)) 0) := by
      rw [i64s_take, i64s_drop, ← i64s_append, ← i64s_append]
      congr 1
      rw [i64s_length, List.length_replicate, List.take_left' (by simp), show k + d = (List.replicate k (-1 : Int)).length + d by simp, List.drop_append]
      simp [List.replicate_append_replicate, Nat.sub_sub, List.drop_replicate]
    rw [ev] at hsp
    refine ⟨n - (k + d), by omega, k + d, by omega, by omega, hdn, rfl, hsp, hm3'.upd (.inr (by omega)) _⟩
  · have hkn' : k = n := by omega
    subst hkn'
    rw [Nat.sub_self, List.replicate_zero, List.append_nil] at hs3
    exact hK _ _ w3 [q] hs3 (by intro x hx; simp only [List.mem_singleton] at hx; omega) hm3

/-- What the environment at place 'i' holds. -/
def ob10 (s : S10) (i : Nat) : Option (Array Value) := if (i : Int) ∈ s.L then some #[.bool (upV s.U i).2, .int .u64 (upV s.U i).1] else none

/-- The program's environments at block 'p'. -/
def EP (w : World) (p : Nat) (s : S10) (F : List Nat) : Prop :=
  W10 s ∧ 1 ≤ s.V.length ∧ s.V.length ≤ 64 ∧ ∃ ps a l c G H, PT w p ps (ob10 s) [.slice a l c] H ∧ ps.length = 12 ∧ SlB w a l c 1 (i64s s.V) G ∧ (∀ b ∈ G, b ∉ H) ∧ F = H ++ G
theorem EP.lt {w : World} {p : Nat} {s : S10} {F : List Nat} (h : EP w p s F) : ∀ b ∈ F, b < w.heap.size := by
  obtain ⟨-, -, -, ps, a, l, c, G, H, h1, h2, h3, h4, rfl⟩ := h
  intro b hb
  exact (List.mem_append.1 hb).elim (h1.lt b) (h3.lt b)
theorem EP.keep {w w' : World} {p : Nat} {s : S10} {F : List Nat} (h : EP w p s F) (hk : ∀ b ∈ F, w'.heap[b]? = w.heap[b]?) : EP w' p s F := by
  obtain ⟨q1, q2, q3, ps, a, l, c, G, H, h1, h2, h3, h4, rfl⟩ := h
  exact ⟨q1, q2, q3, ps, a, l, c, G, H, h1.keep fun b hb => hk b (by simp [hb]), h2, h3.keep fun b hb => hk b (by simp [hb]), h4, rfl⟩
def ep (p : Nat) (s : S10) (F : List Nat) : Part := ⟨F, fun w => EP w p s F, fun h k => h.keep k, fun h => h.lt⟩

section
variable {w : World} {p : Nat} {s : S10} {F : List Nat}

theorem enew_run (w : World) (n : Int) {K : Value → World → Prop} (h0 : n < 1 ∨ 64 < n → K (.pointer none) w) (h : ∀ (m p : Nat) (F : List Nat) (w' : World), n = m → 1 ≤ m → m ≤ 64 → EP w' p ⟨[], List.replicate m (-1), []⟩ F → Mod [] w w' → Beyond w.heap.size F → K (.pointer (some ⟨p, 0, none⟩)) w') : CallsR Try.prog F_exoenv_New #[.int .i64 n] w K := by
  apply R_exoenv_New_ok
  simp only [R_exoenv_New, newK_eq, spl_decide]
  refine ⟨fun hlt => h0 (.inl hlt), fun hge => ⟨fun hgt => h0 (.inr hgt), fun hle => ?_⟩⟩
  obtain ⟨m, rfl⟩ := nat_of (by omega : 0 ≤ n)
  have hm0 : Mod [] w (w.alloc (.cells #[.int .i64 (-1)] 3)) := (Mod.refl _ _).alloc _
  refine repeat_run (alloc_new w _) (by omega) (by omega) fun A C w1 H hs1 hH m1 => ⟨_, _, _, rfl, ?_⟩
  have m01 := hm0.trans' m1
  have hsz := m01.size
  rw [alloc_size] at hH
  have hm2 : Mod [] w1 (w1.alloc (.cells #[.pointer none, .pointer none, .pointer none, .pointer none, .pointer none, .pointer none, .pointer none, .pointer none, .pointer none, .pointer none, .pointer none, .pointer none, .slice A m C] 54)) := (Mod.refl _ _).alloc _
  have hHlt := hs1.lt
  refine h m _ ([w1.heap.size] ++ H) _ rfl (by omega) (by omega) ⟨W10.new m, by simp; omega, by simp; omega, List.replicate 12 none, A, m, C, H, [w1.heap.size], ⟨⟨_, by rw [alloc_new w1 _]; rfl⟩, fun i q hi => ?_, fun i hi => ?_, fun i j q hi hj => ?_, fun i hi => ?_, by simp⟩, by simp, hs1.alloc _, fun b hb hh => by have := hHlt b hb; simp only [List.mem_singleton] at hh; omega, rfl⟩ (m01.trans' hm2) ?_
  · rw [List.getElem?_replicate] at hi; split at hi <;> cases hi
  · simp [ob10]
  · rw [List.getElem?_replicate] at hi; split at hi <;> cases hi
  · rw [List.getElem?_replicate] at hi; split at hi <;> cases hi
  · intro b hb
    rcases List.mem_append.1 hb with hb | hb
    · simp only [List.mem_singleton] at hb; omega
    · have := hH b hb; omega

theorem at_run {ps : List (Option Nat)} {rest : List Value} {H : List Nat} (h : PT w p ps (ob10 s) rest H) (hl : ps.length = 12) (hw : W10 s) (e : Int) {K : Value → World → Prop} (h0 : e ∉ s.L → K (.pointer none) w)
    (h1 : ∀ k q : Nat, e = k → k < 12 → e ∈ s.L → ps[k]? = some (some q) → K (.pointer (some ⟨q, 0, none⟩)) w) : CallsR Try.prog F_exoenv_Envs_at #[.pointer (some ⟨p, 0, none⟩), .int .i64 e] w K := by
  apply R_exoenv_Envs_at_ok
  simp only [R_exoenv_Envs_at, Option.isNone_some, spl_false, spl_decide, nilK_some, addr_add, Nat.zero_add]
  refine ⟨fun hlt => h0 fun hm => ?_, fun hge => ⟨fun hlt => h0 fun hm => ?_, fun hlt => ⟨⟨by omega, by omega⟩, ?_⟩⟩⟩
  · have := hw.in_ e hm; unfold in12 at this; omega
  · have := hw.in_ e hm; unfold in12 at this; omega
  · obtain ⟨k, rfl⟩ := nat_of (by omega : 0 ≤ e)
    obtain ⟨o, ho, hc⟩ := h.cell (i := k) (by omega)
    rw [ptrTo_eq] at hc
    rw [Int.toNat_natCast]
    refine ⟨_, hc, ?_⟩
    cases o with
    | none =>
      refine h0 fun hm => ?_
      have := h.no k ho
      rw [ob10, if_pos hm] at this
      cases this
    | some q =>
      obtain ⟨arr, T, ha, hb⟩ := h.at_ k q ho
      refine h1 k q rfl (by omega) ?_ ho
      unfold ob10 at ha
      split at ha
      · rename_i hm; exact hm
      · cases ha

theorem is_run (h : EP w p s F) (e : Int) {K : Value → World → Prop} (hK : K (.bool (decide (e ∈ s.L))) w) : CallsR Try.prog F_exoenv_Envs_Is #[.pointer (some ⟨p, 0, none⟩), .int .i64 e] w K := by
  apply R_exoenv_Envs_Is_ok
  simp only [R_exoenv_Envs_Is]
  obtain ⟨q1, q2, q3, ps, a, l, c, G, H, h1, h2, h3, h4, rfl⟩ := h
  refine at_run h1 h2 q1 e (fun hn => ⟨_, rfl, ?_⟩) (fun k q _ _ hm _ => ⟨_, rfl, ?_⟩)
  · rw [decide_eq_false hn] at hK; exact hK
  · rw [decide_eq_true hm] at hK; exact hK

theorem create_run (h : EP w p s F) (e : Int) {K : Value → World → Prop} (hK : ∀ w' F', EP w' p (createS s e) F' → Mod F w w' → Own w F F' → K (.int .i64 (createE s e)) w') :
    CallsR Try.prog F_exoenv_Envs_Create #[.pointer (some ⟨p, 0, none⟩), .int .i64 e] w K := by
  apply R_exoenv_Envs_Create_ok
  simp only [R_exoenv_Envs_Create, Option.isNone_some, spl_false, spl_decide, nilK_some, addr_add, Nat.zero_add, newK_eq]
  have no : ∀ v : Int, v ≠ 0 → createE s e = v → K (.int .i64 v) w := fun v hv he => by
    have := hK w F (by unfold createS; rw [he, if_neg hv]; exact h) (Mod.refl _ _) (Own.refl _ _)
    rwa [he] at this
  have bad : ¬ in12 e → createE s e = 101 := fun hn => if_pos hn
  have hFlt := h.lt
  have h' := h
  obtain ⟨q1, q2, q3, ps, a, l, c, G, H, h1, h2, h3, h4, rfl⟩ := h
  refine ⟨fun hlt => no 101 (by decide) (bad fun hh => by unfold in12 at hh; omega), fun hge => ⟨fun hlt => no 101 (by decide) (bad fun hh => by unfold in12 at hh; omega), fun hlt => ⟨⟨by omega, by omega⟩, ?_⟩⟩⟩
  obtain ⟨k, rfl⟩ := nat_of (by omega : 0 ≤ e)
  have hin : in12 k := ⟨by omega, by omega⟩
  obtain ⟨o, ho, hc⟩ := h1.cell (i := k) (by omega)
  rw [ptrTo_eq] at hc
  rw [Int.toNat_natCast]
  refine ⟨_, hc, ?_⟩
  cases o with
  | some q =>
    refine spl_t rfl (no 105 (by decide) ?_)
    obtain ⟨arr, T, ha, hb⟩ := h1.at_ k q ho
    unfold ob10 at ha
    split at ha
    · rename_i hm
      unfold createE
      rw [if_neg (by simp [hin]), if_pos hm]
    · cases ha
  | none =>
    have hnm : (k : Int) ∉ s.L := fun hm => by
      have := h1.no k ho
      rw [ob10, if_pos hm] at this
      cases this
    have hE : createE s k = 0 := by unfold createE; rw [if_neg (by simp [hin]), if_neg hnm]
    refine spl_f rfl ⟨⟨by omega, by omega⟩, ?_⟩
    obtain ⟨T, hrow⟩ := h1.row
    have m1 : Mod [] w (w.alloc (.cells #[.bool false, .int .u64 0] 56)) := (Mod.refl _ _).alloc _
    have hq : (w.alloc (.cells #[.bool false, .int .u64 0] 56)).heap[w.heap.size]? = some _ := alloc_new w _
    have hqn : w.heap.size ∉ H ++ G := fun hh => by have := hFlt _ hh; omega
    generalize hqe : w.heap.size = q at hq hqn ⊢
    generalize w.alloc (.cells #[.bool false, .int .u64 0] 56) = w1 at m1 hq ⊢
    have hp1 := m1.get hrow (by simp)
    refine stK_of hp1 (by simp; omega) ?_
    simp only [splice_cons, splice_nil]
    rw [show Value.pointer (some ⟨q, 0, none⟩) = ptrTo (some q) from rfl, ptrs_set ps _ (by omega)]
    have hpq : p ≠ q := fun e => hqn (by simp [← e, h1.pmem])
    have hm2 : Mod (H ++ G) w (w1.upd p (.cells ((ps.set k (some q)).map ptrTo ++ [Value.slice a l c]).toArray T (0, 0))) := m1.of0.upd (.inl (by simp [h1.pmem])) _
    have kk : ∀ b ∈ H ++ G, b ≠ p → (w1.upd p (.cells ((ps.set k (some q)).map ptrTo ++ [Value.slice a l c]).toArray T (0, 0))).heap[b]? = w.heap[b]? := fun b hb hbp => by
      rw [upd_ne _ (Ne.symm hbp)]; exact m1.keep b (hFlt b hb) (by simp)
    have kq : (w1.upd p (.cells ((ps.set k (some q)).map ptrTo ++ [Value.slice a l c]).toArray T (0, 0))).heap[q]? = some _ := (upd_ne _ hpq).trans hq
    have kp := upd_same (x := .cells ((ps.set k (some q)).map ptrTo ++ [Value.slice a l c]).toArray T (0, 0)) hp1
    generalize w1.upd p _ = w2 at hm2 kk kq kp ⊢
    obtain ⟨H', hPT, hH'⟩ := h1.put ho kp kq (fun hh => hqn (by simp [hh])) (fun b hb => kk b (by simp [hb]))
    have := hK w2 (H' ++ G) ⟨q1.create k, by rw [createV]; exact q2, by rw [createV]; exact q3, ps.set k (some q), a, l, c, G, H', ?_, by simpa using h2, ?_, ?_, rfl⟩ hm2 ?_
    · rwa [hE] at this
    · refine hPT.say fun i hi => ?_
      unfold createS
      rw [if_pos hE]
      unfold ob10
      simp only [mem_putL]
      by_cases hik : k = i
      · subst hik
        have hup : upV s.U k = (0, false) := upV_out fun u hu hue => hnm (hue ▸ q1.up u hu)
        rw [if_pos (.inl rfl), if_pos rfl, hup]
      · rw [if_neg hik]
        have : ((i : Int) = k ∨ (i : Int) ∈ s.L) ↔ (i : Int) ∈ s.L := by
          constructor
          · rintro (h | h)
            · omega
            · exact h
          · exact .inr
        simp only [this]
    · rw [createV]; exact h3.keep fun b hb => kk b (by simp [hb]) fun e => h4 b hb (e ▸ h1.pmem)
    · intro b hb hh
      rcases hH' b hh with h | rfl
      · exact h4 b hb h
      · exact hqn (by simp [hb])
    · intro b hb
      rcases List.mem_append.1 hb with hb | hb
      · rcases hH' b hb with h | rfl
        · exact .inl (by simp [h])
        · exact .inr (by omega)
      · exact .inl (by simp [hb])
end

end Go.Proofs
