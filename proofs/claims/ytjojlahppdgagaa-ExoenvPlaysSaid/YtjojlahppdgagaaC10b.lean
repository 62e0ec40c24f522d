/-
  Layer 10: contracts of the program's environments: who is killed, slices, upcalls.
-/
import Derived.Test.YtjojlahppdgagaaC10a
set_option linter.unusedSimpArgs false
namespace Go.Proofs
open Go Go.Den

section
variable {w : World} {p : Nat} {s : S10} {F : List Nat}

/-- The vector, some places of which are turned. -/
def ridV (V : List Int) (e : Int) (k : Nat) : List Int := (V.take k).map (fun x => if x = e then -1 else x) ++ V.drop k
theorem ridV_0 (V : List Int) (e : Int) : ridV V e 0 = V := by simp [ridV]
theorem ridV_all (V : List Int) (e : Int) : ridV V e V.length = V.map fun x => if x = e then -1 else x := by simp [ridV]
theorem ridV_len (V : List Int) (e : Int) (k : Nat) : (ridV V e k).length = V.length := by simp [ridV]; omega
theorem ridV_get (V : List Int) (e : Int) (k : Nat) : (ridV V e k)[k]? = V[k]? := by
  unfold ridV
  by_cases h : k ≤ V.length
  · rw [List.getElem?_append_right (by simp; omega)]
    simp [Nat.min_eq_left h]
  · rw [List.getElem?_eq_none (by simp; omega), List.getElem?_eq_none (by omega)]
theorem ridV_succ (V : List Int) (e : Int) {k : Nat} (hk : k < V.length) : ridV V e (k + 1) = (ridV V e k).set k (if V[k] = e then -1 else V[k]) := by
  apply List.ext_getElem?
  intro i
  rw [List.getElem?_set]
  unfold ridV
  by_cases hik : k = i
  · subst hik
    rw [if_pos rfl, if_pos (by simp; omega), List.getElem?_append_left (by simp; omega)]
    simp [List.getElem?_eq_getElem hk]
  · rw [if_neg hik]
    by_cases hi : i < k
    · rw [List.getElem?_append_left (by simp; omega), List.getElem?_append_left (by simp; omega)]
      simp [List.getElem?_take, hi, show i < k + 1 by omega]
    · rw [List.getElem?_append_right (by simp; omega), List.getElem?_append_right (by simp; omega)]
      simp only [List.length_map, List.length_take, List.getElem?_drop]
      congr 1
      omega
theorem ridV_same (V : List Int) (e : Int) {k : Nat} (hk : k < V.length) (h : V[k] ≠ e) : ridV V e (k + 1) = ridV V e k := by
  rw [ridV_succ V e hk, if_neg h]
  apply List.ext_getElem?
  intro i
  rw [List.getElem?_set]
  by_cases hik : k = i
  · subst hik
    rw [if_pos rfl, if_pos (by rw [ridV_len]; exact hk), ridV_get, List.getElem?_eq_getElem hk]
  · rw [if_neg hik]

theorem kill_run (h : EP w p s F) (e : Int) {K : Value → World → Prop} (hK : ∀ w' F', EP w' p (killS s e) F' → Mod F w w' → Own w F F' → K (.int .i64 (killE s e)) w') :
    CallsR Try.prog F_exoenv_Envs_Kill #[.pointer (some ⟨p, 0, none⟩), .int .i64 e] w K := by
  apply R_exoenv_Envs_Kill_ok
  simp only [R_exoenv_Envs_Kill, Option.isNone_some, spl_false, spl_decide, spl_beq, nilK_some, addr_add, Nat.zero_add]
  have h0 := h
  have hFlt := h.lt
  obtain ⟨q1, q2, q3, ps, a, l, c, G, H, h1, h2, h3, h4, rfl⟩ := h
  refine at_run h1 h2 q1 e (fun hn => ⟨_, rfl, ?_⟩) (fun k q hk hk12 hm hq => ⟨_, rfl, ?_⟩)
  · have := hK w (H ++ G) (by unfold killS; rw [if_neg hn]; exact h0) (Mod.refl _ _) (Own.refl _ _)
    rw [killE, if_neg hn] at this
    exact spl_t rfl this
  subst hk
  have hE : killE s k = 0 := if_pos hm
  refine spl_f rfl ⟨⟨by omega, by omega⟩, ?_⟩
  obtain ⟨T, hrow⟩ := h1.row
  rw [Int.toNat_natCast]
  refine stK_of hrow (by simp; omega) ?_
  simp only [splice_cons, splice_nil]
  rw [show Value.pointer none = ptrTo none from rfl, ptrs_set ps _ (by omega)]
  have hm2 : Mod (H ++ G) w (w.upd p (.cells ((ps.set k none).map ptrTo ++ [Value.slice a l c]).toArray T (0, 0))) := (Mod.refl _ _).upd (.inl (by simp [h1.pmem])) _
  have kk : ∀ b ∈ H ++ G, b ≠ p → (w.upd p (.cells ((ps.set k none).map ptrTo ++ [Value.slice a l c]).toArray T (0, 0))).heap[b]? = w.heap[b]? := fun b hb hbp => upd_ne _ (Ne.symm hbp)
  have kp := upd_same (x := .cells ((ps.set k none).map ptrTo ++ [Value.slice a l c]).toArray T (0, 0)) hrow
  generalize w.upd p _ = w2 at hm2 kk kp ⊢
  obtain ⟨H', hPT, hH', -⟩ := h1.del kp (fun b hb => kk b (by simp [hb]))
  have hG : ∀ b ∈ G, b ∉ H' := fun b hb hh => h4 b hb (hH' b hh)
  have h3' : SlB w2 a l c 1 (i64s (ridV s.V k 0)) G := by rw [ridV_0]; exact h3.keep fun b hb => kk b (by simp [hb]) fun e => h4 b hb (e ▸ h1.pmem)
  have hlen := h3.i64
  have hPT2 : PT w2 p (ps.set k none) (ob10 (killS s k)) [.slice a l c] H' := by
    refine hPT.say fun i hi => ?_
    unfold killS
    rw [if_pos hm]
    unfold ob10
    by_cases hik : k = i
    · subst hik
      rw [if_neg (by simp [ridL]), if_pos rfl]
    · rw [if_neg hik]
      have e1 : ((i : Int) ∈ ridL s.L k) ↔ (i : Int) ∈ s.L := by
        rw [ridL, List.mem_filter]
        constructor
        · exact fun h => h.1
        · exact fun h => ⟨h, by simpa using fun h => hik (by omega)⟩
      have e2 : upV (upD s.U k) i = upV s.U i := by rw [upV_del, if_neg (by omega)]
      simp only [e1, e2]
  clear hPT
  have cp : ∀ {u : World}, PT u p (ps.set k none) (ob10 (killS s k)) [.slice a l c] H' → u.cell? ⟨p, 12, none⟩ = some (.slice a l c) := fun hu => by
    have := hu.rcell (i := 0) (v := .slice a l c) rfl
    rwa [List.length_set, h2] at this
  refine ⟨a, l, c, cp hPT2, ?_⟩
  refine ⟨fun n t w' => ∃ j : Nat, t = j ∧ j ≤ l ∧ n = l - j ∧ PT w' p (ps.set k none) (ob10 (killS s k)) [.slice a l c] H' ∧ SlB w' a l c 1 (i64s (ridV s.V k j)) G ∧ Mod (H ++ G) w w', ⟨l, 0, rfl, by omega, rfl, hPT2, h3', hm2⟩, ?_⟩
  clear hPT2 h3' hm2 kk kp
  rintro n t - w3 ⟨j, rfl, hj, rfl, hP3, hs3, hm3⟩
  refine ⟨fun hlt => ?_, fun hge => ?_⟩
  · refine ⟨fun w' => PT w' p (ps.set k none) (ob10 (killS s k)) [.slice a l c] H' ∧ SlB w' a l c 1 (i64s (ridV s.V k (j + 1))) G ∧ Mod (H ++ G) w w', ?_, a, l, c, cp hP3, ?_⟩
    · rintro - w' ⟨r1, r2, r3⟩
      exact ⟨l - (j + 1), by omega, j + 1, by rw [w64 (by omega) (by omega)]; omega, by omega, rfl, r1, r2, r3⟩
    have hjl : j < l := by omega
    obtain ⟨b, o, rfl, rfl⟩ := hs3.isNone (by omega)
    obtain ⟨ad, x, ha, hx, hc, -, -⟩ := hs3.rd.i64at (k := j) hjl
    cases ha
    rw [ridV_get, List.getElem?_eq_getElem (by omega)] at hx
    have hx := Option.some.inj hx
    rw [nilK_some, Int.toNat_natCast]
    refine ⟨⟨by omega, by omega⟩, x, hc, fun heq => ⟨some ⟨b, o, none⟩, l, c, cp hP3, ?_⟩, fun hne => ⟨hP3, ?_, hm3⟩⟩
    · rw [nilK_some]
      refine ⟨⟨by omega, by omega⟩, ?_⟩
      obtain ⟨arr, T', hbk, hcap, -⟩ := hs3.block
      have hle := hs3.le
      rw [addr_add]
      refine stK_of hbk (by simp; omega) ?_
      simp only [splice_cons, splice_nil]
      have hset := hs3.set hbk (j := j) (by rw [i64s_length, ridV_len]; omega) (.int .i64 (-1))
      rw [i64s_set] at hset
      refine ⟨hP3.keep fun z hz => upd_ne _ (by rintro rfl; exact hG b (by simp) hz), ?_, hm3.upd (.inl (by simp)) _⟩
      rw [ridV_succ s.V k (by omega), hx, if_pos heq]
      exact hset
    · rw [ridV_same s.V k (by omega) (by rw [hx]; exact hne)]
      exact hs3
  · have hjl : j = l := by omega
    rw [hjl, ← hlen, ridV_all] at hs3
    have hV : (killS s k).V = s.V.map fun x => if x = (k : Int) then -1 else x := by unfold killS; rw [if_pos hm]
    have := hK w3 (H' ++ G) ⟨q1.kill k, by rw [killV_len]; exact q2, by rw [killV_len]; exact q3, ps.set k none, a, l, c, G, H', hP3, by simpa using h2, by rw [hV, ← hlen]; exact hs3, hG, rfl⟩ hm3 (fun b hb => .inl (by
      rcases List.mem_append.1 hb with hb | hb
      · simp [hH' b hb]
      · simp [hb]))
    rwa [hE] at this

theorem slice_run (h : EP w p s F) (n e : Int) {K : Value → World → Prop} (hK : ∀ w', EP w' p (sliceS s n e) F → Mod F w w' → K (.int .i64 (sliceE s n e)) w') :
    CallsR Try.prog F_exoenv_Envs_Slice #[.pointer (some ⟨p, 0, none⟩), .int .i64 n, .int .i64 e] w K := by
  apply R_exoenv_Envs_Slice_ok
  simp only [R_exoenv_Envs_Slice, Option.isNone_some, spl_false, spl_decide, spl_bne, nilK_some, addr_add, Nat.zero_add]
  have h0 := h
  obtain ⟨q1, q2, q3, ps, a, l, c, G, H, h1, h2, h3, h4, rfl⟩ := h
  have hlen := h3.i64
  have cp : w.cell? ⟨p, 12, none⟩ = some (.slice a l c) := by
    have := h1.rcell (i := 0) (v := .slice a l c) rfl
    rwa [h2] at this
  have no : ∀ v : Int, v ≠ 0 → sliceE s n e = v → K (.int .i64 v) w := fun v hv he => by
    have := hK w (by unfold sliceS; rw [he, if_neg hv]; exact h0) (Mod.refl _ _)
    rwa [he] at this
  refine ⟨fun w' => w' = w ∧ 0 ≤ n ∧ n < l ∧ sliceE s n e = 0, ?_, fun hlt => no 101 (by decide) (if_pos (.inl hlt)), fun hge => ⟨a, l, c, cp, fun hge2 => no 101 (by decide) (if_pos (.inr (by omega))), fun hlt => ?_⟩⟩
  · rintro - w' ⟨rfl, hn0, hnl, hE⟩
    obtain ⟨k, rfl⟩ := nat_of hn0
    refine ⟨a, l, c, cp, ?_⟩
    obtain ⟨b, o, rfl, rfl⟩ := h3.isNone (by omega)
    obtain ⟨arr, T', hbk, hcap, -⟩ := h3.block
    have hle := h3.le
    rw [nilK_some, Int.toNat_natCast, addr_add]
    refine ⟨⟨by omega, by omega⟩, ?_⟩
    refine stK_of hbk (by simp; omega) ?_
    simp only [splice_cons, splice_nil]
    have hset := h3.set hbk (j := k) (by rw [i64s_length]; omega) (.int .i64 e)
    rw [i64s_set] at hset
    have hS : sliceS s k e = ⟨s.L, s.V.set k e, s.U⟩ := by unfold sliceS; rw [if_pos hE, Int.toNat_natCast]
    have hW := q1.slice k e
    have := hK (w'.upd b (.cells (arr.setIfInBounds (o + k) (.int .i64 e)) T' (0, 0))) ⟨hW, by rw [sliceV_len]; exact q2, by rw [sliceV_len]; exact q3, ps, some ⟨b, o, none⟩, l, c, [b], H, ?_, h2, ?_, h4, rfl⟩ ((Mod.refl _ _).upd (.inl (by simp)) _)
    · rwa [hE] at this
    · rw [hS]
      exact (h1.say fun i _ => rfl).keep fun z hz => upd_ne _ (by rintro rfl; exact h4 b (by simp) hz)
    · rw [hS]; exact hset
  · have hg : ¬ (n < 0 ∨ (s.V.length : Int) ≤ n) := by omega
    refine ⟨fun hne => is_run h0 e ⟨_, rfl, ?_⟩, fun heq => ⟨rfl, by omega, by omega, by unfold sliceE; rw [if_neg hg, if_neg (by simp [heq])]⟩⟩
    rw [spl_decide]
    exact ⟨fun hm => ⟨rfl, by omega, by omega, by unfold sliceE; rw [if_neg hg, if_neg (by simp [hm])]⟩, fun hm => no 106 (by decide) (by unfold sliceE; rw [if_neg hg, if_pos ⟨hne, hm⟩])⟩

theorem vector_run (h : EP w p s F) {K : Value → World → Prop} (hK : ∀ A C w' G, SlB w' A s.V.length C 1 (i64s s.V) G → Beyond w.heap.size G → Mod [] w w' → K (.slice A s.V.length C) w') :
    CallsR Try.prog F_exoenv_Envs_Vector #[.pointer (some ⟨p, 0, none⟩)] w K := by
  apply R_exoenv_Envs_Vector_ok
  simp only [R_exoenv_Envs_Vector, Option.isNone_some, spl_false, nilK_some, addr_add, Nat.zero_add]
  obtain ⟨q1, q2, q3, ps, a, l, c, G, H, h1, h2, h3, h4, rfl⟩ := h
  have hlen := h3.i64
  have cp : w.cell? ⟨p, 12, none⟩ = some (.slice a l c) := by
    have := h1.rcell (i := 0) (v := .slice a l c) rfl
    rwa [h2] at this
  refine ⟨a, l, c, cp, clone_i64 h3.rd (by omega) fun A C w' G' hs hG hm => ⟨_, _, _, rfl, ?_⟩⟩
  rw [← hlen] at hs ⊢
  exact hK A C w' G' hs hG hm

theorem emod_go {n : Int} {m : Nat} (hm : 1 ≤ m) (h64 : m ≤ 64) : (IntKind.i64.wrap (n.tmod m + m)).tmod m = n.emod m := by
  have h1 : n.tmod m = n.emod m ∨ n.tmod m = n.emod m - m := by
    rw [Int.tmod_eq_emod]
    split
    · left; simp; rfl
    · right; simp; rfl
  have h2 := Int.emod_nonneg n (show (m : Int) ≠ 0 by omega)
  have h3 := Int.emod_lt_of_pos n (show (0 : Int) < m by omega)
  have h2' : 0 ≤ n.emod m := h2
  have h3' : n.emod m < m := h3
  rw [w64 (by omega) (by omega)]
  rcases h1 with h1 | h1
  · rw [h1, Int.tmod_eq_emod_of_nonneg (by omega)]
    show (n.emod m + m) % m = n.emod m
    rw [Int.add_emod_right]
    exact Int.emod_eq_of_lt h2' h3'
  · rw [h1, show n.emod m - m + m = n.emod m by omega, Int.tmod_eq_emod_of_nonneg h2']
    exact Int.emod_eq_of_lt h2' h3'

theorem pick_run (h : EP w p s F) (n : Int) {K : Value → World → Prop} (hK : ∀ w', Mod [] w w' → K (.int .i64 (pickV s n)) w') :
    CallsR Try.prog F_exoenv_Envs_Pick #[.pointer (some ⟨p, 0, none⟩), .int .i64 n] w K := by
  apply R_exoenv_Envs_Pick_ok
  simp only [R_exoenv_Envs_Pick, Option.isNone_some, spl_false, nilK_some, addr_add, Nat.zero_add, drK_eq]
  obtain ⟨q1, q2, q3, ps, a, l, c, G, H, h1, h2, h3, h4, rfl⟩ := h
  have hlen := h3.i64
  have cp : w.cell? ⟨p, 12, none⟩ = some (.slice a l c) := by
    have := h1.rcell (i := 0) (v := .slice a l c) rfl
    rwa [h2] at this
  refine ⟨a, l, c, cp, a, l, c, cp, by omega, by omega, ?_⟩
  have e1 := emod_go (n := n) (m := l) (by omega) (by omega)
  rw [e1]
  have g1 : 0 ≤ n.emod l := Int.emod_nonneg n (by omega)
  have g2 : n.emod l < l := Int.emod_lt_of_pos n (by omega)
  obtain ⟨k, hk⟩ := nat_of g1
  rw [hk] at g2 ⊢
  obtain ⟨ad, x, rfl, hx, hc, -, -⟩ := h3.rd.i64at (k := k) (by omega)
  rw [nilK_some, Int.toNat_natCast]
  refine ⟨⟨by omega, by omega⟩, x, hc, ?_⟩
  have := hK w.drew (Mod.refl _ _).drew
  rw [pickV, hlen, hk, Int.toNat_natCast, hx] at this
  exact this

theorem fault_run (h : EP w p s F) (e a : Int) {K : Value → World → Prop} (hK : ∀ w', EP w' p (faultS s e a) F → Mod F w w' → K (.int .i64 (faultE s e)) w') :
    CallsR Try.prog F_exoenv_Envs_Fault #[.pointer (some ⟨p, 0, none⟩), .int .i64 e, .int .u64 a] w K := by
  apply R_exoenv_Envs_Fault_ok
  simp only [R_exoenv_Envs_Fault, Option.isNone_some, spl_false]
  have h0 := h
  obtain ⟨q1, q2, q3, ps, sa, l, c, G, H, h1, h2, h3, h4, rfl⟩ := h
  have no : ∀ v : Int, v ≠ 0 → faultE s e = v → K (.int .i64 v) w := fun v hv he => by
    have := hK w (by unfold faultS; rw [he, if_neg hv]; exact h0) (Mod.refl _ _)
    rwa [he] at this
  refine at_run h1 h2 q1 e (fun hn => ⟨_, rfl, spl_t rfl (no 106 (by decide) (if_pos hn))⟩) (fun k q hk hk12 hm hq => ⟨_, rfl, spl_f rfl ?_⟩)
  subst hk
  obtain ⟨arr, T, ha, hb⟩ := h1.at_ k q hq
  rw [ob10, if_pos hm] at ha
  obtain rfl := Option.some.inj ha
  rw [nilK_some]
  refine ⟨_, by rw [cell_get hb]; rfl, ?_⟩
  have hqp : q ≠ p := fun e => h1.np k (e ▸ hq)
  have hqG : q ∉ G := fun hh => h4 q hh (h1.mem hq)
  cases hu : (upV s.U k).2 with
  | true => exact spl_t rfl (no 105 (by decide) (by unfold faultE; rw [if_neg (by simp [hm]), if_pos hu]))
  | false =>
    have hE : faultE s k = 0 := by unfold faultE; rw [if_neg (by simp [hm]), if_neg (by simp [hu])]
    refine spl_f rfl ?_
    rw [nilK_some]
    refine stK_of hb (by simp) ?_
    have hb1 : (w.upd q (.cells (splice #[.bool (upV s.U k).2, .int .u64 (upV s.U k).1] 0 [.bool true]) T (0, 0))).heap[q]? = some (.cells #[.bool true, .int .u64 (upV s.U k).1] T (0, 0)) := by rw [upd_same hb]; rfl
    have m1 : Mod (H ++ G) w (w.upd q (.cells (splice #[.bool (upV s.U k).2, .int .u64 (upV s.U k).1] 0 [.bool true]) T (0, 0))) := (Mod.refl _ _).upd (.inl (by simp [h1.mem hq])) _
    have k1 : ∀ x, x ≠ q → (w.upd q (.cells (splice #[.bool (upV s.U k).2, .int .u64 (upV s.U k).1] 0 [.bool true]) T (0, 0))).heap[x]? = w.heap[x]? := fun x hx => upd_ne _ (Ne.symm hx)
    generalize w.upd q _ = w1 at hb1 m1 k1 ⊢
    rw [nilK_some, addr_add]
    refine stK_of hb1 (by simp) ?_
    have hb2 : (w1.upd q (.cells (splice #[.bool true, .int .u64 (upV s.U k).1] (0 + 1) [.int .u64 a]) T (0, 0))).heap[q]? = some (.cells #[.bool true, .int .u64 a] T (0, 0)) := by rw [upd_same hb1]; rfl
    have m2 : Mod (H ++ G) w (w1.upd q (.cells (splice #[.bool true, .int .u64 (upV s.U k).1] (0 + 1) [.int .u64 a]) T (0, 0))) := m1.upd (.inl (by simp [h1.mem hq])) _
    have k2 : ∀ x, x ≠ q → (w1.upd q (.cells (splice #[.bool true, .int .u64 (upV s.U k).1] (0 + 1) [.int .u64 a]) T (0, 0))).heap[x]? = w.heap[x]? := fun x hx => (upd_ne _ (Ne.symm hx)).trans (k1 x hx)
    generalize w1.upd q _ = w2 at hb2 m2 k2 ⊢
    have hP := h1.mod1 hq hb2 (fun b hb hbq => k2 b hbq)
    have := hK w2 ⟨q1.fault k a, by rw [faultV]; exact q2, by rw [faultV]; exact q3, ps, sa, l, c, G, H, ?_, h2, ?_, h4, rfl⟩ m2
    · rwa [hE] at this
    · refine hP.say fun i hi => ?_
      unfold faultS
      rw [if_pos hE]
      unfold ob10
      by_cases hik : k = i
      · subst hik
        rw [if_pos hm, if_pos rfl, upV_snoc, if_pos rfl]
      · rw [if_neg hik]
        simp only [upV_snoc]
        rw [if_neg (show ¬ ((k : Int) = i) by omega)]
    · rw [faultV]; exact h3.keep fun b hbG => k2 b (fun e => hqG (e ▸ hbG))

theorem upcall_run (h : EP w p s F) (e : Int) {K : Value → World → Prop} (hK : ∀ w', EP w' p (upcallS s e) F → Mod F w w' → K (.tuple #[.int .u64 (upV s.U e).1, .bool (upV s.U e).2]) w') :
    CallsR Try.prog F_exoenv_Envs_Upcall #[.pointer (some ⟨p, 0, none⟩), .int .i64 e] w K := by
  apply R_exoenv_Envs_Upcall_ok
  simp only [R_exoenv_Envs_Upcall]
  have h0 := h
  obtain ⟨q1, q2, q3, ps, sa, l, c, G, H, h1, h2, h3, h4, rfl⟩ := h
  have none_ : upV s.U e = (0, false) → K (.tuple #[.int .u64 0, .bool false]) w := fun hu => by
    have hD : upcallS s e = s := by
      unfold upcallS upD
      have : (s.U.filter fun u => !(u.1 == e)) = s.U := List.filter_eq_self.2 fun u hu' => by
        by_cases hx : u.1 = e
        · have := upV_in hu' hx; rw [hu] at this; cases this
        · simpa using hx
      rw [this]
    have := hK w (by rw [hD]; exact h0) (Mod.refl _ _)
    rwa [hu] at this
  refine at_run h1 h2 q1 e (fun hn => ⟨_, rfl, spl_t rfl (none_ (upV_out fun u hu he => hn (he ▸ q1.up u hu)))⟩) (fun k q hk hk12 hm hq => ⟨_, rfl, spl_f rfl ?_⟩)
  subst hk
  obtain ⟨arr, T, ha, hb⟩ := h1.at_ k q hq
  rw [ob10, if_pos hm] at ha
  obtain rfl := Option.some.inj ha
  rw [nilK_some]
  refine ⟨_, by rw [cell_get hb]; rfl, ?_⟩
  have hqG : q ∉ G := fun hh => h4 q hh (h1.mem hq)
  cases hu : (upV s.U k).2 with
  | false =>
    refine spl_f rfl (none_ ?_)
    by_cases hx : ∃ u ∈ s.U, u.1 = (k : Int)
    · obtain ⟨u, h5, h6⟩ := hx
      have := upV_in h5 h6
      rw [hu] at this; cases this
    · exact upV_out fun u h5 h6 => hx ⟨u, h5, h6⟩
  | true =>
    refine spl_t rfl ?_
    rw [nilK_some, addr_add]
    refine ⟨_, by rw [cell_get hb]; rfl, ?_⟩
    rw [nilK_some]
    refine stK_of hb (by simp) ?_
    have hb1 : (w.upd q (.cells (splice #[.bool (upV s.U k).2, .int .u64 (upV s.U k).1] 0 [.bool false]) T (0, 0))).heap[q]? = some (.cells #[.bool false, .int .u64 (upV s.U k).1] T (0, 0)) := by rw [upd_same hb]; rfl
    have m1 : Mod (H ++ G) w (w.upd q (.cells (splice #[.bool (upV s.U k).2, .int .u64 (upV s.U k).1] 0 [.bool false]) T (0, 0))) := (Mod.refl _ _).upd (.inl (by simp [h1.mem hq])) _
    have k1 : ∀ x, x ≠ q → (w.upd q (.cells (splice #[.bool (upV s.U k).2, .int .u64 (upV s.U k).1] 0 [.bool false]) T (0, 0))).heap[x]? = w.heap[x]? := fun x hx => upd_ne _ (Ne.symm hx)
    generalize w.upd q _ = w1 at hb1 m1 k1 ⊢
    rw [nilK_some, addr_add]
    refine stK_of hb1 (by simp) ?_
    have hb2 : (w1.upd q (.cells (splice #[.bool false, .int .u64 (upV s.U k).1] (0 + 1) [.int .u64 0]) T (0, 0))).heap[q]? = some (.cells #[.bool false, .int .u64 0] T (0, 0)) := by rw [upd_same hb1]; rfl
    have m2 : Mod (H ++ G) w (w1.upd q (.cells (splice #[.bool false, .int .u64 (upV s.U k).1] (0 + 1) [.int .u64 0]) T (0, 0))) := m1.upd (.inl (by simp [h1.mem hq])) _
    have k2 : ∀ x, x ≠ q → (w1.upd q (.cells (splice #[.bool false, .int .u64 (upV s.U k).1] (0 + 1) [.int .u64 0]) T (0, 0))).heap[x]? = w.heap[x]? := fun x hx => (upd_ne _ (Ne.symm hx)).trans (k1 x hx)
    generalize w1.upd q _ = w2 at hb2 m2 k2 ⊢
    have hP := h1.mod1 hq hb2 (fun b hb hbq => k2 b hbq)
    have := hK w2 ⟨q1.upcall k, q2, q3, ps, sa, l, c, G, H, ?_, h2, ?_, h4, rfl⟩ m2
    · rwa [hu] at this
    · refine hP.say fun i hi => ?_
      unfold upcallS ob10
      simp only [upV_del]
      by_cases hik : k = i
      · subst hik
        rw [if_pos hm, if_pos rfl]
        simp
      · rw [if_neg hik, if_neg (show ¬ ((k : Int) = i) by omega)]
    · exact h3.keep fun b hbG => k2 b (fun e => hqG (e ▸ hbG))

theorem live_run (h : EP w p s F) {K : Value → World → Prop} (hK : ∀ A C w' G, SlB w' A s.L.length C 1 (i64s s.L) G → Beyond w.heap.size G → Mod [] w w' → s.L.length ≤ 12 → K (.slice A s.L.length C) w') :
    CallsR Try.prog F_exoenv_Envs_Live #[.pointer (some ⟨p, 0, none⟩)] w K := by
  apply R_exoenv_Envs_Live_ok
  simp only [R_exoenv_Envs_Live, newK_eq, spl_decide]
  have hF := h.lt
  have hLive := live_eq h.1
  refine ⟨fun n A L C t w' => ∃ (j : Nat) (G' : List Nat), t = j ∧ j ≤ 12 ∧ n = 12 - j ∧ L ≤ j ∧ SlB w' A L C 1 (i64s ((ups j).filter fun x => decide (x ∈ s.L))) G' ∧ Beyond w.heap.size G' ∧ Mod [] w w', ⟨12, 0, [], rfl, by omega, rfl, by omega, SlB.nil _ 1, by simp [Beyond], Mod.refl _ _⟩, ?_⟩
  rintro n A L C t - w2 ⟨j, G', rfl, hj, rfl, hLj, hs2, hG2, hm2⟩
  refine ⟨fun hlt => ⟨fun A L C w' => ∃ (G' : List Nat), L ≤ j + 1 ∧ SlB w' A L C 1 (i64s ((ups (j + 1)).filter fun x => decide (x ∈ s.L))) G' ∧ Beyond w.heap.size G' ∧ Mod [] w w', ?_, ?_⟩, fun hge => ?_⟩
  · rintro A L C - w' ⟨G1, r1, r2, r3, r4⟩
    exact ⟨12 - (j + 1), by omega, j + 1, G1, by rw [w64 (by omega) (by omega)]; omega, by omega, rfl, r1, r2, r3, r4⟩
  · refine is_run (h.keep (hm2.at0 hF)) j ⟨_, rfl, ?_⟩
    rw [spl_decide]
    have eu : (ups (j + 1)).filter (fun x => decide (x ∈ s.L)) = (ups j).filter (fun x => decide (x ∈ s.L)) ++ [(j : Int)].filter (fun x => decide (x ∈ s.L)) := by rw [ups_succ, List.filter_append]
    refine ⟨fun hm => ?_, fun hn => ⟨G', by omega, ?_, hG2, hm2⟩⟩
    · refine push_K slT_int (by decide) hs2 hG2 hm2 (us := [.int .i64 (j : Int)]) rfl (by simp [isCell]) (by omega) (by omega) fun A' C' w5 G5 hs' hG' hm' _ _ => ⟨_, _, _, rfl, G5, by omega, ?_, hG', hm'⟩
      rw [eu, show [(j : Int)].filter (fun x => decide (x ∈ s.L)) = [(j : Int)] by simp [hm], i64s_append]
      exact hs'
    · rw [eu, show [(j : Int)].filter (fun x => decide (x ∈ s.L)) = [] by simp [hn], List.append_nil]
      exact hs2
  · have hj12 : j = 12 := by omega
    subst hj12
    rw [hLive] at hs2
    have := hs2.i64
    rw [← this] at hs2 hLj ⊢
    exact hK A C w2 G' hs2 hG2 hm2 hLj
end

end Go.Proofs
