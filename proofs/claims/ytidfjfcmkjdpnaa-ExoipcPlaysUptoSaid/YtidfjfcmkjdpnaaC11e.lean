/-
  Layer 11: 'awake'; the walks of 'ExoipcApart', 'ExoipcGone', 'ExoipcNone'.
-/
import Derived.Test.YtidfjfcmkjdpnaaC11d
import Derived.Test.YtidfjfcmkjdpnaaRWords
import Derived.Test.YtidfjfcmkjdpnaaRInts
import Derived.Test.YtidfjfcmkjdpnaaRHas
set_option linter.unusedSimpArgs false
namespace Go.Proofs
open Go Go.Den

def ipcPart (p : Nat) (Q : Qs) (F W : List Nat) : Part := ⟨F, fun w => IpcP w p Q F W, fun h k => h.keep k, fun h => h.lt⟩
def ipcrPart (b : Nat) (L : List RMsg) (F : List Nat) : Part := ⟨F, fun w => IpcR w b L F, fun h k => h.keep k, fun h => h.lt⟩
def noQ : Qs := fun _ => []
theorem sendE_in {Q : Qs} {f t : Int} {n : Nat} (hf : in12 f) (ht : in12 t) : sendE Q f t n = if 8 < n then 101 else if 4 ≤ (Q t).length then 105 else 0 := by
  unfold sendE
  by_cases h : 8 < n
  · rw [if_pos (.inr (.inr h)), if_pos h]
  · rw [if_neg (by rintro (h' | h' | h'); exact h' hf; exact h' ht; exact h h'), if_neg h]

theorem awake_run (w : World) {K : Value → World → Prop} (h : ∀ w', Mod [] w w' → K (.bool true) w') : CallsR Try.prog F_januslaw11_awake #[] w K := by
  apply R_januslaw11_awake_ok
  simp only [R_januslaw11_awake]
  refine ipc_new w fun p F W w1 hp hm1 hF => ⟨_, rfl, ?_⟩
  have s1 : Sep w w1 [ipcPart p noQ F W] := (Sep.nil (Mod.refl [] w)).push _ hm1 hp hF
  simp only [Option.isNone_some, spl_false, newK_eq, spl_decide, spl_beq]
  have s2 : Sep w _ [sl (some ⟨w1.heap.size, 0, none⟩) 2 2 1 (u64s [5, 6]) [w1.heap.size], ipcPart p noQ F W] := s1.push (sl (some ⟨w1.heap.size, 0, none⟩) 2 2 1 (u64s [5, 6]) [w1.heap.size]) ((Mod.refl [] w1).alloc (.cells #[.int .u64 5, .int .u64 6] 35)) (SlB.new w1 (u64s [5, 6]) 35 rfl) (by simp [Beyond, sl])
  generalize w1.alloc (.cells #[.int .u64 5, .int .u64 6] 35) = w2 at s2 ⊢
  have hs2 : SlB w2 _ 2 2 1 (u64s [5, 6]) _ := s2.nth 0 rfl
  refine ipc_send (s2.nth 1 rfl : IpcP w2 p noQ F W) 1 0 hs2.rd fun w3 F3 W3 h3 m3 o3 _ => ⟨_, rfl, ?_⟩
  have s3 := s2.step 1 rfl (ipcPart p _ F3 W3) h3 m3 o3
  have e3 : sendE noQ 1 0 ([5, 6] : List Int).length = 0 := by decide
  have q3 : sendQ noQ 1 0 [5, 6] = qput noQ 0 [(1, [5, 6])] := by unfold sendQ; rw [e3, if_pos rfl]; rfl
  rw [e3]
  rw [q3] at s3
  refine ipc_recv (s3.nth 1 rfl : IpcP w3 p _ F3 W3) 0 (fun w4 hno _ => ?_) (fun x ms w4 F4 W4 wa wl wc H hx h4 m4 o4 _ hrd hHW hwc hx8 => ⟨_, _, _, _, _, rfl, ?_⟩)
  · simp [qput] at hno
  have s4 := s3.step 1 rfl (ipcPart p _ F4 W4) h4 m4 o4
  simp only [qput, if_true, List.cons.injEq] at hx
  obtain ⟨rfl, rfl⟩ := hx
  rw [qput_qput] at s4
  refine ipc_recv (s4.nth 1 rfl : IpcP w4 p _ F4 W4) 0 (fun w5 _ m5 => ⟨_, _, _, _, _, rfl, ?_⟩) (fun x ms w5 F5 W5 wa wl wc H hx _ _ _ _ _ _ _ _ => by simp [qput] at hx)
  have s5 := s4.mod0 m5
  have k5 : Keep W4 W4 w4 w5 := fun b hb => ⟨m5.keep b ((s4.nth 1 rfl : IpcP w4 p _ F4 W4).lt b (by
    obtain ⟨_, _, _, _, _, _, _, _, _, _, _, _, _, _, hWF, _⟩ := ipc_line (s4.nth 1 rfl : IpcP w4 p _ F4 W4) (k := 0) (by decide)
    exact hWF b hb)) (by simp), hb⟩
  refine ⟨fun n e i w' => ∃ (k : Nat) (Q : Qs) (F' W' : List Nat), i = k ∧ k ≤ 5 ∧ n = 5 - k ∧ (Q 0).length = min k 4 ∧ (k = 5 → e = 105) ∧ Sep w w' [ipcPart p Q F' W'] ∧ Keep W4 W' w4 w', ⟨5, 0, _, F4, W4, rfl, by omega, rfl, by simp [qput], by omega, s5.pop, k5⟩, ?_⟩
  rintro n e i - w6 ⟨k, Q, F6, W6, rfl, hk, rfl, hQ, he, s6, k6⟩
  refine ⟨fun hlt => ?_, fun hge => ?_⟩
  · refine ipc_send (s6.nth 0 rfl : IpcP w6 p Q F6 W6) 2 0 (ws := []) (Rd.nil w6 none 1) fun w7 F7 W7 h7 m7 o7 k7 => ⟨_, rfl, 5 - (k + 1), by omega, k + 1, _, F7, W7, by rw [w64 (by omega) (by omega)]; omega, by omega, rfl, ?_, fun hk5 => ?_, s6.step 0 rfl (ipcPart p _ F7 W7) h7 m7 o7, k6.trans k7⟩
    · have hE : sendE Q 2 0 ([] : List Int).length = if 4 ≤ (Q 0).length then 105 else 0 := sendE_in (by decide) (by decide)
      unfold sendQ
      rw [hE]
      by_cases h4 : 4 ≤ (Q 0).length
      · rw [if_pos h4, if_neg (by decide)]; omega
      · rw [if_neg h4, if_pos rfl]; simp [qput]; omega
    · have hE : sendE Q 2 0 ([] : List Int).length = if 4 ≤ (Q 0).length then 105 else 0 := sendE_in (by decide) (by decide)
      rw [hE, if_pos (by omega)]
  · have hk5 : k = 5 := by omega
    subst hk5
    have hw6 := hrd.keep fun b hb => (k6 b (hHW b hb)).1
    refine ⟨fun _ => ⟨fun _ => ?_, fun h => absurd rfl h⟩, fun h => absurd rfl h⟩
    have s7 := s6.push (sl (some ⟨w6.heap.size, 0, none⟩) 2 2 1 (u64s [5, 6]) [w6.heap.size]) ((Mod.refl [] w6).alloc (.cells #[.int .u64 5, .int .u64 6] 35)) (SlB.new w6 (u64s [5, 6]) 35 rfl) (by simp [Beyond, sl])
    have m67 : Mod [] w6 (w6.alloc (.cells #[.int .u64 5, .int .u64 6] 35)) := (Mod.refl _ _).alloc _
    generalize w6.alloc (.cells #[.int .u64 5, .int .u64 6] 35) = w7 at s7 m67 ⊢
    have hs7 : SlB w7 _ 2 2 1 (u64s [5, 6]) _ := s7.nth 0 rfl
    have hwl := hw6.u64
    simp only [List.length_cons, List.length_nil] at hwl
    refine words_rd (hw6.mod0 m67) hs7.rd (by omega) fun w8 m8 => ⟨_, rfl, spl_t (by simp) (spl_t rfl (spl_f rfl ⟨fun _ => ?_, fun h => absurd (he rfl) h⟩))⟩
    have s8 := s7.mod0 m8
    refine ipc_waiting (s8.nth 1 rfl : IpcP w8 p Q F6 W6) 0 fun w9 m9 => ⟨_, rfl, ?_⟩
    rw [hQ]
    exact h w9 (s8.mod.trans' m9)

theorem fin_run {w w' : World} (h : Mod [] w w') : CallsR Try.prog F_januslaw11_awake #[] w' fun v w'' => ∃ r : Bool, v = .bool r ∧ Value.bool r = .bool true ∧ Mod [] w w'' := awake_run _ fun w2 h2 => ⟨true, rfl, rfl, h.trans' h2⟩

theorem apart_run (w : World) (n0 n1 : Int) (_ : (Lit.int .i64 n0).wf = true) (_ : (Lit.int .i64 n1).wf = true) :
    CallsR Try.prog F_januslaw11_ExoipcApart #[.agg #[.int .i64 n0, .int .i64 n1]] w fun r w' => r = .bool true ∧ Mod [] w w' := by
  apply R_januslaw11_ExoipcApart_ok
  simp only [R_januslaw11_ExoipcApart, newK_eq, drK_eq]
  have clamp : ∀ x : Int, ∃ N : Nat, (if (if (6 : Int) < x then (6 : Int) else x) > (0 : Int) then (if (6 : Int) < x then (6 : Int) else x) else (0 : Int)) = (N : Int) ∧ N ≤ 6 := fun x => by
    refine ⟨(if (if (6 : Int) < x then (6 : Int) else x) > (0 : Int) then (if (6 : Int) < x then (6 : Int) else x) else (0 : Int)).toNat, ?_, ?_⟩
    · split <;> split <;> omega
    · split <;> split <;> omega
  have s1 := ((Sep.nil (Mod.refl [] w)).alloc (.cells #[.int .i64 n0, .int .i64 n1] 34)).mod0 ((Mod.refl [] _).drew)
  generalize (w.alloc (.cells #[.int .i64 n0, .int .i64 n1] 34)).drew = w1 at s1 ⊢
  generalize w.heap.size = b1 at s1 ⊢
  have hb : w1.heap[b1]? = some _ := s1.nth 0 rfl
  refine ⟨⟨by decide, by decide⟩, n0, by rw [cell_get hb]; rfl, ⟨by decide, by decide⟩, n1, by rw [cell_get hb]; rfl, ?_⟩
  obtain ⟨A, hA, hA6⟩ := clamp n0
  obtain ⟨B, hB, hB6⟩ := clamp n1
  rw [hA, hB]
  refine ipc_new w1 fun p F W w2 hp hm2 hF => ⟨_, rfl, ?_⟩
  have s2 : Sep w w2 [ipcPart p noQ F W] := s1.pop.push _ hm2 hp hF
  simp only [Option.isNone_some, spl_false, spl_decide]
  have E : ∀ (Q : Qs) (t : Int) (n : Nat), in12 t → n ≤ 8 → sendE Q 3 t n = if 4 ≤ (Q t).length then 105 else 0 := fun Q t n ht hn => by
    rw [sendE_in (by decide) ht, if_neg (by omega)]
  refine ⟨fun n i w' => ∃ (k : Nat) (Q : Qs) (F' W' : List Nat), i = k ∧ k ≤ A ∧ n = A - k ∧ (Q 1).length = min k 4 ∧ (Q 2).length = 0 ∧ (Q 3).length = 0 ∧ Sep w w' [ipcPart p Q F' W'], ⟨A, 0, noQ, F, W, rfl, by omega, rfl, rfl, rfl, rfl, s2⟩, ?_⟩
  rintro n i - w3 ⟨k, Q, F3, W3, rfl, hk, rfl, h1, h2, h3, s3⟩
  refine ⟨fun hlt => ?_, fun hge => ?_⟩
  · have s4 := s3.push (sl (some ⟨w3.heap.size, 0, none⟩) 1 1 1 (u64s [IntKind.u64.wrap (k : Int)]) [w3.heap.size]) ((Mod.refl [] w3).alloc (.cells #[.int .u64 (IntKind.u64.wrap (k : Int))] 35)) (SlB.new w3 (u64s [IntKind.u64.wrap (k : Int)]) 35 rfl) (by simp [Beyond, sl])
    generalize w3.alloc (.cells #[.int .u64 (IntKind.u64.wrap (k : Int))] 35) = w4 at s4 ⊢
    have hs4 : SlB w4 _ 1 1 1 (u64s [IntKind.u64.wrap (k : Int)]) _ := s4.nth 0 rfl
    refine ipc_send (s4.nth 1 rfl : IpcP w4 p Q F3 W3) 3 1 hs4.rd fun w5 F5 W5 h5 m5 o5 _ => ⟨_, rfl, ?_⟩
    have s5 := s4.step 1 rfl (ipcPart p _ F5 W5) h5 m5 o5
    have e := E Q 1 1 (by decide) (by decide)
    unfold sendQ at s5
    rw [show ([IntKind.u64.wrap (k : Int)] : List Int).length = 1 from rfl, e] at s5 ⊢
    by_cases h4 : 4 ≤ (Q 1).length
    · rw [if_pos h4, if_neg (by decide)] at s5
      rw [if_pos h4]
      exact spl_f (by simp; omega) ⟨A - (k + 1), by omega, k + 1, Q, F5, W5, by rw [w64 (by omega) (by omega)]; omega, by omega, rfl, by omega, h2, h3, s5.pop⟩
    · rw [if_neg h4, if_pos rfl] at s5
      rw [if_neg h4]
      exact spl_f (by simp; omega) ⟨A - (k + 1), by omega, k + 1, _, F5, W5, by rw [w64 (by omega) (by omega)]; omega, by omega, rfl, by simp [qput]; omega, by simp [qput, h2], by simp [qput, h3], s5.pop⟩
  · have hkA : k = A := by omega
    subst hkA
    refine ⟨fun n i w' => ∃ (j : Nat) (Q : Qs) (F' W' : List Nat), i = j ∧ j ≤ B ∧ n = B - j ∧ (Q 1).length = min k 4 ∧ (Q 2).length = min j 4 ∧ (Q 3).length = 0 ∧ Sep w w' [ipcPart p Q F' W'], ⟨B, 0, Q, F3, W3, rfl, by omega, rfl, h1, h2, h3, s3⟩, ?_⟩
    clear s3 h1 h2 h3
    rintro n i - w4 ⟨j, Q, F4, W4, rfl, hj, rfl, h1, h2, h3, s4⟩
    refine ⟨fun hlt => ?_, fun hge => ?_⟩
    · refine ipc_send (s4.nth 0 rfl : IpcP w4 p Q F4 W4) 3 2 (ws := []) (Rd.nil w4 none 1) fun w5 F5 W5 h5 m5 o5 _ => ⟨_, rfl, ?_⟩
      have s5 := s4.step 0 rfl (ipcPart p _ F5 W5) h5 m5 o5
      have e := E Q 2 0 (by decide) (by decide)
      unfold sendQ at s5
      rw [show ([] : List Int).length = 0 from rfl, e] at s5 ⊢
      by_cases h4 : 4 ≤ (Q 2).length
      · rw [if_pos h4, if_neg (by decide)] at s5
        rw [if_pos h4]
        exact spl_f (by simp; omega) ⟨B - (j + 1), by omega, j + 1, Q, F5, W5, by rw [w64 (by omega) (by omega)]; omega, by omega, rfl, h1, by omega, h3, s5⟩
      · rw [if_neg h4, if_pos rfl] at s5
        rw [if_neg h4]
        exact spl_f (by simp; omega) ⟨B - (j + 1), by omega, j + 1, _, F5, W5, by rw [w64 (by omega) (by omega)]; omega, by omega, rfl, by simp [qput, h1], by simp [qput]; omega, by simp [qput, h3], s5⟩
    · have hjB : j = B := by omega
      subst hjB
      refine ipc_waiting (s4.nth 0 rfl : IpcP w4 p Q F4 W4) 1 fun w5 m5 => ⟨_, rfl, spl_t ?_ ?_⟩
      · rw [h1]; simp; split <;> omega
      refine ipc_waiting ((s4.mod0 m5).nth 0 rfl : IpcP w5 p Q F4 W4) 2 fun w6 m6 => ⟨_, rfl, spl_t ?_ ?_⟩
      · rw [h2]; simp; split <;> omega
      refine ipc_waiting (((s4.mod0 m5).mod0 m6).nth 0 rfl : IpcP w6 p Q F4 W4) 3 fun w7 m7 => ⟨_, rfl, spl_t ?_ ?_⟩
      · rw [h3]; rfl
      exact fin_run (((s4.mod0 m5).mod0 m6).mod0 m7).mod

theorem gone_run (w : World) (a : Option Addr) (l c : Nat) (hl : SlIn w 4 (Q_januslaw11_Deed w) a l c) (env : Int) (_ : (Lit.int .i64 env).wf = true) :
    CallsR Try.prog F_januslaw11_ExoipcGone #[.slice a l c, .int .i64 env] w fun r w' => r = .bool true ∧ Mod [] w w' := by
  apply R_januslaw11_ExoipcGone_ok
  simp only [R_januslaw11_ExoipcGone]
  refine ipc_new w fun p F W w1 hp hm1 hF => ⟨_, rfl, ?_⟩
  have s1 : Sep w w1 [ipcPart p noQ F W] := (Sep.nil (Mod.refl [] w)).push _ hm1 hp hF
  simp only [Option.isNone_some, spl_false, spl_decide, spl_beq]
  refine ⟨fun w' => ∃ Q F' W', Sep w w' [ipcPart p Q F' W'], ?_, ?_⟩
  · rintro - w2 ⟨Q, F2, W2, s2⟩
    refine ipc_gone (s2.nth 0 rfl : IpcP w2 p Q F2 W2) env fun w3 F3 W3 h3 m3 o3 _ => ⟨rfl, ?_⟩
    have s3 := s2.step 0 rfl (ipcPart p _ F3 W3) h3 m3 o3
    have hok := (s3.nth 0 rfl : IpcP w3 p (goneQ Q env) F3 W3).ok
    refine ⟨fun n e w' => ∃ k : Nat, e = k ∧ k ≤ 12 ∧ n = 12 - k ∧ Sep w w' [ipcPart p (goneQ Q env) F3 W3], ⟨12, 0, rfl, by omega, rfl, s3⟩, ?_⟩
    rintro n e - w4 ⟨k, rfl, hk, rfl, s4⟩
    refine ⟨fun hlt => ?_, fun hge => ?_⟩
    · refine ipc_from (s4.nth 0 rfl : IpcP w4 p _ F3 W3) (k : Int) fun A N C G w5 hs5 hG5 m5 => ⟨_, _, _, rfl, ?_⟩
      have hl5 := hs5.i64
      have hl4 := hok.2 (k : Int)
      rw [List.length_map] at hl5
      refine has_rd hs5.rd (by omega) env ⟨_, rfl, spl_f ?_ ⟨12 - (k + 1), by omega, k + 1, by rw [w64 (by omega) (by omega)]; omega, by omega, rfl, s4.mod0 m5⟩⟩
      simp only [decide_eq_false_iff_not, List.mem_map, not_exists, not_and]
      intro x hx
      simp only [goneQ, List.mem_filter, goes, Bool.not_eq_true', Bool.or_eq_false_iff, decide_eq_false_iff_not] at hx
      exact hx.2.2
    · refine ipc_waiting (s4.nth 0 rfl : IpcP w4 p _ F3 W3) env fun w5 m5 => ⟨_, rfl, ?_⟩
      have e0 : goneQ Q env env = [] := by
        unfold goneQ
        rw [List.filter_eq_nil_iff]
        intro x _
        simp [goes]
      rw [e0]
      exact ⟨fun _ => fin_run (s4.mod0 m5).mod, fun h => absurd rfl h⟩
  · refine ⟨fun n i w' => ∃ (k : Nat) (Q : Qs) (F' W' : List Nat), i = k ∧ k ≤ l ∧ k ≤ 200 ∧ n = l - k ∧ Sep w w' [ipcPart p Q F' W'], ⟨l, 0, noQ, F, W, rfl, by omega, by omega, rfl, s1⟩, ?_⟩
    rintro n i - w2 ⟨k, Q, F2, W2, rfl, hk, h200, rfl, s2⟩
    refine ⟨fun hlt => ⟨fun hlt2 => ?_, fun _ => ⟨Q, F2, W2, s2⟩⟩, fun _ => ⟨Q, F2, W2, s2⟩⟩
    have hkl : k < l := by omega
    obtain ⟨ad, cs, rfl, hadlt, ⟨d0, d1, d2, wa, wl, wc, rfl, hw0, hw1, hw2, hws⟩, -, hcell⟩ := hl.at hkl
    have cell : ∀ {u : World}, Mod [] w u → ∀ j v, j < 4 → [Value.int .i64 d0, .int .i64 d1, .int .i64 d2, .slice wa wl wc][j]? = some v → u.cell? (Addr.add (Addr.add ad (k * 4)) j) = some v := fun hm j v hj hv => by
      rw [← hv, ← hcell j hj]
      exact hm.cell (by rw [add_block, add_block]; exact hadlt)
    refine ⟨fun w' => ∃ Q F' W', Sep w w' [ipcPart p Q F' W'], ?_, ?_⟩
    · rintro - w3 ⟨Q, F3, W3, s3⟩
      exact ⟨l - (k + 1), by omega, k + 1, Q, F3, W3, by rw [w64 (by omega) (by omega)]; omega, by omega, by omega, rfl, s3⟩
    simp only [nilK_some, Int.toNat_natCast, drK_eq]
    refine ⟨⟨by omega, by omega⟩, d0, by have := cell s2.mod 0 _ (by decide) rfl; rwa [add_zero] at this, fun _ => ?_, fun _ => ⟨Q, F2, W2, s2⟩⟩
    have s3 := s2.mod0 ((Mod.refl [] w2).drew)
    refine ⟨⟨by omega, by omega⟩, d1, cell s3.mod 1 _ (by decide) rfl, ⟨by omega, by omega⟩, d2, cell s3.mod 2 _ (by decide) rfl, ⟨by omega, by omega⟩, wa, wl, wc, cell s3.mod 3 _ (by decide) rfl, ?_⟩
    obtain ⟨vss, H, h1, h2, h3⟩ := hws.rd
    obtain ⟨xs, h4, h5, h6⟩ := flat1 (k := .u64) vss fun vs hv => (h2 vs hv).1
    have hx : Rd w wa wl 1 (u64s xs) H := by rw [h4] at h3; exact h3
    refine ipc_send (s3.nth 0 rfl : IpcP w2.drew p Q F2 W2) d1 d2 (hx.mod0 s3.mod) fun w4 F4 W4 h4 m4 o4 _ => ⟨_, rfl, _, F4, W4, s3.step 0 rfl (ipcPart p _ F4 W4) h4 m4 o4⟩

theorem none_run (w : World) (d0 d1 d2 : Int) (wa : Option Addr) (wl wc : Nat) (_ : (Lit.int .i64 d0).wf = true) (_ : (Lit.int .i64 d1).wf = true) (_ : (Lit.int .i64 d2).wf = true) (_ : SlIn w 1 Q_u64 wa wl wc) :
    CallsR Try.prog F_januslaw11_ExoipcNone #[.agg #[.int .i64 d0, .int .i64 d1, .int .i64 d2, .slice wa wl wc]] w fun r w' => r = .bool true ∧ Mod [] w w' := by
  apply R_januslaw11_ExoipcNone_ok
  simp only [R_januslaw11_ExoipcNone, newK_eq]
  have s1 := (Sep.nil (Mod.refl [] w)).alloc (.cells #[.int .i64 d0, .int .i64 d1, .int .i64 d2, .slice wa wl wc] 44)
  generalize w.alloc (.cells #[.int .i64 d0, .int .i64 d1, .int .i64 d2, .slice wa wl wc] 44) = w1 at s1 ⊢
  generalize w.heap.size = bd at s1 ⊢
  have c1 : ∀ {u : World}, u.heap[bd]? = some (.cells #[.int .i64 d0, .int .i64 d1, .int .i64 d2, .slice wa wl wc] 44) → u.cell? ⟨bd, 1, none⟩ = some (.int .i64 d1) := fun h => by rw [cell_get h]; rfl
  have c2 : ∀ {u : World}, u.heap[bd]? = some (.cells #[.int .i64 d0, .int .i64 d1, .int .i64 d2, .slice wa wl wc] 44) → u.cell? ⟨bd, 2, none⟩ = some (.int .i64 d2) := fun h => by rw [cell_get h]; rfl
  have c3 : ∀ {u : World}, u.heap[bd]? = some (.cells #[.int .i64 d0, .int .i64 d1, .int .i64 d2, .slice wa wl wc] 44) → u.cell? ⟨bd, 3, none⟩ = some (.slice wa wl wc) := fun h => by rw [cell_get h]; rfl
  refine ⟨d2, c2 (s1.nth 0 rfl), ?_⟩
  apply R_exoipc_Ipc_Recv_ok
  simp only [R_exoipc_Ipc_Recv, Option.isNone_none, spl_true]
  refine ⟨_, _, _, _, _, rfl, d1, c1 (s1.nth 0 rfl), ?_⟩
  apply R_exoipc_Ipc_Gone_ok
  simp only [R_exoipc_Ipc_Gone, Option.isNone_none, spl_true, newK_eq]
  have s2 := s1.alloc (.cells #[.int .i64 d1] 3)
  generalize w1.alloc (.cells #[.int .i64 d1] 3) = w2 at s2 ⊢
  refine ⟨trivial, d1, c1 (s2.nth 1 rfl), d2, c2 (s2.nth 1 rfl), wa, wl, wc, c3 (s2.nth 1 rfl), ?_⟩
  apply R_exoipc_Ipc_Send_ok
  simp only [R_exoipc_Ipc_Send, Option.isNone_none, spl_true]
  refine ⟨_, rfl, spl_t rfl (spl_f rfl ?_)⟩
  refine ⟨d2, c2 (s2.nth 1 rfl), ?_⟩
  apply R_exoipc_Ipc_Waiting_ok
  apply R_exoipc_Ipc_From_ok
  simp only [R_exoipc_Ipc_From, Option.isNone_none, spl_true]
  refine ⟨_, _, _, rfl, _, rfl, spl_t rfl ⟨d2, c2 (s2.nth 1 rfl), ?_⟩⟩
  apply R_exoipc_Ipc_From_ok
  simp only [R_exoipc_Ipc_From, Option.isNone_none, spl_true]
  exact ⟨_, _, _, rfl, spl_t rfl (fin_run s2.mod)⟩

end Go.Proofs
