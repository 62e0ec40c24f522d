/-
  Layer 11: the walks of 'ExoipcOrder' and 'ExoipcPlays'.
-/
import Derived.Test.YtidfjfcmkjdpnaaC11e
set_option linter.unusedSimpArgs false
namespace Go.Proofs
open Go Go.Den

/-- A row of slices that came in. -/
abbrev Sl3 := Option Addr × Nat × Nat
def slv (x : Sl3) : Value := .slice x.1 x.2.1 x.2.2
def Reads (w : World) (ps : List Sl3) (wss : List (List Int)) : Prop := ps.length = wss.length ∧ ∀ (i : Nat) p x, ps[i]? = some p → wss[i]? = some x → ∃ H, Rd w p.1 p.2.1 1 (u64s x) H

theorem order_run (w : World) (a : Option Addr) (l c : Nat) (hl : SlIn w 1 (Q_Sl_u64 w) a l c) (ta : Option Addr) (tl tc : Nat) (ht : SlIn w 1 Q_bool ta tl tc) :
    CallsR Try.prog F_januslaw11_ExoipcOrder #[.slice a l c, .slice ta tl tc] w fun r w' => r = .bool true ∧ Mod [] w w' := by
  apply R_januslaw11_ExoipcOrder_ok
  simp only [R_januslaw11_ExoipcOrder]
  have hlle := hl.le
  refine ipc_new w fun p F W w1 hp hm1 hF => ⟨_, rfl, ?_⟩
  have s1 : Sep w w1 [sl none 0 0 1 ([].map slv) [], ipcPart p noQ F W] := ((Sep.nil (Mod.refl [] w)).push _ hm1 hp hF).push (sl none 0 0 1 [] []) (Mod.refl _ _) (SlB.nil w1 1) (by simp [Beyond, sl])
  simp only [Option.isNone_some, spl_false, spl_decide, newK_eq]
  refine ⟨fun w' => Mod [] w w', fun _ w' hm => fin_run hm, ?_⟩
  refine ⟨fun n A L C k i w' => ∃ (j k' : Nat) (ps : List Sl3) (wss : List (List Int)) (Q : Qs) (F' W' G : List Nat), i = j ∧ j ≤ tl ∧ j ≤ 200 ∧ n = tl - j ∧ k = k' ∧ k' ≤ l ∧ Reads w ps wss ∧ Q 3 = wss.map (fun x => (1, x)) ∧ Sep w w' [sl A L C 1 (ps.map slv) G, ipcPart p Q F' W'],
    ⟨tl, 0, 0, [], [], noQ, F, W, [], rfl, by omega, by omega, rfl, rfl, by omega, ⟨rfl, fun i p x h => by simp at h⟩, rfl, s1⟩, ?_⟩
  rintro n A L C k i - w2 ⟨j, k, ps, wss, Q, F2, W2, G, rfl, hj, h200, rfl, rfl, hk, hps, hQ, s2⟩
  refine ⟨fun hlt => ⟨fun hlt2 => ?_, fun _ => s2.mod⟩, fun _ => s2.mod⟩
  have hjl : j < tl := by omega
  have hs2 : SlB w2 A L C 1 (ps.map slv) G := s2.nth 0 rfl
  have hlen := hs2.length
  rw [List.length_map, Nat.mul_one] at hlen
  have hok := (s2.nth 1 rfl : IpcP w2 p Q F2 W2).ok
  have hQ3 := hok.2 3
  rw [hQ, List.length_map] at hQ3
  have hpw := hps.1
  obtain ⟨tad, cs, rfl, htlt, ⟨t0, rfl⟩, -, htc⟩ := ht.at hjl
  refine ⟨fun A L C k w' => ∃ (k' : Nat) (ps : List Sl3) (wss : List (List Int)) (Q : Qs) (F' W' G : List Nat), k = k' ∧ k' ≤ l ∧ Reads w ps wss ∧ Q 3 = wss.map (fun x => (1, x)) ∧ Sep w w' [sl A L C 1 (ps.map slv) G, ipcPart p Q F' W'], ?_, ?_⟩
  · rintro A L C k - w3 ⟨k', ps, wss, Q, F3, W3, G, rfl, hk', hps, hQ, s3⟩
    exact ⟨tl - (j + 1), by omega, j + 1, k', ps, wss, Q, F3, W3, G, by rw [w64 (by omega) (by omega)]; omega, by omega, by omega, rfl, rfl, hk', hps, hQ, s3⟩
  simp only [nilK_some, Int.toNat_natCast]
  refine ⟨⟨by omega, by omega⟩, t0, by rw [s2.mod.cell (by rw [add_block]; exact htlt)]; have := htc 0 (by omega); rw [add_zero, Nat.mul_one] at this; exact this, ?_⟩
  cases t0 with
  | true =>
    rw [spl_true]
    refine ipc_recv (s2.nth 1 rfl : IpcP w2 p Q F2 W2) 3 (fun w3 hno m3 => ⟨_, _, _, _, _, rfl, ?_⟩) (fun x ms w3 F3 W3 wa wl wc H hx h3 m3 o3 _ hrd _ hwc hx8 => ⟨_, _, _, _, _, rfl, ?_⟩)
    · have hw0 : wss = [] := by rw [hQ] at hno; simpa using hno
      have hL0 : L = 0 := by rw [hw0] at hpw; simp at hpw; rw [hpw] at hlen; simpa using hlen.symm
      refine spl_f (by simp [hL0]) (spl_f rfl ⟨k, ps, wss, Q, F2, W2, G, rfl, hk, hps, hQ, s2.mod0 m3⟩)
    · rw [hQ] at hx
      obtain ⟨ws, wss', rfl⟩ : ∃ ws wss', wss = ws :: wss' := by
        cases wss with
        | nil => simp at hx
        | cons ws wss' => exact ⟨ws, wss', rfl⟩
      obtain ⟨pp, ps', rfl⟩ : ∃ pp ps', ps = pp :: ps' := by
        cases ps with
        | nil => simp at hpw
        | cons pp ps' => exact ⟨pp, ps', rfl⟩
      simp only [List.map_cons, List.cons.injEq] at hx
      obtain ⟨rfl, rfl⟩ := hx
      simp only [List.length_cons] at hlen hpw
      have s3 := s2.step 1 rfl (ipcPart p _ F3 W3) h3 m3 o3
      refine spl_f (by simp; omega) (spl_t rfl (spl_f rfl ?_))
      have hs3 : SlB w3 A L C 1 ((pp :: ps').map slv) G := s3.nth 0 rfl
      obtain ⟨b, o, rfl, rfl⟩ := hs3.isNone (by omega)
      have hc0 := hs3.cell (i := 0) (by simp)
      rw [add_zero] at hc0
      obtain ⟨H0, hr0⟩ := hps.2 0 pp ws rfl rfl
      rw [nilK_some]
      refine ⟨⟨by omega, by omega⟩, pp.1, pp.2.1, pp.2.2, hc0, ?_⟩
      have hwl : ws.length = wl := hrd.u64
      have hx8' : ws.length ≤ 8 := hx8
      refine words_rd hrd (hr0.mod0 s3.mod) (by omega) fun w4 m4 => ⟨_, rfl, spl_t (by simp) ?_⟩
      have s4 := s3.mod0 m4
      have hs4 : SlB w4 (some ⟨b, o, none⟩) L C 1 ((pp :: ps').map slv) [b] := s4.nth 0 rfl
      refine slK_of hs4 (L := 1) (H := L) (M := C) (.inl rfl) (.inr ⟨rfl, rfl⟩) (.inr ⟨rfl, rfl⟩) (by omega) (Nat.le_refl _) hs4.le (Nat.le_refl _) fun a' _ hs5 => ?_
      have e : (((pp :: ps').map slv).drop (1 * 1)).take ((L - 1) * 1) = ps'.map slv := by
        rw [Nat.mul_one, Nat.mul_one, List.map_cons, List.drop_one, List.tail_cons, List.take_of_length_le (by simp; omega)]
      rw [e] at hs5
      refine ⟨k, ps', wss', _, F3, W3, [b], rfl, hk, ⟨by omega, fun i q x hq hx => hps.2 (i + 1) q x (by simpa using hq) (by simpa using hx)⟩, by simp [qput], s4.turn 0 rfl (sl a' (L - 1) (C - 1) 1 (ps'.map slv) [b]) hs5 (Mod.refl _ _)⟩
  | false =>
    rw [spl_false]
    refine ⟨fun _ => ⟨k, ps, wss, Q, F2, W2, G, rfl, hk, hps, hQ, s2⟩, fun hge => ?_⟩
    have hkl : k < l := by omega
    obtain ⟨ad, cs, rfl, hadlt, ⟨wa, wl, wc, rfl, hws⟩, -, hc⟩ := hl.at hkl
    have cell : ∀ {u : World}, Mod [] w u → u.cell? (Addr.add ad k) = some (.slice wa wl wc) := fun hm => by
      rw [hm.cell (by rw [add_block]; exact hadlt)]
      have := hc 0 (by omega); rw [add_zero, Nat.mul_one] at this; exact this
    obtain ⟨vss, H, h1, h2, h3⟩ := hws.rd
    obtain ⟨xs, h4, h5, h6⟩ := flat1 (k := .u64) vss fun vs hv => (h2 vs hv).1
    have hx : Rd w wa wl 1 (u64s xs) H := by rw [h4] at h3; exact h3
    have hxl := hx.u64
    simp only [nilK_some, Int.toNat_natCast]
    refine ⟨⟨by omega, by omega⟩, wa, wl, wc, cell s2.mod, ?_⟩
    refine ipc_send (s2.nth 1 rfl : IpcP w2 p Q F2 W2) 1 3 (hx.mod0 s2.mod) fun w4 F4 W4 h4' m4 o4 _ => ⟨_, rfl, ?_⟩
    have s4 := s2.step 1 rfl (ipcPart p _ F4 W4) h4' m4 o4
    have e : sendE Q 1 3 xs.length = if 8 < xs.length then 101 else if 4 ≤ wss.length then 105 else 0 := by
      rw [sendE_in (by decide) (by decide), hQ, List.length_map]
    refine ⟨fun want w' => want = sendE Q 1 3 xs.length ∧ w' = w4, ?_, ?_⟩
    · rintro want - w' ⟨rfl, rfl⟩
      refine spl_f (by simp) ?_
      refine ⟨fun A L C w' => ∃ (ps : List Sl3) (wss : List (List Int)) (Q : Qs) (F' W' G : List Nat), Reads w ps wss ∧ Q 3 = wss.map (fun x => (1, x)) ∧ Sep w w' [sl A L C 1 (ps.map slv) G, ipcPart p Q F' W'], ?_, ?_⟩
      · rintro A L C - w5 ⟨ps, wss, Q, F5, W5, G, hps, hQ, s5⟩
        exact ⟨k + 1, ps, wss, Q, F5, W5, G, by rw [w64 (by omega) (by omega)]; omega, by omega, hps, hQ, s5⟩
      rw [spl_beq]
      refine ⟨fun hz => ?_, fun hnz => ?_⟩
      · have q : sendQ Q 1 3 xs = qput Q 3 (Q 3 ++ [(1, xs)]) := by unfold sendQ; rw [if_pos hz]
        rw [q] at s4
        have hs4 : SlB w' A L C 1 (ps.map slv) G := s4.nth 0 rfl
        refine ⟨⟨by omega, by omega⟩, wa, wl, wc, cell s4.mod, ?_⟩
        refine grow_K slT_Sl_u64 (by decide) hs4 (us := [slv (wa, wl, wc)]) rfl (by simp [isCell, slv]) (by omega) (by omega) fun A' C' w5 G' hs5 m5 o5 => ⟨_, _, _, rfl, ?_⟩
        have s5 := s4.step 0 rfl (sl A' (L + 1) C' 1 ((ps ++ [(wa, wl, wc)]).map slv) G') (by rw [List.map_append]; exact hs5) m5 o5
        refine ⟨ps ++ [(wa, wl, wc)], wss ++ [xs], _, F4, W4, G', ⟨by simp [hpw], fun i q x hq hx' => ?_⟩, by simp [qput, hQ], s5⟩
        by_cases hi : i < ps.length
        · rw [List.getElem?_append_left hi] at hq
          rw [List.getElem?_append_left (by omega)] at hx'
          exact hps.2 i q x hq hx'
        · rw [List.getElem?_append_right (by omega)] at hq
          rw [List.getElem?_append_right (by omega)] at hx'
          have e0 : i - ps.length = 0 := by
            rcases Nat.eq_zero_or_pos (i - ps.length) with h | h
            · exact h
            · rw [List.getElem?_eq_none (by simp; omega)] at hq; cases hq
          rw [e0] at hq
          rw [← hpw, e0] at hx'
          cases hq; cases hx'
          exact ⟨H, hx⟩
      · have q : sendQ Q 1 3 xs = Q := by unfold sendQ; rw [if_neg hnz]
        rw [q] at s4
        exact ⟨ps, wss, Q, F4, W4, G, hps, hQ, s4⟩
    · refine ⟨⟨by omega, by omega⟩, wa, wl, wc, cell s4.mod, fun hgt => ⟨by rw [e, if_pos (by omega)], rfl⟩, fun hle => ⟨fun h4 => ⟨by rw [e, if_neg (by omega), if_pos (by omega)], rfl⟩, fun h4 => ⟨by rw [e, if_neg (by omega), if_neg (by omega)], rfl⟩⟩⟩

/-! ### 'ExoipcPlays', where no deed's words are too many to be copied -/

def Q11s (w : World) (cs : List Value) : Prop := ∃ d0 d1 d2 : Int, ∃ (wa : Option Addr) (wl wc : Nat), cs = [.int .i64 d0, .int .i64 d1, .int .i64 d2, .slice wa wl wc] ∧ SlIn w 1 Q_u64 wa wl wc ∧ wl ≤ 1048576

def dc11 (d0 d1 d2 : Int) (wa : Option Addr) (wl wc : Nat) : Obj := .cells [.int .i64 d0, .int .i64 d1, .int .i64 d2, .slice wa wl wc].toArray 44 (0, 0)

theorem plays_run (w : World) (a : Option Addr) (l c : Nat) (hl : SlIn w 4 (Q11s w) a l c) :
    CallsR Try.prog F_januslaw11_ExoipcPlays #[.slice a l c] w fun r w' => r = .bool true ∧ Mod [] w w' := by
  apply R_januslaw11_ExoipcPlays_ok
  simp only [R_januslaw11_ExoipcPlays]
  refine ipc_new w fun p F W w1 hp hm1 hF => ⟨_, rfl, ?_⟩
  have s1 : Sep w w1 [ipcPart p noQ F W] := (Sep.nil (Mod.refl [] w)).push _ hm1 hp hF
  simp only [Option.isNone_some, spl_false, spl_decide, spl_beq, spl_bne, newK_eq, drK_eq]
  have s2 : Sep w _ [ipcrPart w1.heap.size [] [w1.heap.size], ipcPart p noQ F W] := s1.push (ipcrPart w1.heap.size [] [w1.heap.size]) ((Mod.refl [] w1).alloc (.cells #[.slice none 0 0] 42)) (IpcR.new w1 42) (by simp [Beyond, ipcrPart])
  generalize w1.alloc (.cells #[.slice none 0 0] 42) = w2 at s2 ⊢
  generalize hbn : w1.heap.size = b at s2 ⊢
  clear hbn
  refine ⟨fun w' => Mod [] w w', fun _ w' hm => fin_run hm, ?_⟩
  refine ⟨fun n i w' => ∃ (k : Nat) (L : List RMsg) (F' W' H : List Nat), i = k ∧ k ≤ l ∧ k ≤ 200 ∧ n = l - k ∧ L.length ≤ k ∧ Sep w w' [ipcrPart b L H, ipcPart p (projQ L) F' W'], ⟨l, 0, [], F, W, [b], rfl, by omega, by omega, rfl, by simp, s2⟩, ?_⟩
  clear s1 s2
  rintro n i - w3 ⟨k, L, F3, W3, H3, rfl, hk, h200, rfl, hLk, s3⟩
  refine ⟨fun hlt => ⟨fun hlt2 => ?_, fun _ => s3.mod⟩, fun _ => s3.mod⟩
  have hkl : k < l := by omega
  obtain ⟨ad, cs, rfl, hadlt, ⟨d0, d1, d2, wa, wl, wc, rfl, hws, hwl⟩, -, hcell⟩ := hl.at hkl
  have cell : ∀ j v, j < 4 → [Value.int .i64 d0, .int .i64 d1, .int .i64 d2, .slice wa wl wc][j]? = some v → w3.cell? (Addr.add (Addr.add ad (k * 4)) j) = some v := fun j v hj hv => by
    rw [← hv, ← hcell j hj]
    exact s3.mod.cell (by rw [add_block, add_block]; exact hadlt)
  obtain ⟨vss, H, h1, h2, h3⟩ := hws.rd
  obtain ⟨xs, h4, h5, h6⟩ := flat1 (k := .u64) vss fun vs hv => (h2 vs hv).1
  have hx : Rd w wa wl 1 (u64s xs) H := by rw [h4] at h3; exact h3
  have hxl := hx.u64
  simp only [nilK_some, Int.toNat_natCast]
  refine ⟨⟨by omega, by omega⟩, d0, d1, d2, wa, wl, wc, ⟨by have := cell 0 _ (by decide) rfl; rwa [add_zero] at this, cell 1 _ (by decide) rfl, cell 2 _ (by decide) rfl, cell 3 _ (by decide) rfl⟩, ?_⟩
  refine s3.stK rfl fun w4 s4 _ => ?_
  generalize w3.heap.size = bd at s4 ⊢
  have s4 : Sep w w4 [blk bd (dc11 d0 d1 d2 wa wl wc), ipcrPart b L H3, ipcPart p (projQ L) F3 W3] := s4
  clear s3 cell hcell
  have c0 : ∀ {u : World}, u.heap[bd]? = some (dc11 d0 d1 d2 wa wl wc) → u.cell? ⟨bd, 0, none⟩ = some (.int .i64 d0) := fun h => by rw [cell_get h]; rfl
  have c1 : ∀ {u : World}, u.heap[bd]? = some (dc11 d0 d1 d2 wa wl wc) → u.cell? ⟨bd, 1, none⟩ = some (.int .i64 d1) := fun h => by rw [cell_get h]; rfl
  have c2 : ∀ {u : World}, u.heap[bd]? = some (dc11 d0 d1 d2 wa wl wc) → u.cell? ⟨bd, 2, none⟩ = some (.int .i64 d2) := fun h => by rw [cell_get h]; rfl
  have c3 : ∀ {u : World}, u.heap[bd]? = some (dc11 d0 d1 d2 wa wl wc) → u.cell? ⟨bd, 3, none⟩ = some (.slice wa wl wc) := fun h => by rw [cell_get h]; rfl
  refine ⟨fun ok w' => ok = true ∧ ∃ (L : List RMsg) (F' W' H : List Nat), L.length ≤ k + 1 ∧ Sep w w' [blk bd (dc11 d0 d1 d2 wa wl wc), ipcrPart b L H, ipcPart p (projQ L) F' W'], ?_, d0, c0 (s4.nth 0 rfl), fun _ => ?_, fun _ => ⟨fun _ => ?_, fun _ => ?_⟩⟩
  · rintro ok - w5 ⟨rfl, L, F5, W5, H5, hL5, s5⟩
    have s5 := s5.mod0 ((Mod.refl [] w5).drew)
    refine ⟨[bd], ?_⟩
    rw [spl_true]
    refine ⟨by simp, d2, c2 (s5.nth 0 rfl), by simp, d2, c2 (s5.nth 0 rfl), ?_⟩
    refine ipc_waiting (s5.nth 2 rfl : IpcP w5.drew p (projQ L) F5 W5) d2 fun w6 m6 => ⟨_, rfl, ?_⟩
    have s6 := s5.mod0 m6
    refine ⟨keepB1 (s5.kept s6 0 0 rfl rfl), ?_⟩
    refine ipcr_waiting (s6.nth 1 rfl : IpcR w6 b L H5) (by omega) d2 fun w7 m7 => ⟨_, rfl, ?_⟩
    have s7 := s6.mod0 m7
    refine ⟨keepB1 (s5.kept s7 0 0 rfl rfl), fun h => absurd rfl h, fun _ => ?_⟩
    refine ⟨by simp, d2, c2 (s7.nth 0 rfl), by simp, d2, c2 (s7.nth 0 rfl), ?_⟩
    have hok := (s7.nth 2 rfl : IpcP w7 p (projQ L) F5 W5).ok
    refine ipc_from (s7.nth 2 rfl : IpcP w7 p (projQ L) F5 W5) d2 fun A N C G w8 hs8 hG8 m8 => ⟨_, _, _, rfl, ?_⟩
    have s8 := s7.push (sl A N C 1 _ G) m8 hs8 hG8
    refine ⟨keepB1 (s5.kept s8 0 1 rfl rfl), ?_⟩
    refine ipcr_from (s8.nth 2 rfl : IpcR w8 b L H5) (by omega) d2 fun A2 N2 C2 G2 w9 hs9 hG9 m9 => ⟨_, _, _, rfl, ?_⟩
    have s9 := s8.mod0 m9
    refine ⟨keepB1 (s5.kept s9 0 1 rfl rfl), ?_⟩
    have hs8' : SlB w9 A N C 1 _ G := s9.nth 0 rfl
    have hl8 := hs8'.i64
    have h4 := hok.2 d2
    rw [List.length_map] at hl8
    refine ints_rd hs8'.rd hs9.rd (by omega) fun w10 m10 => ⟨_, rfl, spl_t (by simp) ?_⟩
    have s10 := s9.mod0 m10
    exact ⟨keepB1 (s5.kept s10 0 1 rfl rfl), l - (k + 1), by omega, k + 1, L, F5, W5, H5, by rw [w64 (by omega) (by omega)]; omega, by omega, by omega, rfl, hL5, s10.pop.pop⟩
  · -- Send
    have s5 := s4.mod0 ((Mod.refl [] w4).drew)
    refine ⟨[bd], by simp, d1, c1 (s5.nth 0 rfl), by simp, d2, c2 (s5.nth 0 rfl), by simp, wa, wl, wc, c3 (s5.nth 0 rfl), by simp, d1, c1 (s5.nth 0 rfl), by simp, d2, c2 (s5.nth 0 rfl), by simp, wa, wl, wc, c3 (s5.nth 0 rfl), ?_⟩
    refine push_rd_K (w0 := w4.drew) slT_u64 (by decide) (SlB.nil _ 1) (by simp [Beyond]) (Mod.refl _ _) (hx.mod0 s5.mod) (u64s_cell _) (by omega) (by omega) fun A6 C6 w6 G6 hs6 hG6 m6 _ _ => ⟨_, _, _, rfl, ?_⟩
    have s6 := s5.push (sl A6 (0 + wl) C6 1 (u64s xs) G6) m6 hs6 hG6
    refine ⟨keepB1 (s5.kept s6 0 1 rfl rfl), ?_⟩
    have hs6' : SlB w6 A6 (0 + wl) C6 1 (u64s xs) G6 := s6.nth 0 rfl
    refine ipc_send (s6.nth 3 rfl : IpcP w6 p (projQ L) F3 W3) d1 d2 hs6'.rd fun w7 F7 W7 h7 m7 o7 _ => ⟨_, rfl, ?_⟩
    have s7 := s6.step 3 rfl (ipcPart p _ F7 W7) h7 m7 o7
    refine ⟨keepB1 (s5.kept s7 0 1 rfl rfl), ?_⟩
    refine ipcr_send (s7.nth 2 rfl : IpcR w7 b L H3) (by omega) d1 d2 (hx.mod0 s7.mod) fun w8 H8 h8 m8 o8 => ⟨_, rfl, ?_⟩
    have s8 := s7.step 2 rfl (ipcrPart b _ H8) h8 m8 o8
    refine ⟨keepB1 (s5.kept s8 0 1 rfl rfl), by simp, rsend L d1 d2 xs, F7, W7, H8, ?_, ?_⟩
    · unfold rsend; split
      · simp; omega
      · omega
    · rw [projQ_send]
      exact s8.pop
  · -- Recv
    refine ⟨d2, c2 (s4.nth 0 rfl), ?_⟩
    refine ipc_recv (s4.nth 2 rfl : IpcP w4 p (projQ L) F3 W3) d2 (fun w5 hno m5 => ⟨_, _, _, _, _, rfl, ?_⟩) (fun x ms w5 F5 W5 wa' wl' wc' H' hx' h5 m5 o5 _ hrd hHW hwc' hx8 => ⟨_, _, _, _, _, rfl, ?_⟩)
    · have s5 := s4.mod0 m5
      refine ⟨d2, c2 (s5.nth 0 rfl), ?_⟩
      refine ipcr_recv (s5.nth 1 rfl : IpcR w5 b L H3) (by omega) d2 (fun _ => ⟨_, _, _, _, _, rfl, ?_⟩) (fun A x B w6 F6 wa' wl' wc' H' hL hxe hA _ _ _ _ _ => ?_)
      · refine ⟨fun _ => ?_, fun h => absurd rfl h⟩
        refine words_rd (xs := []) (ys := []) (Rd.nil _ _ 1) (Rd.nil _ _ 1) (by omega) fun w6 m6 => ⟨_, rfl, spl_t (by simp) ⟨rfl, L, F3, W3, H3, by omega, s5.mod0 m6⟩⟩
      · rw [hL, ← hxe, (projQ_mid A B x (by rw [hxe]; exact hA)).1] at hno
        cases hno
    · have s5 := s4.step 2 rfl (ipcPart p _ F5 W5) h5 m5 o5
      refine ⟨d2, c2 (s5.nth 0 rfl), ?_⟩
      refine ipcr_recv (s5.nth 1 rfl : IpcR w5 b L H3) (by omega) d2 (fun hno => by rw [hno] at hx'; cases hx') (fun A y B w6 F6 ya yl yc H6 hL hye hA h6 m6 o6 hrd6 hyc => ⟨_, _, _, _, _, rfl, ?_⟩)
      have s6 := s5.step 1 rfl (ipcrPart b _ F6) h6 m6 o6
      obtain ⟨e1, e2⟩ := projQ_mid A B y (by rw [hye]; exact hA)
      rw [← hL, hye] at e1 e2
      rw [e1] at hx'
      simp only [List.cons.injEq] at hx'
      obtain ⟨rfl, rfl⟩ := hx'
      have hIp := (s5.nth 2 rfl : IpcP w5 p _ F5 W5)
      have hdis := s5.dj 2 1 (by decide) rfl rfl
      have hH5 : ∀ z ∈ H', z ∈ F5 := fun z hz => by
        obtain ⟨_, _, _, _, _, _, _, _, _, _, _, _, _, _, hWF, _⟩ := ipc_line hIp (k := 0) (by decide)
        exact hWF z (hHW z hz)
      have hrd' := hrd.mod m6 fun z hz => hdis z (hH5 z hz)
      have hyl := hrd'.u64
      refine ⟨fun _ => ?_, fun h => absurd rfl h⟩
      refine words_rd hrd' hrd6 (by simp at hx8 hyl; omega) fun w7 m7 => ⟨_, rfl, spl_t (by simp) ⟨rfl, A ++ B, F5, W5, F6, ?_, ?_⟩⟩
      · have := congrArg List.length hL
        simp at this ⊢
        omega
      · rw [e2]
        exact s6.mod0 m7
  · -- Gone
    refine ⟨d1, c1 (s4.nth 0 rfl), ?_⟩
    refine ipc_gone (s4.nth 2 rfl : IpcP w4 p (projQ L) F3 W3) d1 fun w5 F5 W5 h5 m5 o5 _ => ⟨rfl, ?_⟩
    have s5 := s4.step 2 rfl (ipcPart p _ F5 W5) h5 m5 o5
    refine ⟨d1, c1 (s5.nth 0 rfl), ?_⟩
    refine ipcr_gone (s5.nth 1 rfl : IpcR w5 b L H3) (by omega) d1 fun w6 H6 h6 m6 o6 => ⟨rfl, ?_⟩
    have s6 := s5.step 1 rfl (ipcrPart b _ H6) h6 m6 o6
    refine ⟨rfl, rgone L d1, F5, W5, H6, Nat.le_trans (List.length_filter_le _ _) (by omega), ?_⟩
    have e : projQ (rgone L d1) = goneQ (projQ L) d1 := projQ_gone L d1
    rw [e]
    exact s6

end Go.Proofs
