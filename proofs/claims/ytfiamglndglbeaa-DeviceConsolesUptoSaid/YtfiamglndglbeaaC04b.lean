/-
  Layer 4: 'awake' answers true; devices that are none; the walks of 'DeviceNone', 'DeviceOnce', 'DeviceTimers', 'DeviceReads'.
-/
import Derived.Test.YtfiamglndglbeaaC04a
import Derived.Test.YtfiamglndglbeaaDen9
set_option linter.unusedSimpArgs false
namespace Go.Proofs
open Go Go.Den

theorem tl_eq {a b : ByteArray} (h : a = b) : (a.toList == b.toList) = true := by rw [h]; exact beq_self_eq_true _

theorem nput (s : ByteArray) {w : World} {K : Value → World → Prop} (h : K (.tuple #[]) w) : CallsR Try.prog F_device_Console_Put #[.pointer none, .string s] w K := by
  apply R_device_Console_Put_ok
  simpa [R_device_Console_Put] using h
theorem nget (n : Int) {w : World} {K : Value → World → Prop} (h : K (.string (ByteArray.mk #[])) w) : CallsR Try.prog F_device_Console_Get #[.pointer none, .int .i64 n] w K := by
  apply R_device_Console_Get_ok
  simpa [R_device_Console_Get] using h
theorem nleft {w : World} {K : Value → World → Prop} (h : K (.int .i64 0) w) : CallsR Try.prog F_device_Console_Left #[.pointer none] w K := by
  apply R_device_Console_Left_ok
  simpa [R_device_Console_Left] using h
theorem nout {w : World} {K : Value → World → Prop} (h : K (.string (ByteArray.mk #[])) w) : CallsR Try.prog F_device_Console_Out #[.pointer none] w K := by
  apply R_device_Console_Out_ok
  simpa [R_device_Console_Out] using h
theorem nset (n : Int) {w : World} {K : Value → World → Prop} (h : K (.int .i64 101) w) : CallsR Try.prog F_device_Timer_Set #[.pointer none, .int .i64 n] w K := by
  apply R_device_Timer_Set_ok
  simpa [R_device_Timer_Set] using h
theorem ntick {w : World} {K : Value → World → Prop} (h : K (.bool false) w) : CallsR Try.prog F_device_Timer_Tick #[.pointer none] w K := by
  apply R_device_Timer_Tick_ok
  simpa [R_device_Timer_Tick] using h
theorem ntleft {w : World} {K : Value → World → Prop} (h : K (.int .i64 0) w) : CallsR Try.prog F_device_Timer_Left #[.pointer none] w K := by
  apply R_device_Timer_Left_ok
  simpa [R_device_Timer_Left] using h

theorem awake_run (w : World) {K : Value → World → Prop} (h : ∀ w', Mod [] w w' → K (.bool true) w') : CallsR Try.prog F_januslaw04_awake #[] w K := by
  apply R_januslaw04_awake_ok
  simp only [R_januslaw04_awake]
  refine dev_new _ w fun p F w1 hc1 hm1 hF => ⟨_, rfl, tim_new w1 fun t w2 ht2 hm2 htt => ⟨_, rfl, ?_⟩⟩
  simp only [Option.isNone_some, spl_false]
  have l1 := hc1.lt
  have htF : t ∉ F := fun h => absurd (l1 t h) (by omega)
  have hc2 := hc1.keep (w' := w2) fun b hb => hm2.keep b (l1 b hb) (by simp)
  have m2 := hm1.trans' hm2
  refine cons_get hc2 2 fun w3 hc3 hm3 => ⟨_, rfl, cons_get hc3 2 fun w4 hc4 hm4 => ⟨_, rfl, ?_⟩⟩
  have e1 : takes (ByteArray.mk #[97, 98, 99]) 2 = 2 := by rfl
  have e2 : (ByteArray.mk #[97, 98, 99]).extract 2 (ByteArray.mk #[97, 98, 99]).size = ByteArray.mk #[99] := by decide
  have e3 : takes (ByteArray.mk #[99]) 2 = 1 := by rfl
  have e4 : (ByteArray.mk #[99]).extract 1 (ByteArray.mk #[99]).size = ByteArray.mk #[] := by decide
  rw [e1, e2, e3, e4] at hc4
  rw [e1, e2, e3]
  refine cons_put hc4 _ (by decide) fun w5 F5 hc5 hm5 ho5 => ⟨rfl, cons_put hc5 _ (by decide) fun w6 F6 hc6 hm6 ho6 => ⟨rfl, ?_⟩⟩
  have htw2 : t < w2.heap.size := ht2.elim fun _ h => lt_of_get h
  have m34 := hm3.trans' hm4
  have m35 := m34.trans' hm5
  have htF5 : t ∉ F5 := fun h => by
    rcases ho5 t h with h | h
    · exact htF h
    · have := m34.size; omega
  have htF6 : t ∉ F6 := fun h => by
    rcases ho6 t h with h | h
    · exact htF5 h
    · have := m35.size; omega
  have ht5 := ht2.keep (w' := w5) (m35.keep t htw2 htF)
  have ht6 := ht5.keep (w' := w6) (hm6.keep t (Nat.lt_of_lt_of_le htw2 m35.size) htF5)
  have m5 : Mod [] w w5 := m2.trans m35 fun b hb hlt => absurd (hF b hb) (by omega)
  have hF5 : ∀ b ∈ F5, w.heap.size ≤ b := fun b hb => by
    rcases ho5 b hb with h | h
    · exact hF b h
    · have := (m2.trans m34 fun b hb hlt => absurd (hF b hb) (by omega) : Mod [] w w4).size; omega
  have m6 : Mod [] w w6 := m5.trans hm6 fun b hb hlt => absurd (hF5 b hb) (by omega)
  have htw : w.heap.size ≤ t := Nat.le_trans hm1.size htt
  have kt : ∀ {u u' : World}, Mod [] w u → Mod [t] u u' → Mod [] w u' := fun h h' => h.trans h' fun b hb hlt => by simp at hb; omega
  refine tim_set ht6 2 (fun h => by omega) (fun _ _ w7 ht7 hm7 => ⟨_, rfl, tim_tick ht7 (by omega) fun w8 ht8 hm8 => ⟨_, rfl, tim_tick ht8 (by decide) fun w9 ht9 hm9 => ⟨_, rfl, tim_tick ht9 (by decide) fun wa hta hma => ⟨_, rfl, ?_⟩⟩⟩⟩)
  have m6a : Mod [t] w6 wa := ((hm7.trans' hm8).trans' hm9).trans' hma
  have hca := hc6.keep (w' := wa) fun b hb => m6a.keep b (hc6.lt b hb) (by simp; rintro rfl; exact htF6 hb)
  have ma := kt m6 m6a
  refine spl_t (tl_eq (by decide)) (spl_t (tl_eq (by decide)) (cons_left hca ⟨_, rfl, spl_t (by rfl) (cons_out hca ⟨_, rfl, spl_t (tl_eq (by decide)) (spl_t (by rfl) (spl_f (by rfl) (spl_t (by rfl) (spl_f (by rfl) ?_))))⟩)⟩))
  refine tim_set hta 201 (fun _ => ⟨_, rfl, ?_⟩) (fun h h' => by omega)
  exact h _ ma

theorem none_run (w : World) (p : Bool) (n : Int) (s : ByteArray) (_ : (Lit.int .i64 n).wf = true) (_ : s.size ≤ maxLen) : CallsR Try.prog F_januslaw04_DeviceNone #[.agg #[.bool p, .int .i64 n, .string s]] w fun r w' => r = .bool true ∧ Mod [] w w' := by
  apply R_januslaw04_DeviceNone_ok
  simp only [R_januslaw04_DeviceNone, newK_eq]
  have hb := alloc_new w (.cells #[.bool p, .int .i64 n, .string s] 29)
  refine ⟨s, by rw [cell_get hb]; rfl, nput s ⟨rfl, n, by rw [cell_get hb]; rfl, nget n ⟨_, rfl, spl_t (tl_eq rfl) (nleft ⟨_, rfl, spl_t rfl (nout ⟨_, rfl, spl_t (tl_eq rfl) ⟨n, by rw [cell_get hb]; rfl, nset n ⟨_, rfl, spl_t rfl (ntick ⟨_, rfl, spl_f rfl (ntleft ⟨_, rfl, spl_t rfl ?_⟩)⟩)⟩⟩⟩)⟩)⟩⟩⟩
  exact awake_run _ fun w' hm => ⟨_, rfl, rfl, ((Mod.refl [] w).alloc _).trans' hm⟩

theorem once_run (w : World) (n : Int) (_ : (Lit.int .i64 n).wf = true) : CallsR Try.prog F_januslaw04_DeviceOnce #[.int .i64 n] w fun r w' => r = .bool true ∧ Mod [] w w' := by
  apply R_januslaw04_DeviceOnce_ok
  simp only [R_januslaw04_DeviceOnce]
  refine tim_new w fun t w1 ht hm1 htw => ⟨_, rfl, ?_⟩
  simp only [Option.isNone_some, spl_false, spl_bne, spl_decide, spl_beq]
  have fin : ∀ (w' : World), Mod [] w w' → CallsR Try.prog F_januslaw04_awake #[] w' fun v w'' => ∃ r : Bool, v = .bool r ∧ Value.bool r = .bool true ∧ Mod [] w w'' := fun w' h => awake_run _ fun w2 h2 => ⟨true, rfl, rfl, h.trans' h2⟩
  refine tim_set ht n (fun hbad => ⟨_, rfl, fun _ => ⟨fun _ => fin w1 hm1, fun h => ⟨fun _ => fin w1 hm1, fun h' => by omega⟩⟩, fun h => absurd h (by decide)⟩) (fun hn0 hn2 w2 ht2 hm2 => ⟨_, rfl, fun h => absurd rfl h, fun _ => ?_⟩)
  have kt : ∀ {u u' : World}, Mod [] w u → Mod [t] u u' → Mod [] w u' := fun h h' => h.trans h' fun b hb hlt => by simp at hb; omega
  obtain ⟨N, rfl⟩ := nat_of hn0
  rw [w64 (by omega) (by omega)]
  refine ⟨fun m fired at_ i w' => ∃ k : Nat, i = (k : Int) + 1 ∧ k ≤ N + 5 ∧ m = N + 5 - k ∧ TimP w' t ((N - k : Nat) : Int) ∧ (if 0 < N ∧ N ≤ k then fired = 1 ∧ at_ = N else fired = 0 ∧ at_ = 0) ∧ Mod [] w w', ⟨N + 5, 0, by omega, by omega, by omega, by simpa using ht2, by rw [if_neg (by omega)]; simp, kt hm1 hm2⟩, ?_⟩
  rintro m fired at_ i - w3 ⟨k, rfl, hk, rfl, ht3, hf, hm3⟩
  refine ⟨fun hle => ?_, fun hgt => ?_⟩
  · have key : ∀ (f' a' : Int) (w4 : World), TimP w4 t (if ((N - k : Nat) : Int) = 0 then 0 else ((N - k : Nat) : Int) - 1) → Mod [t] w3 w4 → (if 0 < N ∧ N ≤ k + 1 then f' = 1 ∧ a' = N else f' = 0 ∧ a' = 0) →
        ∃ m20, m20 < N + 5 - k ∧ ∃ k' : Nat, IntKind.i64.wrap ((k : Int) + 1 + 1) = (k' : Int) + 1 ∧ k' ≤ N + 5 ∧ m20 = N + 5 - k' ∧ TimP w4 t ((N - k' : Nat) : Int) ∧ (if 0 < N ∧ N ≤ k' then f' = 1 ∧ a' = N else f' = 0 ∧ a' = 0) ∧ Mod [] w w4 := by
      intro f' a' w4 ht4 hm4 hf'
      refine ⟨N + 5 - (k + 1), by omega, k + 1, by rw [w64 (by omega) (by omega)]; omega, by omega, rfl, ?_, hf', kt hm3 hm4⟩
      have e : (if ((N - k : Nat) : Int) = 0 then 0 else ((N - k : Nat) : Int) - 1) = ((N - (k + 1) : Nat) : Int) := by split <;> omega
      rwa [e] at ht4
    refine ⟨fun f' a' w4 => TimP w4 t (if ((N - k : Nat) : Int) = 0 then 0 else ((N - k : Nat) : Int) - 1) ∧ Mod [t] w3 w4 ∧ (if 0 < N ∧ N ≤ k + 1 then f' = 1 ∧ a' = N else f' = 0 ∧ a' = 0), fun f' a' _ w4 ⟨h1, h2, h3⟩ => key f' a' w4 h1 h2 h3, ?_⟩
    refine tim_tick ht3 (by omega) fun w4 ht4 hm4 => ⟨_, rfl, ?_⟩
    rw [spl_decide]
    refine ⟨fun h1 => ⟨ht4, hm4, ?_⟩, fun h1 => ⟨ht4, hm4, ?_⟩⟩
    · rw [if_neg (by omega)] at hf
      rw [if_pos (by omega), hf.1]
      exact ⟨by decide, by omega⟩
    · by_cases h2 : 0 < N ∧ N ≤ k
      · rw [if_pos h2] at hf
        rw [if_pos (by omega)]
        exact hf
      · rw [if_neg h2] at hf
        rw [if_neg (by omega)]
        exact hf
  · by_cases h2 : 0 < N ∧ N ≤ k
    · rw [if_pos h2] at hf
      obtain ⟨rfl, rfl⟩ := hf
      refine ⟨fun _ => ?_, fun h => absurd rfl h⟩
      refine spl_t (by rw [decide_eq_true (by omega)]; rfl) ?_
      exact ⟨fun _ => fin _ hm3, fun h => absurd (by decide) h⟩
    · rw [if_neg h2] at hf
      obtain ⟨rfl, rfl⟩ := hf
      refine ⟨fun _ => ?_, fun h => by omega⟩
      refine spl_t (by rw [decide_eq_false (by omega)]; rfl) ?_
      exact ⟨fun _ => fin _ hm3, fun h => absurd (by decide) h⟩

theorem timers_run (w : World) (a : Option Addr) (l c : Nat) (hl : SlIn w 1 Q_int a l c) : CallsR Try.prog F_januslaw04_DeviceTimers #[.slice a l c] w fun r w' => r = .bool true ∧ Mod [] w w' := by
  apply R_januslaw04_DeviceTimers_ok
  simp only [R_januslaw04_DeviceTimers, newK_eq]
  have fin : ∀ (w' : World), Mod [] w w' → CallsR Try.prog F_januslaw04_awake #[] w' fun v w'' => ∃ r : Bool, v = .bool r ∧ Value.bool r = .bool true ∧ Mod [] w w'' := fun w' h => awake_run _ fun w2 h2 => ⟨true, rfl, rfl, h.trans' h2⟩
  refine tim_new w fun t w1 ht hm1 htw => ⟨_, rfl, ?_⟩
  simp only [Option.isNone_some, spl_false, spl_bne, spl_decide, spl_beq, drK_eq]
  have htl : t < w1.heap.size := ht.elim fun _ h => lt_of_get h
  have hx := alloc_new w1 (.cells #[.int .i64 0] 45)
  have ht0 := ht.keep (w' := w1.alloc (.cells #[.int .i64 0] 45)) (alloc_old _ htl)
  have hle := hl.le
  have hm0 := hm1.alloc (.cells #[.int .i64 0] 45)
  obtain ⟨x, hxe⟩ : ∃ x, x = w1.heap.size := ⟨_, rfl⟩
  rw [← hxe] at hx ⊢
  have hxt : x ≠ t := by omega
  have hxw : w.heap.size ≤ x := hxe ▸ hm1.size
  have k2 : ∀ {u u' : World}, Mod [] w u → Mod [t] u u' → Mod [] w u' := fun h h' => h.trans h' fun b hb hlt => by simp at hb; omega
  have kx : ∀ {u u' : World}, Mod [] w u → Mod [x] u u' → Mod [] w u' := fun h h' => h.trans h' fun b hb hlt => by simp at hb; omega
  refine ⟨fun w' => Mod [] w w', fun _ w' h => fin w' h, fun m i w' => ∃ (k : Nat) (n : Int), i = k ∧ k ≤ l ∧ m = l - k ∧ 0 ≤ n ∧ n ≤ 200 ∧ TimP w' t n ∧ TimP w' x n ∧ Mod [] w w', ⟨l, 0, 0, rfl, by omega, rfl, by omega, by omega, ht0, ⟨_, hx⟩, hm0⟩, ?_⟩
  rintro m i - w2 ⟨k, n, rfl, hk, rfl, hn0, hn2, ht2, hx2, hm2⟩
  refine ⟨fun hlt => ⟨fun hlt2 => ?_, fun _ => hm2⟩, fun _ => hm2⟩
  have hl2 := hl.mod hm2
  obtain ⟨ad, cs, rfl, hadlt, ⟨d, rfl, hd⟩, -, hcell⟩ := hl2.at (i := k) (by omega)
  have e0 : w2.cell? (Addr.add ad k) = some (.int .i64 d) := by have := hcell 0 (by omega); rw [Nat.mul_one] at this; exact this
  have next : ∀ w' n', 0 ≤ n' → n' ≤ 200 → TimP w' t n' → TimP w' x n' → Mod [] w w' → w'.drew.cell? ⟨x, 0, none⟩ = some (.int .i64 n') ∧ CallsR Try.prog F_device_Timer_Left #[.pointer (some ⟨t, 0, none⟩)] w'.drew fun v24 w25 => ∃ r26 : Int, v24 = .int .i64 r26 ∧ keepB [x] w'.drew w25 ∧ (r26 ≠ n' → Value.bool false = .bool true ∧ Mod [] w w25) ∧ (r26 = n' → ∃ m18, m18 < l - k ∧ ∃ (k' : Nat) (n : Int), IntKind.i64.wrap ((k : Int) + 1) = k' ∧ k' ≤ l ∧ m18 = l - k' ∧ 0 ≤ n ∧ n ≤ 200 ∧ TimP w25 t n ∧ TimP w25 x n ∧ Mod [] w w25) := by
    intro w' n' h0 h2 h3 h4 h5
    have h4' := h4
    obtain ⟨T, h4⟩ := h4
    refine ⟨by rw [World.cell?_drew, cell_get h4]; rfl, tim_left (h3.keep (w' := w'.drew) rfl) ⟨_, rfl, fun _ _ => rfl, fun h => absurd rfl h, fun _ => ⟨l - (k + 1), by omega, k + 1, n', by rw [w64 (by omega) (by omega)]; omega, by omega, rfl, h0, h2, h3.keep rfl, h4'.keep rfl, h5.drew⟩⟩⟩
  refine ⟨fun w' => ∃ n', 0 ≤ n' ∧ n' ≤ 200 ∧ TimP w' t n' ∧ TimP w' x n' ∧ Mod [] w w', ?_, ?_⟩
  · rintro - w' ⟨n', h0, h2, h3, h4, h5⟩
    exact ⟨[x], by simp, n', (next w' n' h0 h2 h3 h4 h5).1, (next w' n' h0 h2 h3 h4 h5).2⟩
  · simp only [nilK_some]
    refine ⟨⟨by omega, by omega⟩, d, e0, fun _ => ?_, fun _ => ?_⟩
    · have tlt : t < w2.heap.size := ht2.elim fun _ h => lt_of_get h
      have xlt : x < w2.heap.size := hx2.elim fun _ h => lt_of_get h
      refine tim_tick ht2 ⟨hn0, hn2⟩ fun w3 ht3 hm3 => ⟨_, rfl, tim_rtick (hx2.keep (hm3.keep x xlt (by simpa using hxt))) ⟨hn0, hn2⟩ fun w4 hx4 hm4 => ⟨_, rfl, spl_f (by simp) ⟨_, by split <;> omega, by split <;> omega, ht3.keep (hm4.keep t (Nat.lt_of_lt_of_le tlt hm3.size) (by simpa using Ne.symm hxt)), hx4, kx (k2 hm2 hm3) hm4⟩⟩⟩
    · have tlt : t < w2.heap.size := ht2.elim fun _ h => lt_of_get h
      have xlt : x < w2.heap.size := hx2.elim fun _ h => lt_of_get h
      have hadt : ad.block ≠ t ∧ ad.block ≠ x := by
        have h1 := hl.at (i := k) (by omega)
        obtain ⟨ad', cs', he, hlt', -⟩ := h1
        cases he
        constructor
        · have := htw; omega
        · omega
      refine ⟨[ad.block], ⟨by omega, by omega⟩, by simp [add_block], d, e0, ⟨by omega, by omega⟩, by simp [add_block], d, e0, ?_⟩
      refine tim_set (ht2.keep (w' := w2.drew) rfl) d (fun hbad => ⟨_, rfl, fun _ _ => rfl, tim_rset (hx2.keep (w' := w2.drew) rfl) d (fun _ => ⟨_, rfl, fun _ _ => rfl, fun h => absurd rfl h, fun _ => ⟨n, hn0, hn2, ht2.keep rfl, hx2.keep rfl, hm2.drew⟩⟩) (fun h h' => by omega)⟩) (fun hd0 hd2 w3 ht3 hm3 => ⟨_, rfl, ?_, tim_rset (hx2.keep (w' := w3) (hm3.keep x xlt (by simpa using hxt))) d (fun h => by omega) (fun _ _ w4 hx4 hm4 => ⟨_, rfl, ?_, fun h => absurd rfl h, fun _ => ⟨d, hd0, hd2, ht3.keep (hm4.keep t (Nat.lt_of_lt_of_le tlt hm3.size) (by simpa using Ne.symm hxt)), hx4, kx (k2 hm2.drew hm3) hm4⟩⟩)⟩)
      · intro b hb
        simp only [List.mem_singleton] at hb
        subst hb
        exact hm3.keep _ hadlt (by simpa using hadt.1)
      · intro b hb
        simp only [List.mem_singleton] at hb
        subst hb
        exact (hm4.keep _ (Nat.lt_of_lt_of_le hadlt hm3.size) (by simpa using hadt.2)).trans (hm3.keep _ hadlt (by simpa using hadt.1))

theorem reads_run (w : World) (inp : ByteArray) (hinp : inp.size ≤ maxLen) (a : Option Addr) (l c : Nat) (hl : SlIn w 1 Q_int a l c) : CallsR Try.prog F_januslaw04_DeviceReads #[.string inp, .slice a l c] w fun r w' => r = .bool true ∧ Mod [] w w' := by
  apply R_januslaw04_DeviceReads_ok
  simp only [R_januslaw04_DeviceReads]
  have fin : ∀ (w' : World), Mod [] w w' → CallsR Try.prog F_januslaw04_awake #[] w' fun v w'' => ∃ r : Bool, v = .bool r ∧ Value.bool r = .bool true ∧ Mod [] w w'' := fun w' h => awake_run _ fun w2 h2 => ⟨true, rfl, rfl, h.trans' h2⟩
  have hmax : IntKind.i64.max = 9223372036854775807 := by decide
  have hinp' : inp.size ≤ 9223372036854775807 := hinp
  have hle := hl.le
  refine dev_new _ w fun p F w1 hc1 hm1 hF => ⟨_, rfl, ?_⟩
  simp only [Option.isNone_some, spl_false, spl_decide, spl_beq]
  have kF : ∀ {u u' : World}, Mod [] w u → Mod F u u' → Mod [] w u' := fun h h' => h.trans h' fun b hb hlt => absurd (hF b hb) (by omega)
  refine ⟨fun got w' => ∃ k : Nat, k ≤ inp.size ∧ got = inp.extract 0 k ∧ ConsP w' p (inp.extract k inp.size) (ByteArray.mk #[]) F ∧ Mod [] w w', ?_, fun m got i w' => ∃ j k : Nat, i = j ∧ j ≤ l ∧ m = l - j ∧ k ≤ inp.size ∧ got = inp.extract 0 k ∧ ConsP w' p (inp.extract k inp.size) (ByteArray.mk #[]) F ∧ Mod [] w w', ⟨l, 0, 0, rfl, by omega, rfl, by omega, (ext0 inp).symm, by rw [ext_full]; exact hc1, hm1⟩, ?_⟩
  · rintro got - w2 ⟨k, hk, rfl, hc2, hm2⟩
    refine cons_left hc2 ⟨_, rfl, cons_get hc2 _ fun w3 hc3 hm3 => ⟨_, rfl, ?_⟩⟩
    have ht : takes (inp.extract k inp.size) ((inp.extract k inp.size).size : Int) = inp.size - k := by unfold takes; rw [ext_size]; omega
    rw [ht, ext_rest _ _ _ (by omega)] at hc3
    rw [ht, ext_cat _ _ _ (by omega), show k + (inp.size - k) = inp.size by omega, ext_full]
    rw [show k + (inp.size - k) = inp.size by omega] at hc3
    refine ⟨by simp only [ByteArray.size_extract, hmax]; omega, spl_t (tl_eq rfl) (cons_left hc3 ⟨_, rfl, ?_⟩)⟩
    have hz : (inp.extract inp.size inp.size).size = 0 := by simp
    rw [hz]
    refine ⟨fun _ => cons_get hc3 5 fun w4 hc4 hm4 => ⟨_, rfl, spl_t (tl_eq ?_) (fin w4 (kF (kF hm2 hm3) hm4))⟩, fun h => absurd rfl h⟩
    have : takes (inp.extract inp.size inp.size) 5 = 0 := by unfold takes; rw [hz]; rfl
    rw [this, ext0]
  · rintro m got i - w2 ⟨j, k, rfl, hj, rfl, hk, rfl, hc2, hm2⟩
    refine ⟨fun hlt => ⟨fun hlt2 => ?_, fun _ => ⟨k, hk, rfl, hc2, hm2⟩⟩, fun _ => ⟨k, hk, rfl, hc2, hm2⟩⟩
    obtain ⟨ad, cs, rfl, hadlt, ⟨d, rfl, hd⟩, -, hcell⟩ := (hl.mod hm2).at (i := j) (by omega)
    have e0 : w2.cell? (Addr.add ad j) = some (.int .i64 d) := by have := hcell 0 (by omega); rw [Nat.mul_one] at this; exact this
    refine ⟨⟨by omega, by omega⟩, d, e0, cons_get hc2 d fun w3 hc3 hm3 => ⟨_, rfl, ?_⟩⟩
    have ht := takes_le (inp.extract k inp.size) d
    rw [ext_size] at ht
    rw [ext_rest _ _ _ (by omega)] at hc3
    rw [ext_cat _ _ _ (by omega)]
    refine ⟨by simp only [ByteArray.size_extract, hmax]; omega, l - (j + 1), by omega, j + 1, _, by rw [w64 (by omega) (by omega)]; omega, by omega, rfl, by omega, rfl, hc3, kF hm2 hm3⟩

end Go.Proofs
