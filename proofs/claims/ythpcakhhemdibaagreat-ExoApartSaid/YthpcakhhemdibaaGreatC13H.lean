/-
  exo: what environment 1 sees, whatever the others do: the parts of the walk.
  exo: what environment 1 sees, and what its own calls answer, is the same whatever the others do: the law.
-/
import Derived.Test.YthpcakhhemdibaaGreatC13S
import Derived.Test.YthpcakhhemdibaaGreatL13C
set_option linter.unusedVariables false
set_option linter.unusedSimpArgs false
namespace Go.Proofs
open Go Go.Den

theorem KX.w8d {w : World} {k : Nat} {s : S13} {F : List Nat} (h : KX w k s F) : W8 s.d.c := by
  obtain ⟨A, h1, -⟩ := h
  exact (xd h1).w8
theorem Ap13_W (j : Nat) : Ap13 (W13 j) := by
  have hm : (W13 j).m.c = ⟨[], 0⟩ := rfl
  have hd : (W13 j).d.c = ⟨[], 0⟩ := rfl
  refine ⟨T13_W j, (by rw [hd]; exact W8.nil), (by rw [hd]; intro x hx; cases hx), ?_, ?_, ?_, fun e => rfl⟩
  · have := T12.init (n := 16) (by omega)
    exact this
  · rw [hm]; exact ⟨fun x hx => (by cases hx), fun x hx => (by cases hx)⟩
  · rw [hd]; exact ⟨fun x hx => (by cases hx), fun x hx => (by cases hx)⟩
theorem Ap13.rawK {w : World} {k : Nat} {s : S13} {F : List Nat} (h : Ap13 s) (env : Int) {cs : List Int} (hj : joined13 cs = false) (hk : KX w k (rawS13 s env cs) F) : Ap13 (rawS13 s env cs) := h.raw env hj (KX.w8 hk) (KX.w8d hk) (KX.all hk).2

theorem doV13_le {s : S13} (hT : T12 s.d) (hw : W8 s.d.c) (hq : ∀ e, ∀ x ∈ s.q e, x.2.length ≤ 8) (env n : Int) (w : List Int) : (doV13 s env n w).1.length ≤ 32 := by
  have a1 : ∀ x : Int × Int, (ans1 x).1.length ≤ 32 := fun x => by unfold ans1; split <;> simp
  have aW : ∀ x : Int × Int, (ansW x).1.length ≤ 32 := fun x => by unfold ansW; split <;> simp
  have a0 : ∀ e : Int, (([], e) : List Int × Int).1.length ≤ 32 := fun e => Nat.zero_le _
  unfold doV13
  refine P_ite (P := fun v : List Int × Int => v.1.length ≤ 32) (a1 _) ?_
  refine P_ite (P := fun v : List Int × Int => v.1.length ≤ 32) (a1 _) ?_
  repeat refine P_ite (P := fun v : List Int × Int => v.1.length ≤ 32) (a0 _) ?_
  refine P_ite (P := fun v : List Int × Int => v.1.length ≤ 32) (aW _) ?_
  repeat refine P_ite (P := fun v : List Int × Int => v.1.length ≤ 32) (a0 _) ?_
  refine P_ite (P := fun v : List Int × Int => v.1.length ≤ 32) (aW _) ?_
  repeat refine P_ite (P := fun v : List Int × Int => v.1.length ≤ 32) (a0 _) ?_
  refine P_ite (P := fun v : List Int × Int => v.1.length ≤ 32) ?_ ?_
  · cases hx : s.q env with
    | nil => exact Nat.zero_le _
    | cons x r =>
      have := hq env x (by rw [hx]; simp)
      simp only [List.length_cons]
      omega
  refine P_ite (P := fun v : List Int × Int => v.1.length ≤ 32) (a1 _) ?_
  refine P_ite (P := fun v : List Int × Int => v.1.length ≤ 32) (a1 _) ?_
  repeat refine P_ite (P := fun v : List Int × Int => v.1.length ≤ 32) (a0 _) ?_
  refine P_ite (P := fun v : List Int × Int => v.1.length ≤ 32) (getV12_le hT hw _ _ _) ?_
  exact a0 _
theorem rawV13_le {s : S13} (hT : T12 s.d) (hw : W8 s.d.c) (hq : ∀ e, ∀ x ∈ s.q e, x.2.length ≤ 8) (env : Int) (cs : List Int) : (rawV13 s env cs).1.length ≤ 32 := by
  unfold rawV13
  split
  · exact Nat.zero_le _
  · split
    · exact doV13_le hT hw hq _ _ _
    · exact Nat.zero_le _

/-- An own row among the arguments. -/
theorem own_at {W w : World} {a : Option Addr} {l c : Nat} (hin : SlIn W 1 (Q_Sl_u64 W) a l c) (hm : Mod [] W w) {i : Nat} (hi : i < l) : ∃ ad wa wl wc cs G, a = some ad ∧ w.cell? (Addr.add ad i) = some (.slice wa wl wc) ∧ Rd W wa wl 1 (u64s cs) G ∧ wl ≤ wc ∧ wc ≤ 9223372036854775807 ∧ ∀ x ∈ cs, 0 ≤ x ∧ x < 18446744073709551616 := by
  obtain ⟨ad, vs, rfl, hadlt, ⟨wa, wl, wc, rfl, hw⟩, -, hcell⟩ := hin.at hi
  obtain ⟨cs, G, hr, hcs⟩ := words_in13 hw
  have c0 := hcell 0 (by omega)
  rw [add_zero, Nat.mul_one] at c0
  refine ⟨ad, wa, wl, wc, cs, G, rfl, ?_, hr, hw.le.1, hw.le.2, hcs⟩
  rw [hm.cell (by rw [add_block]; exact hadlt), c0]; rfl

theorem joined_run {w : World} {a : Option Addr} {l c : Nat} {cs : List Int} {G : List Nat} (hr : Rd w a l 1 (u64s cs) G) {K : Value → World → Prop} (hK : K (.bool (joined13 cs)) w) : CallsR Tryz.prog F_januslaw13_joined #[.slice a l c] w K := by
  have hl := hr.u64
  apply R_januslaw13_joined_ok
  simp only [R_januslaw13_joined, spl_decide, spl_beq]
  cases cs with
  | nil => exact ⟨fun h => absurd hl (by simp; omega), fun _ => hK⟩
  | cons n ws =>
    simp only [List.length_cons] at hl
    obtain ⟨ad, x, rfl, hx, hcx, -, -⟩ := hr.u64at (k := 0) (by omega)
    cases hx
    rw [add_zero] at hcx
    simp only [nilK_some]
    refine ⟨fun _ => ⟨⟨by omega, by omega⟩, _, hcx, fun h => ?_, fun h1 => ⟨⟨by omega, by omega⟩, _, hcx, fun h => ?_, fun h2 => ⟨⟨by omega, by omega⟩, _, hcx, ?_⟩⟩⟩, fun h => absurd (show (0 : Int) < (l : Int) by omega) h⟩
    · subst h; exact hK
    · subst h; exact hK
    · have e : joined13 (n :: ws) = (n == 14) := by
        show (n == 1 || n == 11 || n == 14) = (n == 14)
        rw [show (n == 1) = false by simpa using h1, show (n == 11) = false by simpa using h2, Bool.false_or, Bool.false_or]
      rw [e] at hK
      exact hK

/-- A raw call of constant words, the kernel among parts; its answer is not looked at. -/
theorem raw_at {w0 w : World} {k i : Nat} {s : S13} {F : List Nat} {l : List Part} (h : Den.Sep w0 w l) (hi : l[i]? = some (kxPart k s F)) (env : Int) {cs : List Int} {n : Nat} {T : TypeId} (hn : cs.length = n) (hn2 : n ≤ 1000) (hcs : ∀ x ∈ cs, 0 ≤ x ∧ x < 18446744073709551616) {K : World → Prop}
    (hK : ∀ w' F', Den.Sep w0 w' (l.set i (kxPart k (rawS13 s env cs) F')) → K w') :
    newK w (.cells (u64s cs).toArray T) fun b w1 => CallsR Tryz.prog F_exo_Kernel_Raw #[.pointer (some ⟨k, 0, none⟩), .int .i64 env, .slice (some ⟨b, 0, none⟩) n n] w1 fun v w' => ∃ rA : Option Addr, ∃ rL : Nat, ∃ rC : Nat, ∃ e : Int, v = .tuple #[.slice rA rL rC, .int .i64 e] ∧ K w' := by
  rw [newK_eq]
  have hs := SlB.new w (u64s cs) T (l := n) (sz := 1) (by rw [u64s_length, hn, Nat.mul_one])
  have h1 := h.mod0 ((Mod.refl [] w).alloc (.cells (u64s cs).toArray T))
  exact x_raw (h1.nth i hi) env hs.rd (Nat.le_refl _) (by omega) hcs fun w' F' a c G z1 z2 z3 hs' hG hD => ⟨_, _, _, _, rfl, hK w' F' (h1.step i hi (kxPart k (rawS13 s env cs) F') z1 z2 z3)⟩

section
variable {w0 w : World} {PQ PR : Part} {k m : Nat} {s t : S13} {F F2 : List Nat}
/-- Both see alike. -/
theorem sees_both (h : Den.Sep w0 w [PQ, kxPart m t F2, PR, kxPart k s F]) (he : sees13 s 1 = sees13 t 1) {K1 K2 : World → Prop} (hK : ∀ w' F F2, Den.Sep w0 w' [PQ, kxPart m t F2, PR, kxPart k s F] → K1 w') :
    CallsR Tryz.prog F_exo_Kernel_Sees #[.pointer (some ⟨k, 0, none⟩), .int .i64 1] w fun v w2 => ∃ rA : Option Addr, ∃ rL : Nat, ∃ rC : Nat, v = .slice rA rL rC ∧ (CallsR Tryz.prog F_exo_Kernel_Sees #[.pointer (some ⟨m, 0, none⟩), .int .i64 1] w2 fun v w3 => ∃ rA2 : Option Addr, ∃ rL2 : Nat, ∃ rC2 : Nat, v = .slice rA2 rL2 rC2 ∧ (CallsR Tryz.prog F_janusref01_Words #[.slice rA rL rC, .slice rA2 rL2 rC2] w3 fun v w4 => ∃ r : Bool, v = .bool r ∧ (spl r (K1 w4) (K2 w4)))) := by
  refine x_sees (h.nth 3 rfl) 1 fun w1 F1 a1 c1 G1 z1 z2 z3 hs1 hG1 hD1 => ⟨_, _, _, rfl, ?_⟩
  have s1 : Den.Sep w0 w1 [sl a1 (sees13 s 1).length c1 1 (u64s (sees13 s 1)) G1, PQ, kxPart m t F2, PR, kxPart k s F1] := sep_row h 3 rfl (kxPart k s F1) z1 z2 z3 (sl a1 (sees13 s 1).length c1 1 (u64s (sees13 s 1)) G1) hs1 hG1 hD1
  refine x_sees (s1.nth 2 rfl) 1 fun w2 F3 a2 c2 G2 z1 z2 z3 hs2 hG2 hD2 => ⟨_, _, _, rfl, ?_⟩
  have s2 : Den.Sep w0 w2 [sl a1 (sees13 s 1).length c1 1 (u64s (sees13 s 1)) G1, PQ, kxPart m t F3, PR, kxPart k s F1] := s1.step 2 rfl (kxPart m t F3) z1 z2 z3
  have hrow : SlB w2 a1 (sees13 s 1).length c1 1 (u64s (sees13 s 1)) G1 := s2.nth 0 rfl
  exact words_rd hrow.rd hs2.rd (sees_le (s2.nth 4 rfl : KX w2 k s F1) _) fun w3 m3 => ⟨_, rfl, spl_t (by simpa using he) (hK w3 F1 F3 (s2.mod0 m3).pop)⟩
/-- An own call in both. -/
theorem raw_both (h : Den.Sep w0 w [PQ, kxPart m t F2, PR, kxPart k s F]) (hs : Ap13 s) (ht : Ap13 t) (hr : Rl s t) {a : Option Addr} {l c : Nat} {cs : List Int} {G : List Nat} (hw : Rd w0 a l 1 (u64s cs) G) (hlc : l ≤ c) (hc : c ≤ 9223372036854775807) (hcs : ∀ x ∈ cs, 0 ≤ x ∧ x < 18446744073709551616) (hj : skip13 cs = false) {K1 K2 : World → Prop}
    (hK : ∀ w' F F2, Ap13 (rawS13 s 1 cs) → Ap13 (rawS13 t 1 cs) → Rl (rawS13 s 1 cs) (rawS13 t 1 cs) → Den.Sep w0 w' [PQ, kxPart m (rawS13 t 1 cs) F2, PR, kxPart k (rawS13 s 1 cs) F] → K1 w') :
    CallsR Tryz.prog F_exo_Kernel_Raw #[.pointer (some ⟨k, 0, none⟩), .int .i64 1, .slice a l c] w fun v w2 => ∃ rA : Option Addr, ∃ rL : Nat, ∃ rC : Nat, ∃ e : Int, v = .tuple #[.slice rA rL rC, .int .i64 e] ∧ (CallsR Tryz.prog F_exo_Kernel_Raw #[.pointer (some ⟨m, 0, none⟩), .int .i64 1, .slice a l c] w2 fun v w3 => ∃ rA2 : Option Addr, ∃ rL2 : Nat, ∃ rC2 : Nat, ∃ e2 : Int, v = .tuple #[.slice rA2 rL2 rC2, .int .i64 e2] ∧ (CallsR Tryz.prog F_janusref01_Words #[.slice rA rL rC, .slice rA2 rL2 rC2] w3 fun v w4 => ∃ r : Bool, v = .bool r ∧ (spl r (spl (e != e2) (K2 w4) (K1 w4)) (K2 w4)))) := by
  obtain ⟨hr', hv⟩ := own_raw hs ht hr hj
  refine x_raw (h.nth 3 rfl) 1 (hw.keep (h.mod.at0 hw.lt)) hlc hc hcs fun w1 F1 a1 c1 G1 z1 z2 z3 hs1 hG1 hD1 => ⟨_, _, _, _, rfl, ?_⟩
  have s1 : Den.Sep w0 w1 [sl a1 (rawV13 s 1 cs).1.length c1 1 (u64s (rawV13 s 1 cs).1) G1, PQ, kxPart m t F2, PR, kxPart k (rawS13 s 1 cs) F1] := sep_row h 3 rfl (kxPart k (rawS13 s 1 cs) F1) z1 z2 z3 (sl a1 (rawV13 s 1 cs).1.length c1 1 (u64s (rawV13 s 1 cs).1) G1) hs1 hG1 hD1
  refine x_raw (s1.nth 2 rfl) 1 (hw.keep (s1.mod.at0 hw.lt)) hlc hc hcs fun w2 F3 a2 c2 G2 z1 z2 z3 hs2 hG2 hD2 => ⟨_, _, _, _, rfl, ?_⟩
  have s2 : Den.Sep w0 w2 [sl a1 (rawV13 s 1 cs).1.length c1 1 (u64s (rawV13 s 1 cs).1) G1, PQ, kxPart m (rawS13 t 1 cs) F3, PR, kxPart k (rawS13 s 1 cs) F1] := s1.step 2 rfl (kxPart m (rawS13 t 1 cs) F3) z1 z2 z3
  have hrow : SlB w2 a1 (rawV13 s 1 cs).1.length c1 1 (u64s (rawV13 s 1 cs).1) G1 := s2.nth 0 rfl
  have hle := rawV13_le hs.d hs.w2 (fun e x hx => by rw [hs.q] at hx; cases hx) 1 cs
  have hjj := skip_joined hj
  refine words_rd hrow.rd hs2.rd (by omega) fun w3 m3 => ⟨_, rfl, spl_t (by simp [hv]) ?_⟩
  rw [spl_bne]
  exact ⟨fun h => absurd (by rw [hv]) h, fun _ => hK w3 F1 F3 (hs.rawK 1 hjj (s2.nth 4 rfl : KX w2 k (rawS13 s 1 cs) F1)) (ht.rawK 1 hjj (s2.nth 2 rfl : KX w2 m (rawS13 t 1 cs) F3)) hr' (s2.mod0 m3).pop⟩
end

end Go.Proofs

set_option linter.unusedSimpArgs false
namespace Go.Proofs
open Go Go.Den

def AP (w : World) (PQ PR : Part) (k m l2 : Nat) (n : Int) (w' : World) : Prop := ∃ (p : Nat) (s t : S13) (F F2 : List Nat), n = p ∧ p ≤ l2 ∧ Ap13 s ∧ Ap13 t ∧ Rl s t ∧ Den.Sep w w' [PQ, kxPart m t F2, PR, kxPart k s F]

set_option maxRecDepth 100000 in
set_option maxHeartbeats 1000000 in
theorem apart13_run (w : World) (a : Option Addr) (l c : Nat) (hin : SlIn w 1 (Q_Sl_u64 w) a l c) (a2 : Option Addr) (l2 c2 : Nat) (hin2 : SlIn w 2 (Q_januslaw13_Ask w) a2 l2 c2) : CallsR Tryz.prog F_januslaw13_ExoApart #[.slice a l c, .slice a2 l2 c2] w fun v w' => v = .bool true ∧ Mod [] w w' := by
  apply R_januslaw13_ExoApart_ok
  simp only [R_januslaw13_ExoApart]
  have hle1 := hin.le
  have hle2 := hin2.le
  refine worlds13_run w fun w1 k r F G s1 => ⟨_, _, _, rfl, spl_t rfl ?_⟩
  obtain ⟨PR, hPR⟩ : ∃ PR : Part, PR = krxPart r (W13 3) G := ⟨_, rfl⟩
  rw [← hPR] at s1
  refine worlds13_run w1 fun w2 m r2 F2 G2 s2 => ⟨_, _, _, rfl, spl_t rfl ?_⟩
  obtain ⟨PQ, hPQ⟩ : ∃ PQ : Part, PQ = krxPart r2 (W13 3) G2 := ⟨_, rfl⟩
  rw [← hPQ] at s2
  have s3 : Den.Sep w w2 [PQ, kxPart m (W13 3) F2, PR, kxPart k (W13 3) F] := sep_glue s1 s2
  clear hPQ hPR s1 s2
  refine ⟨fun n i w' => ∃ (j : Nat) (s : S13) (F F2 : List Nat), i = j ∧ j ≤ 3 ∧ n = 3 - j ∧ Ap13 s ∧ Den.Sep w w' [PQ, kxPart m s F2, PR, kxPart k s F], ⟨3, 0, W13 3, F, F2, rfl, by omega, by omega, Ap13_W 3, s3⟩, ?_⟩
  clear s3 F F2
  rintro n i - w4 ⟨j, s, F, F2, rfl, hj, rfl, hA, s4⟩
  rw [spl_decide]
  refine ⟨fun hlt => ?_, fun hge => ?_⟩
  · refine raw_at (cs := [0]) (n := 1) (i := 3) s4 rfl 1 rfl (by omega) (by decide) fun w5 F5 s5 => ?_
    have s5 : Den.Sep w w5 [PQ, kxPart m s F2, PR, kxPart k (rawS13 s 1 [0]) F5] := s5
    refine raw_at (cs := [0]) (n := 1) (i := 1) s5 rfl 1 rfl (by omega) (by decide) fun w6 F6 s6 => ?_
    have s6 : Den.Sep w w6 [PQ, kxPart m (rawS13 s 1 [0]) F6, PR, kxPart k (rawS13 s 1 [0]) F5] := s6
    exact ⟨3 - (j + 1), by omega, j + 1, rawS13 s 1 [0], F5, F6, by rw [w64 (by omega) (by omega)]; omega, by omega, rfl, hA.rawK 1 rfl (s6.nth 1 rfl : KX w6 m (rawS13 s 1 [0]) F6), s6⟩
  refine raw_at (cs := [13, 2, 2]) (n := 3) (i := 3) s4 rfl 1 rfl (by omega) (by decide) fun w5 F5 s5 => ?_
  have s5 : Den.Sep w w5 [PQ, kxPart m s F2, PR, kxPart k (rawS13 s 1 [13, 2, 2]) F5] := s5
  refine raw_at (cs := [13, 2, 2]) (n := 3) (i := 1) s5 rfl 1 rfl (by omega) (by decide) fun w6 F6 s6 => ?_
  have s6 : Den.Sep w w6 [PQ, kxPart m (rawS13 s 1 [13, 2, 2]) F6, PR, kxPart k (rawS13 s 1 [13, 2, 2]) F5] := s6
  have hA6 : Ap13 (rawS13 s 1 [13, 2, 2]) := hA.rawK 1 rfl (s6.nth 1 rfl : KX w6 m (rawS13 s 1 [13, 2, 2]) F6)
  generalize rawS13 s 1 [13, 2, 2] = s0 at s6 hA6
  clear s5 s4 hA hge hj
  refine ⟨fun w' => ∃ n, AP w PQ PR k m l2 n w', ?_, ?_⟩
  · rintro - w7 ⟨_, p, s, t, F, F2, -, -, hs, ht, hr, s7⟩
    refine sees_both s7 (sees_eq hs ht hr) fun w8 F F2 s8 => ?_
    exact awake13_run w8 fun w9 m9 => ⟨_, rfl, rfl, s8.mod.trans' m9⟩
  refine ⟨fun n q i w' => ∃ j : Nat, i = j ∧ j ≤ l ∧ n = l - j ∧ AP w PQ PR k m l2 q w', ⟨l, 0, rfl, by omega, by omega, 0, s0, s0, F5, F6, rfl, by omega, hA6, hA6, Rl.refl s0, s6⟩, ?_⟩
  clear s6 hA6
  rintro n q i - w7 ⟨j, rfl, hj, rfl, h7⟩
  rw [spl_decide]
  refine ⟨fun hlt => ?_, fun _ => ⟨_, h7⟩⟩
  rw [spl_decide]
  refine ⟨fun h60 => ?_, fun _ => ⟨_, h7⟩⟩
  have next : ∀ q w', AP w PQ PR k m l2 q w' → ∃ m77, m77 < l - j ∧ ∃ j' : Nat, IntKind.i64.wrap ((j : Int) + 1) = j' ∧ j' ≤ l ∧ m77 = l - j' ∧ AP w PQ PR k m l2 q w' := fun q w' h => ⟨l - (j + 1), by omega, j + 1, by rw [w64 (by omega) (by omega)]; omega, by omega, rfl, h⟩
  refine ⟨fun q w' => AP w PQ PR k m l2 q w', fun q _ w' h => next q w' h, ?_⟩
  clear next
  refine ⟨fun q w' => AP w PQ PR k m l2 q w', ?_, ?_⟩
  · rintro q - w8 h8
    have h8' := h8
    obtain ⟨p, s, t, F, F2, rfl, hp, hs, ht, hr, s8⟩ := h8
    obtain ⟨ad, wa, wl, wc, cs, Gc, rfl, c0, hrd0, hle, hwc, hcs⟩ := own_at hin s8.mod (i := j) (by omega)
    have hrd := hrd0.keep (s8.mod.at0 hrd0.lt)
    simp only [nilK_some, Int.toNat_natCast]
    refine ⟨⟨by omega, by omega⟩, _, _, _, c0, joined_run hrd ⟨_, rfl, ?_⟩⟩
    refine spl_of (fun _ => h8') (fun hjn => ?_)
    rw [spl_beq]
    refine ⟨fun _ => h8', fun hne => ?_⟩
    have hwl := hrd.u64
    cases cs with
    | nil => exact absurd hwl (by simp; omega)
    | cons n ws =>
    simp only [List.length_cons] at hwl
    obtain ⟨ad2, x, rfl, hx, hcx, -, hbl⟩ := hrd.u64at (k := 0) (by omega)
    cases hx
    rw [add_zero] at hcx
    simp only [nilK_some]
    refine ⟨⟨by omega, by omega⟩, _, hcx, ?_⟩
    rw [spl_beq]
    refine ⟨fun _ => h8', fun n0 => ⟨⟨by omega, by omega⟩, _, hcx, ?_⟩⟩
    rw [spl_beq]
    refine ⟨fun _ => h8', fun n12 => ⟨⟨by omega, by omega⟩, _, hcx, ?_⟩⟩
    rw [spl_beq]
    refine ⟨fun _ => h8', fun n13 => ?_⟩
    have hsk : skip13 (n :: ws) = false := by
      have : joined13 (n :: ws) = false := hjn
      simp only [joined13, Bool.or_eq_false_iff, beq_eq_false_iff_ne] at this
      simp only [skip13, Bool.or_eq_false_iff, beq_eq_false_iff_ne]
      exact ⟨⟨⟨this, n0⟩, n12⟩, n13⟩
    refine raw_both s8 hs ht hr hrd0 hle hwc hcs hsk fun w9 F9 F10 hs9 ht9 hr9 s9 => ?_
    exact sees_both s9 (sees_eq hs9 ht9 hr9) fun w10 F11 F12 s10 => ⟨p, _, _, F11, F12, rfl, hp, hs9, ht9, hr9, s10⟩
  refine ⟨fun n q i w' => ∃ j : Nat, i = j ∧ j ≤ 2 ∧ n = 2 - j ∧ AP w PQ PR k m l2 q w', ⟨2, 0, rfl, by omega, by omega, h7⟩, ?_⟩
  clear h7
  rintro n q i - w8 ⟨j2, rfl, hj2, rfl, h8⟩
  have h8' := h8
  rw [spl_decide]
  refine ⟨fun hlt2 => ?_, fun _ => h8'⟩
  rw [spl_decide]
  obtain ⟨p, s, t, F, F2, rfl, hp, hs, ht, hr, s8⟩ := h8
  refine ⟨fun hlt3 => ?_, fun _ => h8'⟩
  refine ⟨fun q w' => AP w PQ PR k m l2 q w', fun q _ w' h => ⟨2 - (j2 + 1), by omega, j2 + 1, by rw [w64 (by omega) (by omega)]; omega, by omega, rfl, h⟩, ?_⟩
  obtain ⟨ad, e, wa, wl, wc, cs, Gc, rfl, c0, c1, hrd, hle, hwc, hcs⟩ := ask_at hin2 s8.mod (i := p) (by omega)
  simp only [nilK_some, Int.toNat_natCast]
  have hnx : IntKind.i64.wrap ((p : Int) + 1) = ((p + 1 : Nat) : Int) := by rw [w64 (by omega) (by omega)]; omega
  refine ⟨⟨by omega, by omega⟩, _, _, _, _, ⟨c0, c1⟩, ?_⟩
  refine s8.new fun b w9 s9 m9 hb => s9.st0 0 rfl rfl fun w10 s10 m10 => ⟨_, s10.cell 0 rfl rfl, ?_⟩
  have out : ∀ w', Den.Sep w w' [PQ, kxPart m t F2, PR, kxPart k s F] → AP w PQ PR k m l2 (IntKind.i64.wrap ((p : Int) + 1)) w' := fun w' h => ⟨p + 1, s, t, F, F2, hnx, by omega, hs, ht, hr, h⟩
  rw [spl_bne]
  refine ⟨fun hne => ⟨_, _, _, s10.cell 0 rfl rfl, ?_⟩, fun _ => out w10 s10.pop⟩
  have hrd10 := (hrd.mod0 m9).mod m10 (by
    intro x hx h
    simp only [List.mem_singleton] at h
    subst h
    have := hrd.lt _ hx
    omega)
  refine joined_run hrd10 ⟨_, rfl, spl_of (fun _ => out w10 s10.pop) fun hjn => ⟨_, s10.cell 0 rfl rfl, _, _, _, s10.cell 0 rfl rfl, ?_⟩⟩
  refine x_raw (s10.nth 2 rfl) e hrd10 hle hwc hcs fun w11 F11 a11 c11 G11 z1 z2 z3 _ _ _ => ⟨_, _, _, _, rfl, ?_⟩
  have s11 := (s10.step 2 rfl (kxPart m (rawS13 t e cs) F11) z1 z2 z3).pop
  exact ⟨p + 1, s, rawS13 t e cs, F, F11, hnx, by omega, hs, ht.rawK e hjn z1, hr.trans (other_raw ht hne hjn), s11⟩

end Go.Proofs
