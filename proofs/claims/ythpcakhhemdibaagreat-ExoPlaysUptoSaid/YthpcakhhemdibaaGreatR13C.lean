/-
  exo: the reference's kernel: its parts change; a call's form; an answer of one word.
  exo: the reference: a call that has its form, on frames, or Send.
  exo: the reference: a call that has its form: Recv, and those on extents.
  exo: the reference: a raw call.
-/
import Derived.Test.YthpcakhhemdibaaGreatR13A
import Derived.Test.YthpcakhhemdibaaGreatL13F
set_option linter.unusedVariables false
set_option linter.unusedSimpArgs false
namespace Go.Proofs
open Go Go.Den

/-- The reference's kernel, of which at most 'n' messages wait. -/
def KRY (w : World) (r : Nat) (s : S13) (F : List Nat) (n : Nat) : Prop := ∃ A, Prts w (rxparts r A s) ∧ s.q = V11.projQ A.L ∧ A.L.length ≤ n ∧ F = PF (rxparts r A s)
theorem KRY.lt {w : World} {r : Nat} {s : S13} {F : List Nat} {n : Nat} (h : KRY w r s F n) : ∀ b ∈ F, b < w.heap.size := by
  obtain ⟨A, h1, -, -, rfl⟩ := h; exact h1.lt
theorem KRY.keep {w w' : World} {r : Nat} {s : S13} {F : List Nat} {n : Nat} (h : KRY w r s F n) (hk : ∀ b ∈ F, w'.heap[b]? = w.heap[b]?) : KRY w' r s F n := by
  obtain ⟨A, h1, h2, h3, rfl⟩ := h; exact ⟨A, h1.keep hk, h2, h3, rfl⟩
theorem KRY.mono {w : World} {r : Nat} {s : S13} {F : List Nat} {n m : Nat} (h : KRY w r s F n) (hn : n ≤ m) : KRY w r s F m := by
  obtain ⟨A, h1, h2, h3, h4⟩ := h; exact ⟨A, h1, h2, by omega, h4⟩
def kryPart (r : Nat) (s : S13) (F : List Nat) (n : Nat) : Part := ⟨F, fun w => KRY w r s F n, fun h k => h.keep k, fun h => h.lt⟩
theorem projQ_empty {L : List V11.RMsg} (h : ∀ e, V11.projQ L e = []) : L = [] := by
  cases L with
  | nil => rfl
  | cons x L =>
    have := h x.2.1
    simp [V11.projQ] at this
theorem KRX.y {w : World} {r : Nat} {s : S13} {F : List Nat} (h : KRX w r s F) (hq : ∀ e, s.q e = []) : KRY w r s F 0 := by
  obtain ⟨A, h1, h2, h3⟩ := h
  refine ⟨A, h1, h2, ?_, h3⟩
  have h4 : A.L = [] := projQ_empty fun e => by rw [← h2]; exact hq e
  rw [h4]
  exact Nat.le_refl _

section
variable {w w' : World} {r n : Nat} {A : RX13} {s : S13}
theorem ry_m (h : Prts w (rxparts r A s)) (hq : s.q = V11.projQ A.L) (hl : A.L.length ≤ n) {m' : S9} {F' : List Nat} (hp : KR w' A.pm m' F') (hm : Mod A.Fm w w') (ho : Own w A.Fm F') : ∃ F2, KRY w' r { s with m := m' } F2 n ∧ Mod (PF (rxparts r A s)) w w' ∧ Own w (PF (rxparts r A s)) F2 := by
  have := h.step 1 rfl (krPart A.pm m' F') hp hm ho
  exact ⟨_, ⟨{ A with Fm := F' }, this.1, hq, hl, rfl⟩, this.2.1, this.2.2⟩
theorem ry_d (h : Prts w (rxparts r A s)) (hq : s.q = V11.projQ A.L) (hl : A.L.length ≤ n) {d' : S12} {F' : List Nat} (hp : KR12 w' A.pd d' F') (hm : Mod A.Fd w w') (ho : Own w A.Fd F') : ∃ F2, KRY w' r { s with d := d' } F2 n ∧ Mod (PF (rxparts r A s)) w w' ∧ Own w (PF (rxparts r A s)) F2 := by
  have := h.step 2 rfl (krPart12 A.pd d' F') hp hm ho
  exact ⟨_, ⟨{ A with Fd := F' }, this.1, hq, hl, rfl⟩, this.2.1, this.2.2⟩
theorem ry_q (h : Prts w (rxparts r A s)) {L' : List V11.RMsg} (hl : L'.length ≤ n) {F' : List Nat} (hp : IpoP w' r { A with L := L', Fq := F' }) (hm : Mod (r :: A.Fq) w w') (ho : Own w (r :: A.Fq) (r :: F')) : ∃ F2, KRY w' r { s with q := V11.projQ L' } F2 n ∧ Mod (PF (rxparts r A s)) w w' ∧ Own w (PF (rxparts r A s)) F2 := by
  have := h.step 0 rfl (ipoPart r { A with L := L', Fq := F' }) hp hm ho
  exact ⟨_, ⟨{ A with L := L', Fq := F' }, this.1, rfl, hl, rfl⟩, this.2.1, this.2.2⟩
theorem kr_caps {p : Nat} {s : S9} {F : List Nat} (h : KR w p s F) : ∃ pc Fc, w.cell? ⟨p, 1, none⟩ = some (.pointer (some ⟨pc, 0, none⟩)) ∧ CR w pc s.c Fc ∧ ∀ {w' : World} {c' : S8} {Fc' : List Nat}, CR w' pc c' Fc' → Mod Fc w w' → Own w Fc Fc' → ∃ F', KR w' p { s with c := c' } F' ∧ Mod F w w' ∧ Own w F F' := by
  obtain ⟨hT, A, h1, hR, rfl⟩ := h
  refine ⟨A.pc, A.Fc, rc1 h1 hR, rcr h1, fun {w' c' Fc'} hp hm ho => ?_⟩
  obtain ⟨h2, m2, o2⟩ := r_cap h1 hp hm ho
  exact ⟨_, ⟨hT, _, h2, ⟨hR.size, hR.m, hR.c, hR.t⟩, rfl⟩, m2, o2⟩
end

theorem shape_run (n : Int) {w : World} {K : Value → World → Prop} (h0 : form13 n = none → K (.tuple #[.int .i64 (-1), .int .i64 (-1), .int .i64 0]) w) (h1 : ∀ f : Nat × Nat × Nat, form13 n = some f → K (.tuple #[.int .i64 ((f.1 : Nat) : Int), .int .i64 ((f.2.1 : Nat) : Int), .int .i64 ((f.2.2 : Nat) : Int)]) w) : CallsR Tryz.prog F_janusref13_shape #[.int .u64 n] w K := by
  apply R_janusref13_shape_ok
  simp only [R_janusref13_shape, spl_beq]
  refine ⟨fun h => (by subst h; exact h1 _ rfl), fun e0 => ⟨fun h => (by subst h; exact h1 _ rfl), fun e12 => ⟨fun h => (by subst h; exact h1 _ rfl), fun e1 => ⟨fun h => (by subst h; exact h1 _ rfl), fun e4 => ⟨fun h => (by subst h; exact h1 _ rfl), fun e14 => ⟨fun h => (by subst h; exact h1 _ rfl), fun e2 => ⟨fun h => (by subst h; exact h1 _ rfl), fun e3 => ⟨fun h => (by subst h; exact h1 _ rfl), fun e5 => ⟨fun h => (by subst h; exact h1 _ rfl), fun e15 => ⟨fun h => (by subst h; exact h1 _ rfl), fun e6 => ⟨fun h => (by subst h; exact h1 _ rfl), fun e7 => ⟨fun h => (by subst h; exact h1 _ rfl), fun e8 => ⟨fun h => (by subst h; exact h1 _ rfl), fun e9 => ⟨fun h => (by subst h; exact h1 _ rfl), fun e13 => ⟨fun h => (by subst h; exact h1 _ rfl), fun e16 => ⟨fun h => (by subst h; exact h1 _ rfl), fun e10 => ⟨fun h => (by subst h; exact h1 _ rfl), fun e11 => ⟨fun h => (by subst h; exact h1 _ rfl), fun e17 => ?_⟩⟩⟩⟩⟩⟩⟩⟩⟩⟩⟩⟩⟩⟩⟩⟩⟩⟩
  refine h0 ?_
  unfold form13
  rw [if_neg (by omega), if_neg (by omega), if_neg (by omega), if_neg (by omega), if_neg (by omega), if_neg (by omega), if_neg (by omega), if_neg (by omega), if_neg (by omega)]

theorem word_run (x : Int × Int) {w : World} {K : Value → World → Prop} (hK : ∀ w' a c G, Rd w' a (ans1 x).1.length 1 (u64s (ans1 x).1) G → (ans1 x).1.length ≤ c → Mod [] w w' → K (.tuple #[.slice a (ans1 x).1.length c, .int .i64 (ans1 x).2]) w') : CallsR Tryz.prog F_janusref13_word #[.int .i64 x.1, .int .i64 x.2] w K := by
  apply R_janusref13_word_ok
  simp only [R_janusref13_word, spl_bne, newK_eq]
  refine ⟨fun hne => ?_, fun heq => ?_⟩
  · have e : ans1 x = ([], x.2) := if_neg hne
    rw [e] at hK
    exact hK w none 0 [] (Rd.nil _ _ _) (Nat.le_refl _) (Mod.refl _ _)
  · have e : ans1 x = ([IntKind.u64.wrap x.1], 0) := if_pos heq
    rw [e] at hK
    exact hK _ _ 1 _ (SlB.new w (u64s [IntKind.u64.wrap x.1]) 42 (l := 1) (sz := 1) rfl).rd (Nat.le_refl _) ((Mod.refl [] w).alloc _)
theorem ansW_out (x : Int × Int) {w : World} {K : Value → World → Prop} (hK : ∀ w' a c G, Rd w' a (ansW x).1.length 1 (u64s (ansW x).1) G → (ansW x).1.length ≤ c → Mod [] w w' → K (.tuple #[.slice a (ansW x).1.length c, .int .i64 (ansW x).2]) w') : spl (x.2 != 0) (K (.tuple #[.slice none 0 0, .int .i64 x.2]) w) (newK w (.cells #[.int .u64 x.1] 42) fun b w' => K (.tuple #[.slice (some ⟨b, 0, none⟩) 1 1, .int .i64 0]) w') := by
  rw [spl_bne, newK_eq]
  refine ⟨fun hne => ?_, fun heq => ?_⟩
  · have e : ansW x = ([], x.2) := if_neg hne
    rw [e] at hK
    exact hK w none 0 [] (Rd.nil _ _ _) (Nat.le_refl _) (Mod.refl _ _)
  · have e : ansW x = ([x.1], 0) := if_pos heq
    rw [e] at hK
    exact hK _ _ 1 _ (SlB.new w (u64s [x.1]) 42 (l := 1) (sz := 1) rfl).rd (Nat.le_refl _) ((Mod.refl [] w).alloc _)

/-- What a call of the reference leaves: the state, and an answer. -/
def ROut (w : World) (r : Nat) (F : List Nat) (s' : S13) (n : Nat) (v : List Int × Int) (K : Value → World → Prop) : Prop :=
  ∀ (w' : World) (F' : List Nat) (a : Option Addr) (c : Nat) (G : List Nat), KRY w' r s' F' n → Mod F w w' → Own w F F' → Rd w' a v.1.length 1 (u64s v.1) G → v.1.length ≤ c → K (.tuple #[.slice a v.1.length c, .int .i64 v.2]) w'

end Go.Proofs

set_option linter.unusedSimpArgs false
namespace Go.Proofs
open Go Go.Den

section
variable {w : World} {r n0 : Nat} {s : S13} {F : List Nat}

set_option maxRecDepth 100000 in
set_option maxHeartbeats 1000000 in
theorem r_first (h : KRY w r s F n0) (hS : Small s.m.c) (hn0 : n0 ≤ 1000) (env n a0 a1 a2 : Int) (hn : n < 12) {a : Option Addr} {l c : Nat} {ws : List Int} {G : List Nat} (hw : Rd w a l 1 (u64s ws) G) (hlc : l ≤ c) (hc : c ≤ 9223372036854775807) (hws : ∀ x ∈ ws, 0 ≤ x ∧ x < 18446744073709551616) {f : Nat × Nat × Nat} (hf : form13 n = some f) (hlow : f.1 ≤ l)
    (ha0 : 1 ≤ f.2.2 → a0 = w13 ws 0) (ha1 : 2 ≤ f.2.2 → a1 = w13 ws 1) (ha2 : 3 ≤ f.2.2 → a2 = w13 ws 2) {K : Value → World → Prop} (hK : ROut w r F (doS13 s env n ws) (n0 + 1) (doV13 s env n ws) K) :
    CallsR Tryz.prog F_janusref13_Kernel_first #[.pointer (some ⟨r, 0, none⟩), .int .i64 env, .int .u64 n, .agg #[.int .i64 a0, .int .i64 a1, .int .i64 a2], .slice a l c] w K := by
  obtain ⟨A, h0, hq, hl, rfl⟩ := h
  have hwl := hw.u64
  apply R_janusref13_Kernel_first_ok
  simp only [R_janusref13_Kernel_first, spl_beq, nilK_some, addr_add, Nat.zero_add]
  refine (Den.Sep.nil (Den.Mod.refl [] w)).new fun b w1 s1 m1 hb => ?_
  have h1 := h0.mod0 m1
  have s2 := s1.mod0 ((Mod.refl [] w1).drew)
  have m2 := s2.mod
  have h2 := h0.mod0 m2
  have hw2 := hw.keep (m2.at0 hw.lt)
  have hlen1 : A.L.length ≤ n0 + 1 := by omega
  have wc : ∀ {w' : World} (i : Nat), Mod [] w w' → i < l → ∃ ad, a = some ad ∧ w'.cell? (Addr.add ad i) = some (.int .u64 (w13 ws i)) := fun {w'} i hm hi => by
    obtain ⟨ad, x, e1, hx, hcx, -, hbl⟩ := hw.u64at hi
    refine ⟨ad, e1, ?_⟩
    rw [hm.cell (by rw [add_block]; exact hbl), hcx]
    unfold w13
    rw [hx]
    rfl
  have out : ∀ {w3 w4 : World} {F4 : List Nat} {s' : S13} {v : List Int × Int} {a' : Option Addr} {c' : Nat} {G' : List Nat}, doS13 s env n ws = s' → doV13 s env n ws = v → KRY w3 r s' F4 (n0 + 1) → Mod (PF (rxparts r A s)) w w3 → Own w (PF (rxparts r A s)) F4 → Rd w4 a' v.1.length 1 (u64s v.1) G' → v.1.length ≤ c' → Mod [] w3 w4 → K (.tuple #[.slice a' v.1.length c', .int .i64 v.2]) w4 := fun {w3 w4 F4 s' v a' c' G'} e1 e2 z1 z2 z3 hs hG m => by
    subst e1 e2
    exact hK w4 F4 a' c' G' (z1.keep (m.at0 z1.lt)) (z2.trans' m.of0) z3 hs hG
  have out0 : ∀ {w3 : World} {F4 : List Nat} {s' : S13} {e : Int}, doS13 s env n ws = s' → doV13 s env n ws = ([], e) → KRY w3 r s' F4 (n0 + 1) → Mod (PF (rxparts r A s)) w w3 → Own w (PF (rxparts r A s)) F4 → K (.tuple #[.slice none 0 0, .int .i64 e]) w3 := fun {w3 F4 s' e} e1 e2 z1 z2 z3 => by
    have := out (a' := none) (c' := 0) (G' := []) e1 e2 z1 z2 z3 (Rd.nil w3 none 1) (Nat.le_refl _) (Mod.refl _ _)
    exact this
  have own : ∀ {w' : World} {F4 : List Nat}, Mod [] w w' → Own w' (PF (rxparts r A s)) F4 → Own w (PF (rxparts r A s)) F4 := fun hm ho x hx => (ho x hx).imp id fun h => Nat.le_trans hm.size h
  refine ⟨fun e0 => ?_, fun e0 => ⟨fun e1 => ?_, fun e1 => ⟨fun e2 => ?_, fun e2 => ⟨fun e3 => ?_, fun e3 => ⟨fun e4 => ?_, fun e4 => ⟨fun e5 => ?_, fun e5 => ⟨fun e6 => ?_, fun e6 => ⟨fun e7 => ?_, fun e7 => ⟨fun e8 => ?_, fun e8 => ⟨fun e9 => ?_, fun e9 => ⟨fun e10 => ?_, fun e10 => ?_⟩⟩⟩⟩⟩⟩⟩⟩⟩⟩⟩
  · subst e0
    refine ⟨_, (rxc h1).1, kr_alloc (rxm h1) hS env fun w3 F3 g3 m3 o3 => ⟨_, _, rfl, ?_⟩⟩
    obtain ⟨F4, z1, z2, z3⟩ := ry_m h1 hq hlen1 g3 m3 o3
    exact word_run _ fun w4 a4 c4 G4 hs4 hG4 m4 => ⟨_, _, _, _, rfl, out (by simp [doS13]) (by simp [doV13]) z1 (m1.of0.trans' z2) (own m1 z3) hs4 hG4 m4⟩
  · subst e1
    obtain rfl : f = (3, 3, 3) := by simpa [form13] using hf.symm
    rw [drK_eq]
    obtain ⟨pc, Fc, c1, hcr, hup⟩ := kr_caps (rxm h2)
    refine ⟨[r, A.pm, b], by simp, _, (rxc h2).1, ?_⟩
    simp only [nilK_some, addr_add, Nat.zero_add]
    refine ⟨by simp, _, c1, ⟨by omega, by omega⟩, by simp, _, s2.cell 0 rfl rfl, ⟨by omega, by omega⟩, by simp, _, s2.cell 0 rfl rfl, ⟨by omega, by omega⟩, by simp, _, s2.cell 0 rfl rfl, ?_⟩
    refine give8_run hcr (by have := hS.1; omega) (by have := hS.2; omega) env a0 a1 a2 fun w3 F3 g3 m3 o3 => ⟨_, _, rfl, ?_⟩
    obtain ⟨F5, y1, y2, y3⟩ := hup g3 m3 o3
    obtain ⟨F4, z1, z2, z3⟩ := ry_m h2 hq hlen1 y1 y2 y3
    exact word_run _ fun w4 a4 c4 G4 hs4 hG4 m4 => ⟨_, _, _, _, rfl, out (by simp [doS13, ha0, ha1, ha2, grantS]) (by simp [doV13, ha0, ha1, ha2]) z1 (m2.of0.trans' z2) (own m2 z3) hs4 hG4 m4⟩
  · subst e2
    obtain rfl : f = (1, 1, 1) := by simpa [form13] using hf.symm
    rw [drK_eq]
    refine ⟨_, (rxc h2).1, ⟨by omega, by omega⟩, _, s2.cell 0 rfl rfl, ?_⟩
    refine kr_free (rxm h2) hS env a0 fun w3 F3 g3 m3 o3 => ⟨_, rfl, ?_⟩
    obtain ⟨F4, z1, z2, z3⟩ := ry_m h2 hq hlen1 g3 m3 o3
    exact out0 (by simp [doS13, ha0]) (by simp [doV13, ha0]) z1 (m2.of0.trans' z2) (own m2 z3)
  · subst e3
    obtain rfl : f = (1, 1, 1) := by simpa [form13] using hf.symm
    rw [drK_eq]
    refine ⟨_, (rxc h2).1, ⟨by omega, by omega⟩, _, s2.cell 0 rfl rfl, ?_⟩
    refine kr_revoke (rxm h2) hS env a0 fun w3 F3 g3 m3 o3 => ⟨_, rfl, ?_⟩
    obtain ⟨F4, z1, z2, z3⟩ := ry_m h2 hq hlen1 g3 m3 o3
    exact out0 (by simp [doS13, ha0]) (by simp [doV13, ha0]) z1 (m2.of0.trans' z2) (own m2 z3)
  · subst e4
    obtain rfl : f = (3, 3, 3) := by simpa [form13] using hf.symm
    rw [drK_eq]
    refine ⟨_, (rxc h2).1, ⟨by omega, by omega⟩, _, s2.cell 0 rfl rfl, ⟨by omega, by omega⟩, _, s2.cell 0 rfl rfl, ⟨by omega, by omega⟩, _, s2.cell 0 rfl rfl, ?_⟩
    refine kr_map (rxm h2) hS env a0 a1 (decide (a2 = 1)) fun w3 g3 m3 => ⟨_, rfl, ?_⟩
    obtain ⟨F4, z1, z2, z3⟩ := ry_m h2 hq hlen1 g3 m3 (Own.refl _ _)
    exact out0 (by simp [doS13, ha0, ha1, ha2]) (by simp [doV13, ha0, ha1, ha2]) z1 (m2.of0.trans' z2) (own m2 z3)
  · subst e5
    obtain rfl : f = (1, 1, 1) := by simpa [form13] using hf.symm
    rw [drK_eq]
    refine ⟨_, (rxc h2).1, ⟨by omega, by omega⟩, _, s2.cell 0 rfl rfl, ?_⟩
    refine kr_unmap (rxm h2) env a0 fun w3 g3 m3 => ⟨_, rfl, ?_⟩
    obtain ⟨F4, z1, z2, z3⟩ := ry_m h2 hq hlen1 g3 m3 (Own.refl _ _)
    exact out0 (by simp [doS13, ha0]) (by simp [doV13, ha0]) z1 (m2.of0.trans' z2) (own m2 z3)
  · subst e6
    obtain rfl : f = (1, 1, 0) := by simpa [form13] using hf.symm
    rw [drK_eq]
    obtain ⟨ad, rfl, w0⟩ := wc 0 m2 (by simp at hlow; omega)
    rw [add_zero] at w0
    have hx0 := hws (w13 ws 0) (by unfold w13; rw [List.getElem?_eq_getElem (by simp at hlow; omega)]; exact List.getElem_mem _)
    simp only [nilK_some]
    refine ⟨[r, ad.block], by simp, _, (rxc h2).1, ⟨by omega, by simp at hlow; omega⟩, by simp, _, w0, ?_⟩
    refine kr_load (rxm h2) env hx0.1 fun w3 m3 => ⟨_, _, rfl, ?_⟩
    exact ansW_out _ fun w4 a4 c4 G4 hs4 hG4 m4 => out (F4 := PF (rxparts r A s)) (by simp [doS13]) (by simp [doV13]) ⟨A, h2.mod0 m3, hq, hlen1, rfl⟩ (m2.trans' m3).of0 (Own.refl _ _) hs4 hG4 m4
  · subst e7
    obtain rfl : f = (2, 2, 0) := by simpa [form13] using hf.symm
    rw [drK_eq]
    obtain ⟨ad, rfl, w0⟩ := wc 0 m2 (by simp at hlow; omega)
    obtain ⟨ad', e9, w1'⟩ := wc 1 m2 (by simp at hlow; omega)
    cases e9
    rw [add_zero] at w0
    have hx0 := hws (w13 ws 0) (by unfold w13; rw [List.getElem?_eq_getElem (by simp at hlow; omega)]; exact List.getElem_mem _)
    simp only [nilK_some]
    refine ⟨_, (rxc h2).1, ⟨by omega, by simp at hlow; omega⟩, _, w0, ⟨by omega, by simp at hlow; omega⟩, _, w1', ?_⟩
    refine kr_store (rxm h2) env hx0.1 _ fun w3 g3 m3 => ⟨_, rfl, ?_⟩
    obtain ⟨F4, z1, z2, z3⟩ := ry_m h2 hq hlen1 g3 m3 (Own.refl _ _)
    exact out0 (by simp [doS13]) (by simp [doV13]) z1 (m2.of0.trans' z2) (own m2 z3)
  · subst e8
    obtain rfl : f = (2, 2, 2) := by simpa [form13] using hf.symm
    rw [drK_eq]
    refine ⟨_, (rxc h2).1, ⟨by omega, by omega⟩, _, s2.cell 0 rfl rfl, ⟨by omega, by omega⟩, _, s2.cell 0 rfl rfl, ?_⟩
    refine kr_copy (rxm h2) hS env a0 a1 fun w3 g3 m3 => ⟨_, rfl, ?_⟩
    obtain ⟨F4, z1, z2, z3⟩ := ry_m h2 hq hlen1 g3 m3 (Own.refl _ _)
    exact out0 (by simp [doS13, ha0, ha1]) (by simp [doV13, ha0, ha1]) z1 (m2.of0.trans' z2) (own m2 z3)
  · subst e9
    obtain rfl : f = (2, 2, 2) := by simpa [form13] using hf.symm
    rw [drK_eq]
    refine ⟨[r, b], by simp, _, (rxc h2).1, ⟨by omega, by omega⟩, by simp, _, s2.cell 0 rfl rfl, ⟨by omega, by omega⟩, by simp, _, s2.cell 0 rfl rfl, ?_⟩
    refine kr_read (rxm h2) hS env a0 a1 fun w3 m3 => ⟨_, _, rfl, ?_⟩
    exact ansW_out _ fun w4 a4 c4 G4 hs4 hG4 m4 => out (F4 := PF (rxparts r A s)) (by simp [doS13]) (by simp [doV13, ha0, ha1]) ⟨A, h2.mod0 m3, hq, hlen1, rfl⟩ (m2.trans' m3).of0 (Own.refl _ _) hs4 hG4 m4
  · subst e10
    obtain rfl : f = (3, 3, 2) := by simpa [form13] using hf.symm
    rw [drK_eq]
    obtain ⟨ad, rfl, w2'⟩ := wc 2 m2 (by simp at hlow; omega)
    simp only [nilK_some]
    refine ⟨_, (rxc h2).1, ⟨by omega, by omega⟩, _, s2.cell 0 rfl rfl, ⟨by omega, by omega⟩, _, s2.cell 0 rfl rfl, ⟨by omega, by simp at hlow; omega⟩, _, w2', ?_⟩
    refine kr_write (rxm h2) hS env a0 a1 _ fun w3 g3 m3 => ⟨_, rfl, ?_⟩
    obtain ⟨F4, z1, z2, z3⟩ := ry_m h2 hq hlen1 g3 m3 (Own.refl _ _)
    exact out0 (by simp [doS13, ha0, ha1]) (by simp [doV13, ha0, ha1]) z1 (m2.of0.trans' z2) (own m2 z3)
  · have e11 : n = 11 := by
      unfold form13 at hf
      rw [if_neg (by omega), if_neg (by omega), if_neg (by omega), if_neg (by omega), if_neg (by omega), if_neg (by omega), if_neg (by omega)] at hf
      split at hf
      · assumption
      · rw [if_neg (by omega)] at hf; cases hf
    subst e11
    obtain rfl : f = (1, 9, 1) := by simpa [form13] using hf.symm
    rw [drK_eq]
    refine ⟨⟨by omega, by omega⟩, _, s2.cell 0 rfl rfl, ?_⟩
    refine slK_rd hw2 hlc (L := 1) (H := l) (.inl rfl) (.inr ⟨rfl, rfl⟩) hlow (Nat.le_refl _) fun a3 G3 hr3 hG3 => ?_
    rw [u64s_drop hwl] at hr3
    obtain ⟨arr, T, hI, i0, i1, i2⟩ := rxp h2
    refine V11.ipcr_send hI (by omega) env a0 hr3 fun w3 arr' F3 hv g3 m3 o3 => ⟨_, rfl, ?_⟩
    have hip : IpoP w3 r { A with L := V11.rsend A.L env a0 (ws.drop 1), Fq := F3 } := by
      obtain ⟨v, hv | hv⟩ := hv
      · subst hv; exact ⟨_, T, g3, i0, i1, i2⟩
      · subst hv
        exact ⟨_, T, g3, by rw [Array.getElem?_setIfInBounds_ne (by omega)]; exact i0, by rw [Array.getElem?_setIfInBounds_ne (by omega)]; exact i1, by rw [Array.getElem?_setIfInBounds_ne (by omega)]; exact i2⟩
    have hrl : (V11.rsend A.L env a0 (ws.drop 1)).length ≤ n0 + 1 := by
      unfold V11.rsend
      split
      · simp only [List.length_append, List.length_cons, List.length_nil]; omega
      · omega
    obtain ⟨F4, z1, z2, z3⟩ := ry_q h2 hrl hip m3 (fun x hx => by
      rcases List.mem_cons.1 hx with rfl | hx
      · exact .inl (by simp)
      · exact (o3 x hx).imp (fun h => by simp [h]) id)
    rw [V11.projQ_send, ← hq] at z1
    refine out0 (by simp [doS13, ha0]) (by simp [doV13, ha0, hq]) z1 (m2.of0.trans' z2) (own m2 z3)
end

end Go.Proofs

set_option linter.unusedSimpArgs false
namespace Go.Proofs
open Go Go.Den

def Q8 (s : S13) : Prop := ∀ e, ∀ x ∈ s.q e, x.2.length ≤ 8

section
variable {w : World} {r n0 : Nat} {s : S13} {F : List Nat}

set_option maxRecDepth 100000 in
set_option maxHeartbeats 1000000 in
theorem r_second (h : KRY w r s F n0) (hS : Small12 s.d.c) (hn0 : n0 ≤ 1000) (h8 : Q8 s) (env n a0 a1 a2 : Int) (hn : 12 ≤ n) {a : Option Addr} {l c : Nat} {ws : List Int} {G : List Nat} (hw : Rd w a l 1 (u64s ws) G) (hGF : ∀ x ∈ G, x ∉ F) (hlc : l ≤ c) (hc : c ≤ 9223372036854775807) (hb1 : a1 ≤ 9223372036854775807) {f : Nat × Nat × Nat} (hf : form13 n = some f) (hlow : f.1 ≤ l)
    (ha0 : 1 ≤ f.2.2 → a0 = w13 ws 0) (ha1 : 2 ≤ f.2.2 → a1 = w13 ws 1) (ha2 : 3 ≤ f.2.2 → a2 = w13 ws 2) {K : Value → World → Prop} (hK : ROut w r F (doS13 s env n ws) (n0 + 1) (doV13 s env n ws) K) :
    CallsR Tryz.prog F_janusref13_Kernel_second #[.pointer (some ⟨r, 0, none⟩), .int .i64 env, .int .u64 n, .agg #[.int .i64 a0, .int .i64 a1, .int .i64 a2], .slice a l c] w K := by
  obtain ⟨A, h0, hq, hl, rfl⟩ := h
  have hwl := hw.u64
  apply R_janusref13_Kernel_second_ok
  simp only [R_janusref13_Kernel_second, spl_beq, nilK_some, addr_add, Nat.zero_add]
  refine (Den.Sep.nil (Den.Mod.refl [] w)).new fun b w1 s1 m1 hb => ?_
  have h1 := h0.mod0 m1
  have s2 := s1.mod0 ((Mod.refl [] w1).drew)
  have m2 := s2.mod
  have h2 := h0.mod0 m2
  have hw2 := hw.keep (m2.at0 hw.lt)
  have hlen1 : A.L.length ≤ n0 + 1 := by omega
  have out : ∀ {w3 w4 : World} {F4 : List Nat} {s' : S13} {v : List Int × Int} {a' : Option Addr} {c' : Nat} {G' : List Nat}, doS13 s env n ws = s' → doV13 s env n ws = v → KRY w3 r s' F4 (n0 + 1) → Mod (PF (rxparts r A s)) w w3 → Own w (PF (rxparts r A s)) F4 → Rd w4 a' v.1.length 1 (u64s v.1) G' → v.1.length ≤ c' → Mod [] w3 w4 → K (.tuple #[.slice a' v.1.length c', .int .i64 v.2]) w4 := fun {w3 w4 F4 s' v a' c' G'} e1 e2 z1 z2 z3 hs hG m => by
    subst e1 e2
    exact hK w4 F4 a' c' G' (z1.keep (m.at0 z1.lt)) (z2.trans' m.of0) z3 hs hG
  have out0 : ∀ {w3 : World} {F4 : List Nat} {s' : S13} {e : Int}, doS13 s env n ws = s' → doV13 s env n ws = ([], e) → KRY w3 r s' F4 (n0 + 1) → Mod (PF (rxparts r A s)) w w3 → Own w (PF (rxparts r A s)) F4 → K (.tuple #[.slice none 0 0, .int .i64 e]) w3 := fun {w3 F4 s' e} e1 e2 z1 z2 z3 => by
    have := out (a' := none) (c' := 0) (G' := []) e1 e2 z1 z2 z3 (Rd.nil w3 none 1) (Nat.le_refl _) (Mod.refl _ _)
    exact this
  have own : ∀ {w' : World} {F4 : List Nat}, Mod [] w w' → Own w' (PF (rxparts r A s)) F4 → Own w (PF (rxparts r A s)) F4 := fun hm ho x hx => (ho x hx).imp id fun h => Nat.le_trans hm.size h
  refine ⟨fun e12 => ?_, fun e12 => ⟨fun e13 => ?_, fun e13 => ⟨fun e14 => ?_, fun e14 => ⟨fun e15 => ?_, fun e15 => ⟨fun e16 => ?_, fun e16 => ?_⟩⟩⟩⟩⟩
  · subst e12
    obtain ⟨arr, T, hI, i0, i1, i2⟩ := rxp h1
    refine V11.ipcr_recv hI (by omega) env (fun he => ⟨_, _, _, _, _, rfl, ?_⟩) (fun B x C w3 arr' F3 wa wl wc H hL hx hB hv g3 m3 o3 hr3 hle => ⟨_, _, _, _, _, rfl, ?_⟩)
    · rw [spl_false]
      rw [← hq] at he
      refine out0 (F4 := PF (rxparts r A s)) (s' := s) ?_ (by simp [doV13, he]) ⟨A, h1, hq, hlen1, rfl⟩ m1.of0 (Own.refl _ _)
      have e9 : V11.qput s.q env (s.q env).tail = s.q := by rw [he, List.tail_nil, ← he, V11.qput_self]
      simp [doS13, e9]
    · rw [spl_true]
      have hip : IpoP w3 r { A with L := B ++ C, Fq := F3 } := by
        obtain ⟨v, hv⟩ := hv
        subst hv
        exact ⟨_, T, g3, by rw [Array.getElem?_setIfInBounds_ne (by omega)]; exact i0, by rw [Array.getElem?_setIfInBounds_ne (by omega)]; exact i1, by rw [Array.getElem?_setIfInBounds_ne (by omega)]; exact i2⟩
      have hrl : (B ++ C).length ≤ n0 + 1 := by
        have := congrArg List.length hL
        simp only [List.length_append, List.length_cons] at this ⊢
        omega
      obtain ⟨F4, z1, z2, z3⟩ := ry_q h1 hrl hip m3 (fun y hy => by
        rcases List.mem_cons.1 hy with rfl | hy
        · exact .inl (by simp)
        · exact (o3 y hy).imp (fun h => by simp [h]) id)
      obtain ⟨p1, p2⟩ := V11.projQ_mid B C x (fun y hy => by rw [hx]; exact hB y hy)
      rw [← hL, hx, ← hq] at p1 p2
      have hq2 : V11.qput s.q env ((s.q env).drop 1) = V11.projQ (B ++ C) := by rw [p2, p1]; rfl
      have hx8 := h8 env (x.1, x.2.2) (by rw [p1]; simp)
      rw [newK_eq]
      have hnew := SlB.new w3 (u64s [IntKind.u64.wrap x.1]) 42 (l := 1) (sz := 1) rfl
      have m4 := (Mod.refl [] w3).alloc (.cells (u64s [IntKind.u64.wrap x.1]).toArray 42)
      have hxl := hr3.u64
      dsimp only at hx8
      refine push_rd_K (w0 := w3) slT_u64 (by decide) hnew (by intro y hy; simp only [List.mem_singleton] at hy; omega) m4 (hr3.keep (m4.at0 hr3.lt)) (u64s_cell _) (by omega) (by omega) fun a5 c5 w5 G5 hs5 hG5 m5 _ _ => ⟨_, _, _, rfl, ?_⟩
      rw [← u64s_append] at hs5
      have eV : doV13 s env 12 ws = (IntKind.u64.wrap x.1 :: x.2.2, 0) := by simp [doV13, p1]
      have eS : doS13 s env 12 ws = { s with q := V11.projQ (B ++ C) } := by rw [← hq2]; simp [doS13]
      have hl5 : 1 + wl = (IntKind.u64.wrap x.1 :: x.2.2, (0 : Int)).1.length := by simp; omega
      rw [hl5] at hs5 ⊢
      exact out eS eV z1 (m1.of0.trans' z2) (own m1 z3) hs5.rd hs5.le m5
  · subst e13
    obtain rfl : f = (2, 2, 2) := by simpa [form13] using hf.symm
    rw [drK_eq]
    refine ⟨[r, b], by simp, _, (rxc h2).2.1, ⟨by omega, by omega⟩, by simp, _, s2.cell 0 rfl rfl, ⟨by omega, by omega⟩, by simp, _, s2.cell 0 rfl rfl, ?_⟩
    refine kr12_alloc (rxd h2) hS env a0 a1 fun w3 F3 g3 m3 o3 => ⟨_, _, rfl, ?_⟩
    obtain ⟨F4, z1, z2, z3⟩ := ry_d h2 hq hlen1 g3 m3 o3
    exact word_run _ fun w4 a4 c4 G4 hs4 hG4 m4 => ⟨_, _, _, _, rfl, out (by simp [doS13, ha0, ha1]) (by simp [doV13, ha0, ha1]) z1 (m2.of0.trans' z2) (own m2 z3) hs4 hG4 m4⟩
  · subst e14
    obtain rfl : f = (3, 3, 3) := by simpa [form13] using hf.symm
    rw [drK_eq]
    have hT := (rxd h2).t
    obtain ⟨pc, Fc, c1, hcr, hup⟩ := kr12_caps (rxd h2)
    refine ⟨[r, A.pd, b], by simp, _, (rxc h2).2.1, ?_⟩
    simp only [nilK_some, addr_add, Nat.zero_add]
    refine ⟨by simp, _, c1, ⟨by omega, by omega⟩, by simp, _, s2.cell 0 rfl rfl, ⟨by omega, by omega⟩, by simp, _, s2.cell 0 rfl rfl, ⟨by omega, by omega⟩, by simp, _, s2.cell 0 rfl rfl, ?_⟩
    refine give8_run hcr (by have := hS.1; omega) (by have := hS.2; omega) env a0 a1 a2 fun w3 F3 g3 m3 o3 => ⟨_, _, rfl, ?_⟩
    obtain ⟨F5, y1, y2, y3⟩ := hup (hT.grant env a0 a1 a2) g3 m3 o3
    obtain ⟨F4, z1, z2, z3⟩ := ry_d h2 hq hlen1 y1 y2 y3
    exact word_run _ fun w4 a4 c4 G4 hs4 hG4 m4 => ⟨_, _, _, _, rfl, out (by simp [doS13, ha0, ha1, ha2, grantS12]) (by simp [doV13, ha0, ha1, ha2]) z1 (m2.of0.trans' z2) (own m2 z3) hs4 hG4 m4⟩
  · subst e15
    obtain rfl : f = (1, 1, 1) := by simpa [form13] using hf.symm
    rw [drK_eq]
    have hT := (rxd h2).t
    obtain ⟨pc, Fc, c1, hcr, hup⟩ := kr12_caps (rxd h2)
    refine ⟨[r, A.pd, b], by simp, _, (rxc h2).2.1, ?_⟩
    simp only [nilK_some, addr_add, Nat.zero_add]
    refine ⟨by simp, _, c1, ⟨by omega, by omega⟩, by simp, _, s2.cell 0 rfl rfl, ?_⟩
    refine revoke8_run hcr (by have := hS.1; omega) env a0 fun w3 F3 g3 m3 o3 => ⟨_, _, rfl, ?_⟩
    obtain ⟨F5, y1, y2, y3⟩ := hup (hT.rev env a0) g3 m3 o3
    obtain ⟨F4, z1, z2, z3⟩ := ry_d h2 hq hlen1 y1 y2 y3
    exact out0 (by simp [doS13, ha0, revS12]) (by simp [doV13, ha0]) z1 (m2.of0.trans' z2) (own m2 z3)
  · subst e16
    obtain rfl : f = (2, 2, 2) := by simpa [form13] using hf.symm
    rw [drK_eq]
    refine ⟨[r, b], by simp, _, (rxc h2).2.1, ⟨by omega, by omega⟩, by simp, _, s2.cell 0 rfl rfl, ⟨by omega, by omega⟩, by simp, _, s2.cell 0 rfl rfl, ?_⟩
    refine kr12_get (rxd h2) hS env a0 a1 hb1 fun w3 F3 a3 c3 G3 g3 m3 o3 hs3 => ⟨_, _, _, _, rfl, ?_⟩
    obtain ⟨F4, z1, z2, z3⟩ := ry_d h2 hq hlen1 g3 m3 o3
    exact out (by simp [doS13, ha0, ha1]) (by simp [doV13, ha0, ha1]) z1 (m2.of0.trans' z2) (own m2 z3) hs3.rd hs3.le (Mod.refl _ _)
  · have e17 : n = 17 := by
      unfold form13 at hf
      rw [if_neg (by omega), if_neg (by omega), if_neg (by omega), if_neg (by omega), if_neg (by omega), if_neg (by omega), if_neg (by omega), if_neg (by omega)] at hf
      split at hf
      · assumption
      · cases hf
    subst e17
    obtain rfl : f = (34, 34, 2) := by simpa [form13] using hf.symm
    rw [drK_eq]
    refine ⟨_, (rxc h2).2.1, ⟨by omega, by omega⟩, _, s2.cell 0 rfl rfl, ⟨by omega, by omega⟩, _, s2.cell 0 rfl rfl, ?_⟩
    refine slK_rd hw2 hlc (L := 2) (H := l) (.inl rfl) (.inr ⟨rfl, rfl⟩) (by simp at hlow; omega) (Nat.le_refl _) fun a3 G3 hr3 hG3 => ?_
    rw [u64s_drop hwl] at hr3
    refine kr12_put (rxd h2) hS env a0 a1 hb1 hr3 (fun x hx hx2 => hGF x (hG3 x hx) (mem_PF.2 ⟨2, _, rfl, hx2⟩)) fun w3 F3 g3 m3 o3 => ⟨_, rfl, ?_⟩
    obtain ⟨F4, z1, z2, z3⟩ := ry_d h2 hq hlen1 g3 m3 o3
    exact out0 (by simp [doS13, ha0, ha1]) (by simp [doV13, ha0, ha1]) z1 (m2.of0.trans' z2) (own m2 z3)
end

end Go.Proofs

set_option linter.unusedSimpArgs false
namespace Go.Proofs
open Go Go.Den

section
variable {w : World} {r n0 : Nat} {s : S13} {F : List Nat}

set_option maxRecDepth 100000 in
set_option maxHeartbeats 1000000 in
theorem r_raw (h : KRY w r s F n0) (hSm : Small s.m.c) (hSd : Small12 s.d.c) (hn0 : n0 ≤ 1000) (h8 : Q8 s) (env : Int) {a : Option Addr} {l c : Nat} {cs : List Int} {G : List Nat} (hw : Rd w a l 1 (u64s cs) G) (hGF : ∀ x ∈ G, x ∉ F) (hlc : l ≤ c) (hc : c ≤ 9223372036854775807) (hcs : ∀ x ∈ cs, 0 ≤ x ∧ x < 18446744073709551616) {K : Value → World → Prop} (hK : ROut w r F (rawS13 s env cs) (n0 + 1) (rawV13 s env cs) K) :
    CallsR Tryz.prog F_janusref13_Kernel_Raw #[.pointer (some ⟨r, 0, none⟩), .int .i64 env, .slice a l c] w K := by
  have hwl := hw.u64
  apply R_janusref13_Kernel_Raw_ok
  simp only [R_janusref13_Kernel_Raw, spl_false, nilK_some, addr_add, Nat.zero_add, spl_beq, spl_decide]
  obtain ⟨A, h1, hq, hl0, rfl⟩ := h
  have hlen1 : A.L.length ≤ n0 + 1 := by omega
  have bad : ∀ {w' : World}, Mod [] w w' → rawV13 s env cs = ([], 101) ∧ rawS13 s env cs = s → K (.tuple #[.slice none 0 0, .int .i64 101]) w' := fun {w'} hm ⟨e1, e2⟩ => by
    have := hK w' (PF (rxparts r A s)) none 0 [] (by rw [e2]; exact ⟨A, h1.mod0 hm, hq, hlen1, rfl⟩) hm.of0 (Own.refl _ _) (by rw [e1]; exact Rd.nil w' none 1) (by rw [e1]; exact Nat.le_refl _)
    rw [e1] at this
    exact this
  refine ⟨_, (rxc h1).2.2, V10.ris_run (rxe h1) env ⟨_, rfl, ?_⟩⟩
  rw [spl_decide]
  refine ⟨fun hin => ?_, fun hno => bad (Mod.refl _ _) (by
    cases cs with
    | nil => exact ⟨rfl, rfl⟩
    | cons n ws => exact raw_bad fun h => hno h.1)⟩
  refine ⟨fun hl => bad (Mod.refl _ _) (by
    have : cs = [] := List.eq_nil_of_length_eq_zero (by omega)
    subst this
    exact ⟨rfl, rfl⟩), fun hl => ?_⟩
  cases cs with
  | nil => simp at hwl; omega
  | cons n ws =>
  have hlen : ws.length = l - 1 := by simp at hwl; omega
  obtain ⟨ad, x, e1, hx, hcx, -, hbl⟩ := hw.u64at (k := 0) (by omega)
  subst e1
  cases hx
  rw [add_zero] at hcx
  simp only [nilK_some]
  refine ⟨⟨by omega, by omega⟩, _, hcx, ?_⟩
  refine shape_run n (fun hform => ⟨_, _, _, rfl, ?_⟩) (fun f hform => ⟨_, _, _, rfl, ?_⟩)
  · refine slK_rd hw hlc (L := 1) (H := l) (.inl rfl) (.inr ⟨rfl, rfl⟩) (by omega) (Nat.le_refl _) fun a4 G4 hr4 hG4 => ?_
    exact ⟨fun _ => bad (Mod.refl _ _) (raw_bad fun h => by have := h.2; unfold good13 at this; rw [hform] at this; cases this), fun h => absurd (show (-1 : Int) < 0 by decide) h⟩
  refine slK_rd hw hlc (L := 1) (H := l) (.inl rfl) (.inr ⟨rfl, rfl⟩) (by omega) (Nat.le_refl _) fun a4 G4 hr4 hG4 => ?_
  rw [u64s_drop hwl] at hr4
  have hr4 : Rd w a4 (l - 1) 1 (u64s ws) G4 := hr4
  obtain ⟨hpl1, hpl2⟩ := form_pl hform
  refine ⟨fun h => absurd h (by omega), fun _ => ⟨fun hlo => bad (Mod.refl _ _) (raw_bad fun h => by have := ((good_iff hform).1 h.2).1; omega), fun hlo => ⟨fun hhi => bad (Mod.refl _ _) (raw_bad fun h => by have := ((good_iff hform).1 h.2).2.1; omega), fun hhi => ?_⟩⟩⟩
  refine (Den.Sep.nil (Mod.refl [] w)).new fun b27 w5 s5 m5 hb27 => ?_
  have wat : ∀ {w' : World} (i : Nat), Mod [] w w' → i < l - 1 → ∃ ad, a4 = some ad ∧ w'.cell? (Addr.add ad i) = some (.int .u64 (w13 ws i)) := fun {w'} i hm hi => by
    obtain ⟨ad, x, e1, hx, hcx, -, hbl⟩ := hr4.u64at hi
    refine ⟨ad, e1, ?_⟩
    rw [hm.cell (by rw [add_block]; exact hbl), hcx]
    unfold w13
    rw [hx]
    rfl
  have wrange : ∀ i, i < ws.length → 0 ≤ w13 ws i ∧ w13 ws i < 18446744073709551616 := fun i hi => by
    have hg : ws[i]? = some ws[i] := List.getElem?_eq_getElem hi
    unfold w13
    rw [hg]
    exact hcs _ (by simp)
  refine ⟨fun m t w' => ∃ j : Nat, t = j ∧ j ≤ f.2.2 ∧ m = f.2.2 - j ∧ (∀ i, i < j → w13 ws i < 2147483648) ∧ Den.Sep w w' [blk b27 (aj13 ws j)], ⟨f.2.2, 0, rfl, by omega, by omega, fun i hi => by omega, s5⟩, ?_⟩
  rintro m t - w6 ⟨j, rfl, hj, rfl, hsm, s6⟩
  refine ⟨fun hlt => ?_, fun hge => ?_⟩
  · have hjl : j < l - 1 := by omega
    obtain ⟨ad4, rfl, hcw⟩ := wat j s6.mod hjl
    simp only [nilK_some, Int.toNat_natCast]
    have hwr := wrange j (by omega)
    refine ⟨⟨by omega, by omega⟩, _, hcw, fun hbig => bad s6.mod (raw_bad fun h => ?_), fun hbig => ⟨⟨by omega, by omega⟩, _, hcw, ⟨by omega, by omega⟩, ?_⟩⟩
    · have h3 := ((good_iff hform).1 h.2).2.2.1 (w13 ws j) (by
        have hg : ws[j]? = some ws[j] := List.getElem?_eq_getElem (by omega)
        refine List.mem_of_getElem? (i := j) ?_
        rw [List.getElem?_take, if_pos (by omega), hg]
        unfold w13
        rw [hg]
        rfl)
      omega
    · rw [w64 (by omega) (by omega)]
      have hj3 : j < 3 := by omega
      refine s6.st 0 rfl (by simp; omega) fun w7 s7 m7 => ⟨f.2.2 - (j + 1), by omega, j + 1, by rw [w64 (by omega) (by omega)]; omega, by omega, rfl, fun i hi => ?_, ?_⟩
      · rcases Nat.lt_or_ge i j with h | h
        · exact hsm i h
        · obtain rfl : i = j := by omega
          omega
      · have e : (Obj.cells (splice #[Value.int .i64 (arg13 ws j 0), .int .i64 (arg13 ws j 1), .int .i64 (arg13 ws j 2)] j [.int .i64 (w13 ws j)]) 87 (0, 0)) = aj13 ws (j + 1) := by
          simp only [splice_cons, splice_nil]
          unfold aj13
          rcases j with _ | _ | _ | j
          · simp [arg13]
          · simp [arg13]
          · simp [arg13]
          · omega
        rw [← e]
        exact s7
  obtain rfl : j = f.2.2 := by omega
  have hcn : ∀ {w' : World}, Mod [] w w' → w'.cell? ad = some (.int .u64 n) := fun hm => by rw [hm.cell hbl]; exact hcx
  have hnr := hcs n (by simp)
  refine ⟨⟨by omega, by omega⟩, _, hcn s6.mod, ?_⟩
  refine ⟨fun w' => ask13 s n ws f.2.2 = true ∧ Den.Sep w w' [blk b27 (aj13 ws f.2.2)], ?_, ?_⟩
  · rintro - w7 ⟨hok, s7⟩
    have hgood : good13 s env n ws = true := (good_iff hform).2 ⟨by omega, by omega, fun x hx => by
      obtain ⟨i, hi⟩ := List.getElem?_of_mem hx
      have hil := (List.getElem?_eq_some_iff.1 hi).1
      rw [List.length_take] at hil
      rw [List.getElem?_take, if_pos (by omega)] at hi
      have := hsm i (by omega)
      unfold w13 at this
      rw [hi] at this
      exact this, hok⟩
    obtain ⟨eV, eS⟩ := raw_good (s := s) ⟨hin, hgood⟩
    rw [eV, eS] at hK
    have hk7 : KRY w7 r s (PF (rxparts r A s)) n0 := ⟨A, h1.mod0 s7.mod, hq, hl0, rfl⟩
    have out : ∀ K' : Value → World → Prop, (∀ (a : Option Addr) (l c : Nat) (e : Int) (w' : World), K (.tuple #[.slice a l c, .int .i64 e]) w' → K' (.tuple #[.slice a l c, .int .i64 e]) w') → ROut w7 r (PF (rxparts r A s)) (doS13 s env n ws) (n0 + 1) (doV13 s env n ws) K' := fun K' hK' w9 F9 a9 c9 G9 z1 z2 z3 hr9 hc9 => hK' _ _ _ _ _ (hK w9 F9 a9 c9 G9 z1 (s7.mod.of0.trans' z2) (fun x hx => (z3 x hx).imp id fun h => Nat.le_trans s7.mod.size h) hr9 hc9)
    have hr7 := hr4.keep (s7.mod.at0 hr4.lt)
    refine ⟨fun h12 => ⟨_, _, _, ⟨s7.cell 0 rfl rfl, s7.cell 0 rfl rfl, s7.cell 0 rfl rfl⟩, ?_⟩, fun h12 => ⟨_, _, _, ⟨s7.cell 0 rfl rfl, s7.cell 0 rfl rfl, s7.cell 0 rfl rfl⟩, ?_⟩⟩
    · refine r_second hk7 hSd hn0 h8 env n _ _ _ (by omega) hr7 (fun x hx => hGF x (hG4 x hx)) (by omega) (by omega) ?_ hform (by omega) (fun h => if_pos (by omega)) (fun h => if_pos (by omega)) (fun h => if_pos (by omega)) (out _ fun _ _ _ _ _ h => ⟨_, _, _, _, rfl, h⟩)
      split
      · rename_i hlt1
        have := hsm 1 hlt1
        omega
      · decide
    · exact r_first hk7 hSm hn0 env n _ _ _ (by omega) hr7 (by omega) (by omega) (fun x hx => hcs x (by simp [hx])) hform (by omega) (fun h => if_pos (by omega)) (fun h => if_pos (by omega)) (fun h => if_pos (by omega)) (out _ fun _ _ _ _ _ h => ⟨_, _, _, _, rfl, h⟩)
  rw [drK_eq]
  have s7 := s6.mod0 ((Mod.refl [] w6).drew)
  have hk7 := h1.mod0 s7.mod
  generalize w6.drew = w8 at s7 hk7 ⊢
  have nope : ask13 s n ws f.2.2 = false → K (.tuple #[.slice none 0 0, .int .i64 101]) w8 := fun h => bad s7.mod (raw_bad fun hg => by
    have := ((good_iff hform).1 hg.2).2.2.2
    rw [h] at this
    cases this)
  refine ⟨[r, b27], fun hn1 => ⟨by simp, _, (rxc hk7).2.2, ⟨by omega, by omega⟩, by simp, _, s7.cell 0 rfl rfl, V10.ris_run (rxe hk7) _ ⟨_, rfl, ?_⟩⟩, fun hn1 => ⟨fun hn14 => ⟨by simp, _, (rxc hk7).2.2, ⟨by omega, by omega⟩, by simp, _, s7.cell 0 rfl rfl, V10.ris_run (rxe hk7) _ ⟨_, rfl, ?_⟩⟩, fun hn14 => ⟨fun hn11 => ⟨by simp, _, (rxc hk7).2.2, ⟨by omega, by omega⟩, by simp, _, s7.cell 0 rfl rfl, V10.ris_run (rxe hk7) _ ⟨_, rfl, ?_⟩⟩, fun hn11 => ⟨fun hn4 => ⟨⟨by omega, by omega⟩, by simp, _, s7.cell 0 rfl rfl, fun hgt => nope ?_, fun hle => ⟨?_, s7⟩⟩, fun hn4 => ⟨?_, s7⟩⟩⟩⟩⟩
  · have e : ask13 s n ws f.2.2 = decide (arg13 ws f.2.2 1 ∈ s.e) := if_pos (.inl hn1)
    rw [spl_decide]
    exact ⟨fun hin1 => ⟨fun _ _ => rfl, fun h => absurd h (by omega), fun _ => ⟨fun h => absurd h (by omega), fun _ => ⟨by rw [e]; exact decide_eq_true hin1, s7⟩⟩⟩, fun hno1 => ⟨fun _ _ => rfl, nope (by rw [e]; exact decide_eq_false hno1)⟩⟩
  · have e : ask13 s n ws f.2.2 = decide (arg13 ws f.2.2 1 ∈ s.e) := if_pos (.inr hn14)
    rw [spl_decide]
    exact ⟨fun hin1 => ⟨fun _ _ => rfl, fun h => absurd h (by omega), fun _ => ⟨fun h => absurd h (by omega), fun _ => ⟨by rw [e]; exact decide_eq_true hin1, s7⟩⟩⟩, fun hno1 => ⟨fun _ _ => rfl, nope (by rw [e]; exact decide_eq_false hno1)⟩⟩
  · have e : ask13 s n ws f.2.2 = decide (arg13 ws f.2.2 0 ∈ s.e) := by unfold ask13; rw [if_neg (by omega), if_neg (by omega), if_pos hn11]
    rw [spl_decide]
    exact ⟨fun hin1 => ⟨fun _ _ => rfl, fun h => absurd h (by omega), fun _ => ⟨by rw [e]; exact decide_eq_true hin1, s7⟩⟩, fun hno1 => ⟨fun _ _ => rfl, nope (by rw [e]; exact decide_eq_false hno1)⟩⟩
  · unfold ask13
    rw [if_neg (by omega), if_pos hn4]
    exact decide_eq_false (by omega)
  · unfold ask13
    rw [if_neg (by omega), if_pos hn4]
    exact decide_eq_true (by omega)
  · unfold ask13
    rw [if_neg (by omega), if_neg hn4, if_neg hn11]
end

end Go.Proofs
