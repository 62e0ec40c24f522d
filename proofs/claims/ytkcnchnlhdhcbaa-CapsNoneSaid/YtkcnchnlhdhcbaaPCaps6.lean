/-
  caps: contracts of the program's capabilities: each, Drop, Gone.
-/
import Derived.Test.YtkcnchnlhdhcbaaPCaps5
set_option linter.unusedSimpArgs false
namespace Go.Den
open Go

def pv (L : List CE) (ps : List (Option Nat)) (o : Int) : Option Addr := match L.find? fun d => d.no == o with
  | none => none
  | some d => ((ps[ckp d]?).getD none).map fun r => ⟨r, 0, none⟩
theorem parUp_pv (L : List CE) (ps : List (Option Nat)) (o : Int) : parUp L ps o = .pointer (pv L ps o) := by
  unfold parUp pv
  cases L.find? fun d => d.no == o with
  | none => rfl
  | some d => exact ptrTo_eq _
theorem parV_pv (L : List CE) (ps : List (Option Nat)) (c : CE) : parV L ps c = .pointer (pv L ps c.of_) := parUp_pv L ps c.of_

theorem pv_some {L : List CE} {ps : List (Option Nat)} {o : Int} {a : Addr} (h : pv L ps o = some a) : ∃ d r, d ∈ L ∧ d.no = o ∧ ps[ckp d]? = some (some r) ∧ a = ⟨r, 0, none⟩ := by
  unfold pv at h
  cases hf : L.find? fun d => d.no == o with
  | none => rw [hf] at h; cases h
  | some d =>
    rw [hf] at h
    simp only [Option.map_eq_some_iff] at h
    obtain ⟨r, h1, h2⟩ := h
    cases hp : ps[ckp d]? with
    | none => rw [hp] at h1; cases h1
    | some x =>
      rw [hp] at h1
      simp only [Option.getD_some] at h1
      subst h1
      exact ⟨d, r, List.mem_of_find?_eq_some hf, by simpa using List.find?_some hf, hp, h2.symm⟩
theorem pv_of {s : S8} (hw : W8 s) {ps : List (Option Nat)} {d : CE} (hd : d ∈ s.L) {r : Nat} (hr : ps[ckp d]? = some (some r)) : pv s.L ps d.no = some ⟨r, 0, none⟩ := by
  unfold pv
  cases hf : s.L.find? fun c => c.no == d.no with
  | none => exact absurd (List.find?_eq_none.1 hf d hd) (by simp)
  | some c =>
    have e1 := List.find?_some hf
    obtain rfl := no_same hw.no (List.mem_of_find?_eq_some hf) hd (by simpa using e1)
    simp only [hr]
    rfl

/-- The blocks while one goes: those behind 'j' are as they were. -/
def obD (L : List CE) (ps : List (Option Nat)) (g : CE) (j i : Nat) : Option (Array Value) :=
  if ckp g = i then none else (L.find? fun c => ckp c == i).map fun c => nodeC c (.pointer (if i < j ∧ c.of_ = g.no then pv L ps g.of_ else pv L ps c.of_))

theorem ob8_0 (L : List CE) (ps : List (Option Nat)) (g : CE) (i : Nat) : obD L ps g 0 i = if ckp g = i then none else ob8 L ps i := by
  unfold obD ob8
  simp only [Nat.not_lt_zero, false_and, if_false, ← parV_pv]
theorem pv_drop (L : List CE) (ps : List (Option Nat)) {g : CE} (hg : ∀ c ∈ L, ckp c = ckp g → c = g) {e sl : Int} (hW : without L e sl = L.filter fun c => ckp c != ckp g) {o : Int} (ho : o ≠ g.no) :
    pv ((without L e sl).map (reparent g)) (ps.set (ckp g) none) o = pv L ps o := by
  unfold pv
  rw [List.find?_map, hW, List.find?_filter]
  have e1 : (L.find? fun a => decide ((ckp a != ckp g) = true ∧ ((fun d : CE => d.no == o) ∘ reparent g) a = true)) = L.find? fun d => d.no == o := find_cong fun c hc => by
    simp only [Function.comp, (reparent_same g c).1]
    rw [Bool.eq_iff_iff]
    simp only [bne_iff_ne, ne_eq, beq_iff_eq, decide_eq_true_eq, and_iff_right_iff_imp]
    intro h1 h2
    rw [hg c hc h2] at h1
    exact ho h1.symm
  rw [e1]
  cases hf : L.find? fun d => d.no == o with
  | none => rfl
  | some d =>
    simp only [Option.map_some]
    have h1 : ckp (reparent g d) = ckp d := by unfold ckp; rw [(reparent_same g d).2.1, (reparent_same g d).2.2.1]
    rw [h1, List.getElem?_set, if_neg]
    intro hk
    have h2 := hg d (List.mem_of_find?_eq_some hf) hk.symm
    have h3 := List.find?_some hf
    rw [h2] at h3
    exact ho (by simpa using h3 : g.no = o).symm
theorem ob8_drop {s : S8} (hw : W8 s) (ps : List (Option Nat)) {g : CE} (hg : g ∈ s.L) {i : Nat} (hi : i < 780) :
    ob8 ((without s.L g.env g.slot).map (reparent g)) (ps.set (ckp g) none) i = obD s.L ps g 780 i := by
  have hW : without s.L g.env g.slot = s.L.filter fun c => ckp c != ckp g := by
    unfold without
    refine List.filter_congr fun c hc => ?_
    rw [Bool.eq_iff_iff]
    simp only [Bool.not_eq_true', bne_iff_ne, ne_eq]
    rw [← Bool.not_eq_true, isAt_iff]
    refine not_congr ⟨fun h => by unfold ckp; rw [h.1, h.2], fun h => ?_⟩
    rw [ckp_inj hw hc hg h]
    exact ⟨rfl, rfl⟩
  have hu : ∀ c ∈ s.L, ckp c = ckp g → c = g := fun c hc h => ckp_inj hw hc hg h
  have hgo : g.of_ ≠ g.no := by
    have h1 := (hw.in_ g hg).2.2.2.2.1
    rcases hw.up g hg with h | ⟨d, _, h, h2⟩ <;> omega
  unfold ob8 obD
  rw [List.find?_map]
  have e0 : ((fun c : CE => ckp c == i) ∘ reparent g) = fun c => ckp c == i := by
    funext c
    simp only [Function.comp, ckp, (reparent_same g c).2.1, (reparent_same g c).2.2.1]
  rw [e0, hW, List.find?_filter, ← hW]
  by_cases hk : ckp g = i
  · subst hk
    rw [if_pos rfl]
    have : (s.L.find? fun a => decide ((ckp a != ckp g) = true ∧ (ckp a == ckp g) = true)) = none := List.find?_eq_none.2 fun c _ => by simp
    rw [this]
    rfl
  · rw [if_neg hk]
    have e1 : (s.L.find? fun a => decide ((ckp a != ckp g) = true ∧ (ckp a == i) = true)) = s.L.find? fun c => ckp c == i := find_cong fun c hc => by
      rw [Bool.eq_iff_iff]
      simp only [bne_iff_ne, ne_eq, beq_iff_eq, decide_eq_true_eq, and_iff_right_iff_imp]
      intro h1 h2
      exact hk (h2.symm.trans h1)
    rw [e1]
    cases hf : s.L.find? fun c => ckp c == i with
    | none => rfl
    | some c =>
      simp only [Option.map_some, Option.some.injEq]
      rw [parV_pv]
      by_cases hp : c.of_ = g.no
      · have e2 : reparent g c = { c with of_ := g.of_ } := by unfold reparent; rw [if_pos hp]
        rw [e2, if_pos ⟨hi, hp⟩, pv_drop s.L ps hu hW hgo]
        rfl
      · have e2 : reparent g c = c := by unfold reparent; rw [if_neg hp]
        rw [e2, if_neg fun h => hp h.2, pv_drop s.L ps hu hW hp]

theorem each_K {p : Nat} {ps : List (Option Nat)} (hps : ps.length = 780) {St : Nat → World → Prop} (hrow : ∀ j w, St j w → ∃ T, w.heap[p]? = some (.cells (ps.map ptrTo ++ []).toArray T (0, 0)))
    {C : Option Addr → World → (Value → World → Prop) → Prop} (hC : ∀ j w q, j < 780 → ps[j]? = some (some q) → St j w → C (some ⟨q, 0, none⟩) w (fun v w' => v = .tuple #[] ∧ St (j + 1) w')) (hN : ∀ j w, j < 780 → ps[j]? = some none → St j w → St (j + 1) w)
    {w : World} {K : World → Prop} (h0 : St 0 w) (hK : ∀ w', St 780 w' → K w') :
    ∃ I5 : Nat → Int → World → Prop, (∃ n22, I5 n22 0 w) ∧ ∀ n6 : Nat, ∀ t4 : Int, ∀ (_ : Nat → Value) (w7 : World), I5 n6 t4 w7 → spl (decide (t4 < (12 : Int))) (nilK (some ⟨p, 0, none⟩) fun a9 => (0 ≤ t4 ∧ t4 < (12 : Int)) ∧ ((∃ x10 : Array Value, rowIs w7 (Addr.add a9 (t4.toNat * 65)) 65 x10 ∧ (∃ I12 : Nat → Int → World → Prop, (∃ n21, I12 n21 0 w7) ∧ ∀ n13 : Nat, ∀ t11 : Int, ∀ (_ : Nat → Value) (w14 : World), I12 n13 t11 w14 → spl (decide (t11 < (65 : Int))) (∃ J16 : World → Prop, (∀ (_ : Nat → Value) (w17 : World), J16 w17 → ∃ m15, m15 < n13 ∧ I12 m15 (IntKind.i64.wrap (t11 + (1 : Int))) w17) ∧ ((0 ≤ t11 ∧ t11 < (65 : Int)) ∧ (∃ x18 : Option Addr, x10[(t11 : Int).toNat]? = some (.pointer x18) ∧ (spl (!x18.isNone) (C x18 w14 fun v19 w20 => v19 = .tuple #[] ∧ (J16 w20)) (J16 w14))))) (∃ m8, m8 < n6 ∧ I5 m8 (IntKind.i64.wrap (t4 + (1 : Int))) w14))))) (K w7) := by
  refine ⟨fun n t w' => ∃ j : Nat, t = j ∧ j ≤ 12 ∧ n = 12 - j ∧ St (j * 65) w', ⟨12, 0, rfl, by omega, rfl, h0⟩, ?_⟩
  rintro n t - w1 ⟨j, rfl, hj, rfl, hS⟩
  rw [spl_decide]
  refine ⟨fun hlt => ?_, fun hge => ?_⟩
  · rw [nilK_some]
    refine ⟨⟨by omega, by omega⟩, ((ps.map ptrTo).drop (j * 65)).take 65 |>.toArray, ⟨by simp; omega, fun i hi => ?_⟩, ?_⟩
    · obtain ⟨T, hT⟩ := hrow _ _ hS
      rw [Int.toNat_natCast, addr_add, addr_add, cell_get hT, Nat.zero_add]
      simp [hi]
    · refine ⟨fun n t w' => ∃ i : Nat, t = i ∧ i ≤ 65 ∧ n = 65 - i ∧ St (j * 65 + i) w', ⟨65, 0, rfl, by omega, rfl, hS⟩, ?_⟩
      rintro n t - w2 ⟨i, rfl, hi, rfl, hS2⟩
      rw [spl_decide]
      refine ⟨fun hlt2 => ?_, fun hge2 => ⟨12 - (j + 1), by omega, j + 1, by rw [w64 (by omega) (by omega)]; omega, by omega, rfl, ?_⟩⟩
      · have hb : j * 65 + i < 780 := by omega
        refine ⟨fun w' => St (j * 65 + i + 1) w', fun _ w' hw' => ⟨65 - (i + 1), by omega, i + 1, by rw [w64 (by omega) (by omega)]; omega, by omega, rfl, hw'⟩, ⟨by omega, by omega⟩, ?_⟩
        obtain ⟨o, ho⟩ : ∃ o, ps[j * 65 + i]? = some o := ⟨_, List.getElem?_eq_getElem (by omega)⟩
        refine ⟨o.map fun r => ⟨r, 0, none⟩, ?_, ?_⟩
        · rw [← ptrTo_eq]
          simp [ho, show i < 65 by omega]
        · cases o with
          | none => exact spl_f rfl (hN _ _ hb ho hS2)
          | some q => exact spl_t rfl (hC _ _ q hb ho hS2)
      · obtain rfl : i = 65 := by omega
        rw [show (j + 1) * 65 = j * 65 + 65 by omega]
        exact hS2
  · obtain rfl : j = 12 := by omega
    exact hK w1 hS

end Go.Den
namespace Go.Proofs
open Go Go.Den

theorem pdrop1_run {c g : CE} (mc : May8 c.x) (mg : May8 g.x) {w : World} {q q0 b7 b13 : Nat} {T T0 T7 T13 : TypeId} {x xg : Option Addr} {last : Bool} (hq : w.heap[q]? = some (.cells (nodeC c (.pointer x)) T (0, 0))) (hq0 : w.heap[q0]? = some (.cells (nodeC g (.pointer xg)) T0 (0, 0)))
    (h7 : w.heap[b7]? = some (.cells #[.pointer (some ⟨q0, 0, none⟩)] T7 (0, 0))) (h13 : w.heap[b13]? = some (.cells #[.bool last] T13 (0, 0))) (n1 : q ≠ q0) (n2 : q ≠ b7) (n3 : q ≠ b13) (hpe : ∀ a, x = some a → a.block = q0 ∨ ∃ cs T, w.heap[a.block]? = some (.cells cs T (0, 0)))
    {K : Value → World → Prop} (hK : ∀ w', Mod [q, b13] w w' → w'.heap[q]? = some (.cells (nodeC c (.pointer (if x = some ⟨q0, 0, none⟩ then xg else x))) T (0, 0)) → w'.heap[b13]? = some (.cells #[.bool (last && !meet8 c.x g.x)] T13 (0, 0)) → K (.tuple #[]) w') :
    CallsR Try.prog F_caps_Caps_Drop_1 #[.pointer (some ⟨q, 0, none⟩), .pointer (some ⟨b7, 0, none⟩), .pointer (some ⟨b13, 0, none⟩)] w K := by
  apply R_caps_Caps_Drop_1_ok
  simp only [R_caps_Caps_Drop_1, nilK_some, addr_add, Nat.zero_add]
  refine ⟨fun w' => Mod [q] w w' ∧ w'.heap[q]? = some (.cells (nodeC c (.pointer (if x = some ⟨q0, 0, none⟩ then xg else x))) T (0, 0)), ?_, ?_⟩
  · rintro - w1 ⟨m1, g1⟩
    rw [drK_eq]
    have m2 := m1.drew
    have g1 : w1.drew.heap[q]? = some (.cells (nodeC c (.pointer (if x = some ⟨q0, 0, none⟩ then xg else x))) T (0, 0)) := g1
    generalize w1.drew = w2 at m2 g1 ⊢
    have k13 := m2.get h13 (by simp [Ne.symm n3])
    have k7 := m2.get h7 (by simp [Ne.symm n2])
    have k0 := m2.get hq0 (by simp [Ne.symm n1])
    refine ⟨last, by rw [cell_get k13]; rfl, spl_of (fun hl => ?_) (fun hl => ?_)⟩
    · refine ⟨c.x.k, c.x.i, c.x.n, c.x.r, ⟨by rw [cell_get g1]; rfl, by rw [cell_get g1]; rfl, by rw [cell_get g1]; rfl, by rw [cell_get g1]; rfl⟩, some ⟨q0, 0, none⟩, by rw [cell_get k7]; rfl, ?_⟩
      simp only [nilK_some, addr_add, Nat.zero_add]
      refine ⟨g.x.k, g.x.i, g.x.n, g.x.r, ⟨by rw [cell_get k0]; rfl, by rw [cell_get k0]; rfl, by rw [cell_get k0]; rfl, by rw [cell_get k0]; rfl⟩, ?_⟩
      refine pmeet_run mc mg fun w3 m3 => ⟨_, rfl, ?_⟩
      have k13' := m3.get k13 (by simp)
      have g1' := m3.get g1 (by simp)
      refine stK_of k13' (by simp) ?_
      refine hK _ ((((m2.mono (by simp)).trans' (m3.of0 (S := [q, b13])))).upd (.inl (by simp)) _) ((upd_ne _ n3.symm).trans g1') ?_
      rw [upd_same k13', hl]
      simp [splice_cons, splice_nil]
    · refine stK_of k13 (by simp) ?_
      refine hK _ ((m2.mono (by simp)).upd (.inl (by simp)) _) ((upd_ne _ n3.symm).trans g1) ?_
      rw [upd_same k13, hl]
      simp [splice_cons, splice_nil]
  · rw [drK_eq]
    have m2 : Mod [q] w w.drew := (Mod.refl [q] w).drew
    have hq : w.drew.heap[q]? = some (.cells (nodeC c (.pointer x)) T (0, 0)) := hq
    have hq0 : w.drew.heap[q0]? = some (.cells (nodeC g (.pointer xg)) T0 (0, 0)) := hq0
    have h7 : w.drew.heap[b7]? = some (.cells #[.pointer (some ⟨q0, 0, none⟩)] T7 (0, 0)) := h7
    have hpe : ∀ a, x = some a → a.block = q0 ∨ ∃ cs T, w.drew.heap[a.block]? = some (.cells cs T (0, 0)) := hpe
    generalize w.drew = w2 at m2 hq hq0 h7 hpe ⊢
    refine ⟨x, by rw [cell_get hq]; rfl, some ⟨q0, 0, none⟩, by rw [cell_get h7]; rfl, by decide +kernel, ?_, spl_of (fun he => ?_) (fun he => ?_)⟩
    · unfold peqOK
      cases x with
      | none => trivial
      | some a =>
        rcases hpe a rfl with h | h
        · exact .inl h
        · exact .inr ⟨h, _, _, hq0⟩
    · have he : x = some ⟨q0, 0, none⟩ := by simpa using he
      refine ⟨some ⟨q0, 0, none⟩, by rw [cell_get h7]; rfl, ?_⟩
      simp only [nilK_some, addr_add, Nat.zero_add]
      refine ⟨xg, by rw [cell_get hq0]; rfl, stK_of hq (by simp [nodeC]) ?_⟩
      refine ⟨m2.upd (.inl (by simp)) _, ?_⟩
      rw [upd_same hq, if_pos he]
      rfl
    · have he : x ≠ some ⟨q0, 0, none⟩ := by simpa using he
      rw [if_neg he]
      exact ⟨m2, hq⟩

/-- Do all that lie ahead of place 'j' and are left meet none of it? -/
def lastJ (L : List CE) (g : CE) (j : Nat) : Bool := L.all fun c => decide (ckp c = ckp g) || decide (j ≤ ckp c) || !meet8 c.x g.x
theorem lastJ_0 (L : List CE) (g : CE) : lastJ L g 0 = true := by simp [lastJ]
theorem lastJ_succ {s : S8} (hw : W8 s) {g c : CE} (hc : c ∈ s.L) (hne : ckp c ≠ ckp g) : lastJ s.L g (ckp c + 1) = (lastJ s.L g (ckp c) && !meet8 c.x g.x) := by
  rw [Bool.eq_iff_iff]
  simp only [lastJ, Bool.and_eq_true, List.all_eq_true, Bool.or_eq_true, decide_eq_true_eq]
  constructor
  · intro h
    refine ⟨fun d hd => ?_, ?_⟩
    · rcases h d hd with (h1 | h1) | h1
      · exact .inl (.inl h1)
      · exact .inl (.inr (by omega))
      · exact .inr h1
    · rcases h c hc with (h1 | h1) | h1
      · exact absurd h1 hne
      · omega
      · exact h1
  · rintro ⟨h1, h2⟩ d hd
    rcases h1 d hd with (h3 | h3) | h3
    · exact .inl (.inl h3)
    · by_cases hdc : ckp d = ckp c
      · rw [ckp_inj hw hd hc hdc]; exact .inr h2
      · exact .inl (.inr (by omega))
    · exact .inr h3
theorem lastJ_skip {L : List CE} {g : CE} {j : Nat} (h : ∀ c ∈ L, ckp c = j → ckp c = ckp g) : lastJ L g (j + 1) = lastJ L g j := by
  rw [Bool.eq_iff_iff]
  simp only [lastJ, List.all_eq_true, Bool.or_eq_true, decide_eq_true_eq]
  constructor
  · intro h1 d hd
    rcases h1 d hd with (h3 | h3) | h3
    · exact .inl (.inl h3)
    · exact .inl (.inr (by omega))
    · exact .inr h3
  · intro h1 d hd
    rcases h1 d hd with (h3 | h3) | h3
    · exact .inl (.inl h3)
    · by_cases hdj : ckp d = j
      · exact .inl (.inl (h d hd hdj))
      · exact .inl (.inr (by omega))
    · exact .inr h3
theorem lastJ_end {s : S8} (hw : W8 s) {g : CE} (hg : g ∈ s.L) : lastJ s.L g 780 = (without s.L g.env g.slot).all fun c => !meet8 c.x g.x := by
  rw [Bool.eq_iff_iff]
  simp only [lastJ, List.all_eq_true, Bool.or_eq_true, decide_eq_true_eq]
  constructor
  · intro h c hc
    obtain ⟨h1, h2⟩ := mem_without.1 hc
    rcases h c h1 with (h3 | h3) | h3
    · rw [ckp_inj hw h1 hg h3] at h2; exact absurd ⟨rfl, rfl⟩ h2
    · have := ckp_lt hw h1; omega
    · exact h3
  · intro h c hc
    by_cases hk : ckp c = ckp g
    · exact .inl (.inl hk)
    · exact .inr (h c (mem_without.2 ⟨hc, fun z => hk (by unfold ckp; rw [z.1, z.2])⟩))

set_option maxHeartbeats 1000000 in
theorem pdrop_run {w : World} {p : Nat} {s : S8} {F : List Nat} (h : CP w p s F) (e sl : Int) {K : Value → World → Prop} (hK : ∀ w' F', CP w' p (dropS8 s e sl) F' → Mod F w w' → Own w F F' → K (.tuple #[.bool (dropV8 s e sl).1, .int .i64 (dropV8 s e sl).2]) w') :
    CallsR Try.prog F_caps_Caps_Drop #[.pointer (some ⟨p, 0, none⟩), .int .i64 e, .int .i64 sl] w K := by
  apply R_caps_Caps_Drop_ok
  simp only [R_caps_Caps_Drop, Option.isNone_some, spl_false, nilK_some, addr_add, Nat.zero_add]
  have h0 := h
  obtain ⟨hw, ps, h1, hl⟩ := h
  refine pat_run h1 hl hw e sl (fun hn => ⟨_, rfl, ?_⟩) (fun g q0 hlk hq => ⟨_, rfl, ?_⟩)
  · refine (Sep.nil (Mod.refl [] w)).new fun b w1 s1 m1 hb => s1.st0 0 rfl rfl fun w2 s2 m2 => ⟨_, s2.cell 0 rfl rfl, spl_t rfl ?_⟩
    have := hK w2 F (by unfold dropS8; rw [hn]; exact h0.keep (s2.mod.at0 h0.lt)) s2.mod.of0 (Own.refl _ _)
    rwa [dropV8, hn] at this
  obtain ⟨hm, rfl, rfl⟩ := look8_some hlk
  obtain ⟨a1, a2, a3, mg, -⟩ := hw.in_ g hm
  refine (Sep.nil (Mod.refl [] w)).new fun b7 w1 s1 m1 hb7 => s1.st0 0 rfl rfl fun w2 s2 m2 => ⟨_, s2.cell 0 rfl rfl, spl_f rfl ⟨⟨a1.1, a1.2⟩, ⟨by omega, by omega⟩, ?_⟩⟩
  have h2 := h1.keep (s2.mod.at0 h1.lt)
  have hkl : ckp g < ps.length := by have := ckp_lt hw hm; omega
  obtain ⟨T, hrow⟩ := h2.row
  refine stK_of hrow (by unfold ckp kp at hkl; simp; omega) ?_
  simp only [splice_cons, splice_nil]
  have er := ptrs_set ps [] hkl none
  obtain ⟨q0', T0, e1, hq0⟩ := h2.has hl hw hm
  rw [hq] at e1
  obtain rfl : q0 = q0' := Option.some.inj (Option.some.inj e1)
  have hb7lt : ∀ z ∈ F, z ≠ b7 := fun z hz hh => by have := h1.lt z hz; omega
  have hq0F : q0 ∈ F := h2.mem hq
  have hpq0 : p ≠ q0 := fun hh => h2.np _ (hh ▸ hq)
  obtain ⟨F1, hF1, hFF, hq0F1⟩ := h2.del (k := ckp g) (w' := w2.upd p (.cells ((ps.map ptrTo ++ []).toArray.setIfInBounds (ckp g) (ptrTo none)) T (0, 0))) (T := T) (by rw [er]; exact upd_same hrow) (fun z _ hz => upd_ne _ (Ne.symm hz))
  have hq0F1 := hq0F1 q0 hq
  have hqg := hq
  have hpF : p ∈ F := h2.pmem
  have k0 : (w2.upd p (.cells ((ps.map ptrTo ++ []).toArray.setIfInBounds (ckp g) (ptrTo none)) T (0, 0))).heap[q0]? = some (.cells (nodeC g (parV s.L ps g)) T0 (0, 0)) := (upd_ne _ hpq0).trans hq0
  have k7 : (w2.upd p (.cells ((ps.map ptrTo ++ []).toArray.setIfInBounds (ckp g) (ptrTo none)) T (0, 0))).heap[b7]? = some _ := (upd_ne _ (hb7lt p hpF)).trans (s2.nth 0 rfl)
  have m3 : Mod F w (w2.upd p (.cells ((ps.map ptrTo ++ []).toArray.setIfInBounds (ckp g) (ptrTo none)) T (0, 0))) := s2.mod.of0.upd (.inl hpF) _
  have hsz3 : (w2.upd p (.cells ((ps.map ptrTo ++ []).toArray.setIfInBounds (ckp g) (ptrTo none)) T (0, 0))).heap.size = w2.heap.size := upd_size _ _ _
  show newK (w2.upd p (.cells ((ps.map ptrTo ++ []).toArray.setIfInBounds (ckp g) (ptrTo none)) T (0, 0))) _ _
  generalize w2.upd p _ = w3 at hF1 k0 k7 m3 hsz3 ⊢
  refine (Sep.nil (Mod.refl [] w3)).new fun b13 w4 s4 m4 hb13 => s4.st0 0 rfl rfl fun w5 s5 m5 => ?_
  have hsz2 := s2.mod.size
  have k0 := s5.mod.get k0 (by simp)
  have k7 := s5.mod.get k7 (by simp)
  have hF1 := hF1.keep (s5.mod.at0 hF1.lt)
  have m5' : Mod F w w5 := m3.trans' s5.mod.of0
  have k13 : w5.heap[b13]? = some _ := s5.nth 0 rfl
  have hb13F : ∀ z ∈ F, z ≠ b13 := fun z hz hh => by have := h1.lt z hz; omega
  have hb713 : b7 ≠ b13 := by have := lt_of_get (show w2.heap[b7]? = some _ from s2.nth 0 rfl); omega
  rw [parV_pv] at k0
  apply R_caps_Caps_each_Drop_ok
  unfold R_caps_Caps_each_Drop
  refine each_K (C := fun x w K => CallsR Try.prog F_caps_Caps_Drop_1 #[.pointer x, .pointer (some ⟨b7, 0, none⟩), .pointer (some ⟨b13, 0, none⟩)] w K) (ps := ps.set (ckp g) none) (by simpa using hl)
    (St := fun j w' => PT w' p (ps.set (ckp g) none) (obD s.L ps g j) [] F1 ∧ w'.heap[b13]? = some (.cells #[.bool (lastJ s.L g j)] _ (0, 0)) ∧ Mod (b13 :: F1) w5 w') (fun j w' hS => hS.1.row) ?_ ?_ ⟨hF1.say fun i _ => ?_, by rw [lastJ_0]; exact k13, Mod.refl _ _⟩ ?_
  · rintro j w6 q hj hq ⟨z1, z2, z3⟩
    obtain ⟨arr, Tq, g1, g2⟩ := z1.at_ j q hq
    have hqF1 := z1.mem hq
    unfold obD at g1
    by_cases hgj : ckp g = j
    · rw [if_pos hgj] at g1; cases g1
    rw [if_neg hgj] at g1
    cases hf : s.L.find? fun c => ckp c == j with
    | none => rw [hf] at g1; cases g1
    | some c =>
      rw [hf] at g1
      obtain rfl := Option.some.inj g1
      have hc := List.mem_of_find?_eq_some hf
      have hcj : ckp c = j := by simpa using List.find?_some hf
      simp only [Nat.lt_irrefl, false_and, if_false] at g2
      have kk0 := z3.get k0 (by simp only [List.mem_cons, not_or]; exact ⟨hb13F q0 hq0F, hq0F1⟩)
      have kk7 := z3.get k7 (by simp only [List.mem_cons, not_or]; exact ⟨hb713, fun hh => hb7lt b7 (hFF _ hh) rfl⟩)
      have hqF := hFF q hqF1
      have key : pv s.L ps c.of_ = some ⟨q0, 0, none⟩ ↔ c.of_ = g.no := by
        constructor
        · intro hh
          obtain ⟨d, r, d1, d2, d3, d4⟩ := pv_some hh
          obtain rfl : q0 = r := by simpa using congrArg Addr.block d4
          have := h1.inj _ _ _ hqg d3
          rw [← d2, ckp_inj hw hm d1 this]
        · intro hh
          rw [hh]
          exact pv_of hw hm hqg
      refine pdrop1_run (hw.in_ c hc).2.2.2.1 mg g2 kk0 kk7 z2 (fun hh => hq0F1 (hh ▸ hqF1)) (hb7lt q hqF) (hb13F q hqF) (fun a ha => ?_) fun w7 m7 y1 y2 => ⟨rfl, ?_, ?_, ?_⟩
      · obtain ⟨d, r, d1, d2, d3, rfl⟩ := pv_some ha
        by_cases hdg : ckp g = ckp d
        · rw [ckp_inj hw d1 hm hdg.symm] at d3
          left
          have := d3.symm.trans hqg
          exact Option.some.inj (Option.some.inj this)
        · right
          obtain ⟨arr, Tr, u1, u2⟩ := z1.at_ (ckp d) r (by rw [List.getElem?_set, if_neg hdg]; exact d3)
          exact ⟨arr, Tr, u2⟩
      · refine (z1.mod1 hq y1 fun z hz hne => m7.keep z (z1.lt z hz) ?_).say fun i hi => ?_
        · simp only [List.mem_cons, List.not_mem_nil, or_false, not_or]
          exact ⟨hne, hb13F z (hFF z hz)⟩
        · unfold obD
          by_cases hji : j = i
          · subst hji
            rw [if_pos rfl, if_neg hgj, hf]
            simp only [Option.map_some, key, Nat.lt_succ_self, true_and]
          · rw [if_neg hji]
            by_cases hgi : ckp g = i
            · rw [if_pos hgi, if_pos hgi]
            · rw [if_neg hgi, if_neg hgi]
              have : (i < j + 1) ↔ (i < j) := by omega
              simp only [this]
      · rw [y2, ← hcj, lastJ_succ hw hc (by omega)]
      · refine z3.trans m7 fun z hz _ => ?_
        simp only [List.mem_cons, List.not_mem_nil, or_false] at hz
        rcases hz with rfl | rfl
        · exact List.mem_cons_of_mem _ hqF1
        · simp
  · rintro j w6 hj hnone ⟨z1, z2, z3⟩
    have hno : ∀ c ∈ s.L, ckp c = j → ckp c = ckp g := fun c hc hcj => by
      by_cases hgj : ckp g = j
      · omega
      · have := z1.no j hnone
        unfold obD at this
        rw [if_neg hgj, ← hcj, find_ckp hw hc] at this
        cases this
    refine ⟨z1.say fun i hi => ?_, by rw [lastJ_skip hno]; exact z2, z3⟩
    unfold obD
    by_cases hgi : ckp g = i
    · rw [if_pos hgi, if_pos hgi]
    · rw [if_neg hgi, if_neg hgi]
      by_cases hji : i = j
      · subst hji
        cases hf : s.L.find? fun c => ckp c == i with
        | none => rfl
        | some c =>
          have hcj : ckp c = i := by simpa using List.find?_some hf
          have := hno c (List.mem_of_find?_eq_some hf) hcj
          omega
      · have : (i < j + 1) ↔ (i < j) := by omega
        simp only [this]
  · rw [ob8_0]
  · rintro w6 ⟨z1, z2, z3⟩
    refine ⟨rfl, _, by rw [cell_get z2]; rfl, ?_⟩
    have hS : dropS8 s g.env g.slot = ⟨(without s.L g.env g.slot).map (reparent g), s.last⟩ := by unfold dropS8; rw [hlk]
    have hV : dropV8 s g.env g.slot = ((without s.L g.env g.slot).all fun c => !meet8 c.x g.x, 0) := by unfold dropV8; rw [hlk]
    have hWd := hw.drop g.env g.slot
    rw [hS] at hK hWd
    rw [hV, ← lastJ_end hw hm] at hK
    refine hK w6 F1 ⟨hWd, _, z1.say fun i hi => ?_, by simpa using hl⟩ (m5'.trans z3 fun z hz hlt => ?_) (fun z hz => .inl (hFF z hz))
    · rw [List.length_set, hl] at hi
      exact ob8_drop hw ps hm hi
    · rcases List.mem_cons.1 hz with rfl | hz
      · omega
      · exact hFF z hz

theorem pgone_run {w : World} {p : Nat} {s : S8} {F : List Nat} (h : CP w p s F) (e : Int) {K : Value → World → Prop} (hK : ∀ w' F', CP w' p (goneS8 s e 64) F' → Mod F w w' → Own w F F' → K (.tuple #[]) w') :
    CallsR Try.prog F_caps_Caps_Gone #[.pointer (some ⟨p, 0, none⟩), .int .i64 e] w K := by
  apply R_caps_Caps_Gone_ok
  simp only [R_caps_Caps_Gone, spl_decide]
  refine ⟨fun n t w' => ∃ (j : Nat) (F' : List Nat), t = (j + 1 : Nat) ∧ j ≤ 64 ∧ n = 64 - j ∧ CP w' p (goneS8 s e j) F' ∧ Mod F w w' ∧ Own w F F', ⟨64, 0, F, rfl, by omega, rfl, h, Mod.refl _ _, Own.refl _ _⟩, ?_⟩
  rintro n t - w1 ⟨j, F1, rfl, hj, rfl, h1, m1, o1⟩
  refine ⟨fun hlt => ?_, fun hge => ?_⟩
  · refine pdrop_run h1 e _ fun w2 F2 h2 m2 o2 => ⟨_, _, rfl, 64 - (j + 1), by omega, j + 1, F2, by rw [w64 (by omega) (by omega)]; omega, by omega, rfl, h2, ?_, o1.trans m1.size o2⟩
    refine m1.trans m2 fun z hz hlt => (o1 z hz).elim id fun hh => by omega
  · obtain rfl : j = 64 := by omega
    exact hK w1 F1 h1 m1 o1

end Go.Proofs
