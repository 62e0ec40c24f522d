/-
  Layer 8: nobody has a right that was not given on; behind a Revoke nobody else has one.
-/
import Derived.Test.YtkcnchnlhdhcbaaC08b
set_option linter.unusedSimpArgs false
namespace Go.Proofs
open Go Go.Den

theorem hasR_trans8 : ∀ a b c : Fin 8, hasR (a.val : Int) (b.val : Int) = true → hasR (b.val : Int) (c.val : Int) = true → hasR (a.val : Int) (c.val : Int) = true := by decide +kernel
theorem hasR_trans {a b c : Int} (ha : 0 ≤ a ∧ a ≤ 7) (hb : 0 ≤ b ∧ b ≤ 7) (hc : 0 ≤ c ∧ c ≤ 7) (h1 : hasR a b = true) (h2 : hasR b c = true) : hasR a c = true := by
  have := hasR_trans8 ⟨a.toNat, by omega⟩ ⟨b.toNat, by omega⟩ ⟨c.toNat, by omega⟩
  simp only [show ((a.toNat : Nat) : Int) = a by omega, show ((b.toNat : Nat) : Int) = b by omega, show ((c.toNat : Nat) : Int) = c by omega] at this
  exact this h1 h2

/-- All that anybody has are among 'r's rights, for frame 5 alone. -/
def Nev (r : Int) (s : S8) : Prop := ∀ c ∈ s.L, c.x.k = 1 ∧ c.x.i = 5 ∧ c.x.n = 1 ∧ hasR r c.x.r = true
theorem Nev.put {r : Int} {s : S8} (h : Nev r s) {e o : Int} {x : Cap8} (hx : x.k = 1 ∧ x.i = 5 ∧ x.n = 1 ∧ hasR r x.r = true) : Nev r (putS8 s e o x) := by
  unfold putS8
  split
  · exact h
  · intro c hc
    rcases List.mem_append.1 hc with hc | hc
    · exact h c hc
    · rw [List.mem_singleton.1 hc]; exact hx
theorem Nev.give {r : Int} (hr : 0 ≤ r ∧ r ≤ 7) {s : S8} (hw : W8 s) (h : Nev r s) (e sl to r' : Int) : Nev r (giveS8 s e sl to r') := by
  unfold giveS8
  split
  · exact h
  · rename_i c hc
    split
    · rename_i hm
      have hcL := (look8_some hc).1
      obtain ⟨h1, h2, h3, h4⟩ := h c hcL
      have hcx := (hw.in_ c hcL).2.2.2.1
      obtain ⟨-, -, -, -, -, b6, b7⟩ := hcx
      obtain ⟨-, m2, m3, m4⟩ := hm.1
      refine h.put ⟨h1, h2, h3, hasR_trans hr (b := c.x.r) (by omega) (by simp only; omega) h4 ?_⟩
      unfold hasR
      simp only
      rw [and_comm8' (by omega) (by omega), m4]
      simp
    · exact h
theorem Nev.drop {r : Int} {s : S8} (h : Nev r s) (e sl : Int) : Nev r (dropS8 s e sl) := by
  unfold dropS8
  split
  · exact h
  · rename_i g hg
    intro c hc
    obtain ⟨d, hd, rfl⟩ := List.mem_map.1 hc
    rw [(reparent_same g d).2.2.2]
    exact h d (mem_without.1 hd).1
theorem Nev.revoke {r : Int} {s : S8} (h : Nev r s) (e sl : Int) : Nev r (revokeS8 s e sl) := by
  unfold revokeS8
  split
  · exact h
  · intro c hc
    exact h c (List.mem_filter.1 hc).1
theorem Nev.six {r : Int} {s : S8} (h : Nev r s) (e q : Int) : has8 s.L e 1 6 q = false := List.any_eq_false.2 fun c hc => by
  obtain ⟨h1, h2, h3, h4⟩ := h c hc
  simp [covers8, h1, h2, h3]
theorem and_of_has : ∀ r x : Fin 8, ∀ q : Fin 8, q.val ≠ 0 → hasR (r.val : Int) (x.val : Int) = true → hasR (x.val : Int) (q.val : Int) = true → ibits .and .i64 (r.val : Int) (q.val : Int) ≠ 0 := by decide +kernel
theorem Nev.five {r : Int} (hr : 0 ≤ r ∧ r ≤ 7) {s : S8} (hw : W8 s) (h : Nev r s) {e q : Int} (hq : 1 ≤ q ∧ q ≤ 7) (hh : has8 s.L e 1 5 q = true) : ibits .and .i64 r q ≠ 0 := by
  obtain ⟨c, hc, h1⟩ := List.any_eq_true.1 hh
  obtain ⟨-, -, -, h4⟩ := h c hc
  obtain ⟨-, -, -, -, -, b6, b7⟩ := (hw.in_ c hc).2.2.2.1
  have h5 : hasR c.x.r q = true := by
    simp only [covers8, Bool.and_eq_true] at h1
    exact h1.2.2
  have := and_of_has ⟨r.toNat, by omega⟩ ⟨c.x.r.toNat, by omega⟩ ⟨q.toNat, by omega⟩
  simp only [show ((r.toNat : Nat) : Int) = r by omega, show ((c.x.r.toNat : Nat) : Int) = c.x.r by omega, show ((q.toNat : Nat) : Int) = q by omega] at this
  exact this (by omega) h4 h5

def dc8 (T : TypeId) (d0 d1 d2 d3 d4 d5 d6 d7 d8 : Int) : Obj := .cells [.int .i64 d0, .int .i64 d1, .int .i64 d2, .int .i64 d3, .int .i64 d4, .int .i64 d5, .int .i64 d6, .int .i64 d7, .int .i64 d8].toArray T (0, 0)

theorem never_run (w : World) (r : Int) (_hr : (Lit.int .i64 r).wf = true) (a : Option Addr) (l c : Nat) (hin : SlIn w 9 Q_januslaw08_Deed a l c) : CallsR Try.prog F_januslaw08_CapsNever #[.int .i64 r, .slice a l c] w fun v w' => v = .bool true ∧ Mod [] w w' := by
  apply R_januslaw08_CapsNever_ok
  simp only [R_januslaw08_CapsNever, spl_decide, spl_bne, spl_beq]
  obtain ⟨N, hN, hN1⟩ : ∃ N : Int, (if (if 7 < r then 7 else r) > 1 then if 7 < r then 7 else r else 1) = N ∧ (1 ≤ N ∧ N ≤ 7) :=
    ⟨_, rfl, by split <;> split <;> omega⟩
  rw [hN]
  refine pnew_run fun p F1 w1 h1 m1 b1 => ⟨_, rfl, spl_f rfl ?_⟩
  have s1 := (Sep.nil (Mod.refl [] w)).push (cpPart p _ F1) m1 h1 b1
  refine frame_run 5 N fun w2 m2 => ⟨_, _, _, _, rfl, ?_⟩
  have s2 := s1.mod0 m2
  refine padd_run (s2.nth 0 rfl : CP w2 p _ F1) 1 ⟨1, 5, 1, N⟩ fun w3 F3 h3 m3 o3 => ⟨_, _, rfl, ?_⟩
  have s3 := s2.step 0 rfl (cpPart p _ F3) h3 m3 o3
  have hc : env12 1 ∧ May8 ⟨1, 5, 1, N⟩ := ⟨by decide, .inr ⟨rfl, rfl⟩, by simp only; omega, by simp only; omega, by simp only; omega, by simp only; omega, by simp only; omega, by simp only; omega⟩
  have hV : addV8 ⟨[], 0⟩ 1 ⟨1, 5, 1, N⟩ = (1, 0) := by unfold addV8; rw [if_pos hc]; rfl
  have hS : addS8 ⟨[], 0⟩ 1 ⟨1, 5, 1, N⟩ = putS8 ⟨[], 0⟩ 1 0 ⟨1, 5, 1, N⟩ := by unfold addS8; rw [if_pos hc]
  have hnn : hasR N N = true := by
    have : ∀ x : Fin 8, hasR (x.val : Int) x.val = true := by decide +kernel
    have := this ⟨N.toNat, by omega⟩
    simpa only [show ((N.toNat : Nat) : Int) = N by omega] using this
  have hv : Nev N (addS8 ⟨[], 0⟩ 1 ⟨1, 5, 1, N⟩) := by
    rw [hS]
    exact Nev.put (by intro c hc; cases hc) ⟨rfl, rfl, rfl, hnn⟩
  rw [hV]
  refine ⟨fun h => absurd rfl h, fun _ => ?_⟩
  refine ⟨fun w' => Mod [] w w', fun _ w' hm => fin_run hm, ?_⟩
  have hlle := hin.le
  refine ⟨fun n i w' => ∃ (k : Nat) (s : S8) (F : List Nat), i = k ∧ k ≤ l ∧ n = l - k ∧ Nev N s ∧ Sep w w' [cpPart p s F], ⟨l, 0, _, F3, rfl, by omega, rfl, hv, s3⟩, ?_⟩
  clear s1 h1 m1 b1 s2 s3 h3 m3 o3 hv hV hS m2
  rintro n i - w3 ⟨k, s, F, rfl, hk, rfl, hv, s3⟩
  refine ⟨fun hlt => ⟨fun h3 => ?_, fun _ => s3.mod⟩, fun _ => s3.mod⟩
  have hkl : k < l := by omega
  obtain ⟨ad, cs, rfl, hadlt, ⟨d0, d1, d2, d3, d4, d5, d6, d7, d8, rfl, -⟩, -, hcell⟩ := hin.at hkl
  have cell : ∀ j v, j < 9 → [Value.int .i64 d0, .int .i64 d1, .int .i64 d2, .int .i64 d3, .int .i64 d4, .int .i64 d5, .int .i64 d6, .int .i64 d7, .int .i64 d8][j]? = some v → w3.cell? (Addr.add (Addr.add ad (k * 9)) j) = some v := fun j v hj hv => by
    rw [← hv, ← hcell j hj]
    exact s3.mod.cell (by rw [add_block, add_block]; exact hadlt)
  simp only [nilK_some, Int.toNat_natCast]
  refine ⟨⟨by omega, by omega⟩, d0, d1, d2, d3, d4, d5, d6, d7, d8, ⟨by have := cell 0 _ (by decide) rfl; rwa [add_zero] at this, cell 1 _ (by decide) rfl, cell 2 _ (by decide) rfl, cell 3 _ (by decide) rfl, cell 4 _ (by decide) rfl, cell 5 _ (by decide) rfl, cell 6 _ (by decide) rfl, cell 7 _ (by decide) rfl, cell 8 _ (by decide) rfl⟩, ?_⟩
  clear cell hcell
  refine s3.new fun b w4 s4 m4 hb => s4.st0 0 rfl rfl fun w5 s5 m5 => ?_
  refine ⟨fun w' => ∃ (s : S8) (F : List Nat), Nev N s ∧ Sep w w' [cpPart p s F], ?_, d0, s5.cell 0 rfl rfl, fun _ => ?_, fun _ => ⟨fun _ => ?_, fun _ => ⟨fun _ => ?_, fun _ => ⟨s, F, hv, s5.pop⟩⟩⟩⟩
  · rintro - w6 ⟨s, F, hv, s6⟩
    have hw := (s6.nth 0 rfl : CP w6 p s F).1
    refine ⟨fun n e w' => ∃ j : Nat, e = j ∧ j ≤ 12 ∧ n = 12 - j ∧ Sep w w' [cpPart p s F], ⟨12, 0, rfl, by omega, rfl, s6⟩, ?_⟩
    rintro n e - w7 ⟨j, rfl, hj, rfl, s7⟩
    refine ⟨fun hlt => ?_, fun _ => ⟨l - (k + 1), by omega, k + 1, s, F, by rw [w64 (by omega) (by omega)]; omega, by omega, rfl, hv, s7⟩⟩
    refine ⟨fun n q w' => (q = 1 ∧ n = 3 ∨ q = 2 ∧ n = 2 ∨ q = 4 ∧ n = 1 ∨ q = 8 ∧ n = 0) ∧ Sep w w' [cpPart p s F], ⟨3, .inl ⟨rfl, rfl⟩, s7⟩, ?_⟩
    rintro n q - w8 ⟨hq, s8⟩
    refine ⟨fun hle => ?_, fun _ => ⟨12 - (j + 1), by omega, j + 1, by rw [w64 (by omega) (by omega)]; omega, by omega, rfl, s8⟩⟩
    refine ⟨fun w' => Sep w w' [cpPart p s F], fun _ w' s' => ⟨n - 1, by omega, ?_, s'⟩, ?_⟩
    · rcases hq with ⟨rfl, rfl⟩ | ⟨rfl, rfl⟩ | ⟨rfl, rfl⟩ | ⟨rfl, rfl⟩
      · exact .inr (.inl ⟨by decide, rfl⟩)
      · exact .inr (.inr (.inl ⟨by decide, rfl⟩))
      · exact .inr (.inr (.inr ⟨by decide, rfl⟩))
      · omega
    refine phas_run (s8.nth 0 rfl : CP w8 p s F) j 1 5 q (by decide) fun w9 m9 => ⟨_, rfl, ?_⟩
    have s9 := s8.mod0 m9
    have six : CallsR Try.prog F_caps_Caps_Has #[.pointer (some ⟨p, 0, none⟩), .int .i64 j, .int .i64 1, .int .i64 6, .int .i64 q] w9 fun v w' => ∃ r : Bool, v = .bool r ∧ spl r (Value.bool false = .bool true ∧ Mod [] w w') (Sep w w' [cpPart p s F]) :=
      phas_run (s9.nth 0 rfl : CP w9 p s F) j 1 6 q (by decide) fun w10 m10 => ⟨_, rfl, spl_f (hv.six _ _) (s9.mod0 m10)⟩
    exact spl_of (fun hh => ⟨fun h0 => absurd h0 (hv.five (by omega) hw (by omega) hh), fun _ => six⟩) (fun _ => six)
  · refine ⟨d1, s5.cell 0 rfl rfl, d2, s5.cell 0 rfl rfl, d3, s5.cell 0 rfl rfl, d4, s5.cell 0 rfl rfl, ?_⟩
    have hw := (s5.nth 1 rfl : CP w5 p s F).1
    exact pgive_run (s5.nth 1 rfl : CP w5 p s F) d1 d2 d3 d4 fun w6 F6 h6 m6 o6 => ⟨_, _, rfl, _, F6, hv.give (by omega) hw d1 d2 d3 d4, (s5.step 1 rfl (cpPart p _ F6) h6 m6 o6).pop⟩
  · refine ⟨d1, s5.cell 0 rfl rfl, d2, s5.cell 0 rfl rfl, ?_⟩
    exact pdrop_run (s5.nth 1 rfl : CP w5 p s F) d1 d2 fun w6 F6 h6 m6 o6 => ⟨_, _, rfl, _, F6, hv.drop d1 d2, (s5.step 1 rfl (cpPart p _ F6) h6 m6 o6).pop⟩
  · refine ⟨d1, s5.cell 0 rfl rfl, d2, s5.cell 0 rfl rfl, ?_⟩
    exact prevoke_run (s5.nth 1 rfl : CP w5 p s F) d1 d2 fun w6 F6 h6 m6 o6 => ⟨_, _, rfl, _, F6, hv.revoke d1 d2, (s5.step 1 rfl (cpPart p _ F6) h6 m6 o6).pop⟩

/-- All but the first, 'g', were made of others. -/
structure Rev (g : CE) (s : S8) : Prop where
  mem : g ∈ s.L
  at_ : g.env = 1 ∧ g.slot = 1 ∧ g.of_ = 0 ∧ g.x = ⟨1, 5, 1, 7⟩
  of_ : ∀ c ∈ s.L, c.of_ = 0 → c = g

theorem Rev.give {g : CE} {s : S8} (hw : W8 s) (h : Rev g s) (e sl to r : Int) : Rev g (giveS8 s e sl to r) := by
  unfold giveS8
  split
  · exact h
  · rename_i c hc
    split
    · unfold putS8
      split
      · exact h
      · have := (hw.in_ c (look8_some hc).1).2.2.2.2.1
        refine ⟨List.mem_append_left _ h.mem, h.at_, fun d hd h0 => ?_⟩
        rcases List.mem_append.1 hd with hd | hd
        · exact h.of_ d hd h0
        · rw [List.mem_singleton.1 hd] at h0
          simp only at h0
          omega
    · exact h
theorem Rev.drop {g : CE} {s : S8} (hw : W8 s) (h : Rev g s) {e sl : Int} (hne : ¬ (e = 1 ∧ sl = 1)) : Rev g (dropS8 s e sl) := by
  unfold dropS8
  split
  · exact h
  · rename_i d hd
    obtain ⟨h1, h2, h3⟩ := look8_some hd
    have hdg : d ≠ g := fun hh => hne ⟨by rw [← h2, hh]; exact h.at_.1, by rw [← h3, hh]; exact h.at_.2.1⟩
    have hdo : d.of_ ≠ 0 := fun hh => hdg (h.of_ d h1 hh)
    have hdn := (hw.in_ d h1).2.2.2.2.1
    have hg : reparent d g = g := by unfold reparent; rw [if_neg (by rw [h.at_.2.2.1]; omega)]
    refine ⟨List.mem_map.2 ⟨g, mem_without.2 ⟨h.mem, fun z => hne ⟨by rw [← z.1]; exact h.at_.1, by rw [← z.2]; exact h.at_.2.1⟩⟩, hg⟩, h.at_, fun c hc h0 => ?_⟩
    obtain ⟨c', hc', rfl⟩ := List.mem_map.1 hc
    unfold reparent at h0 ⊢
    split at h0
    · exact absurd h0 hdo
    · rename_i hn
      rw [if_neg hn]
      exact h.of_ c' (mem_without.1 hc').1 h0
theorem Rev.und {g : CE} {s : S8} (hw : W8 s) (h : Rev g s) : ∀ (n : Nat) (c : CE), c ∈ s.L → c.no.toNat ≤ n → c ≠ g → Und s.L g.no c
  | 0, c, hc, hn, _ => by have := (hw.in_ c hc).2.2.2.2.1; omega
  | n + 1, c, hc, hn, hne => by
    rcases hw.up c hc with h0 | ⟨d, hd, h1, h2⟩
    · exact absurd (h.of_ c hc h0) hne
    · by_cases hdg : d = g
      · exact .here hd h1 (by rw [hdg])
      · exact .step hd h1 (Rev.und hw h n d hd (by have := (hw.in_ d hd).2.2.2.2.1; omega) hdg)
theorem only_one {α : Type} {g : α} {l : List α} (hn : l.Nodup) (hm : g ∈ l) (h : ∀ x ∈ l, x = g) : l = [g] := by
  cases l with
  | nil => cases hm
  | cons x l =>
    obtain rfl := h x (by simp)
    cases l with
    | nil => rfl
    | cons y l =>
      obtain rfl := h y (by simp)
      simp at hn
theorem Rev.end_ {g : CE} {s : S8} (hw : W8 s) (h : Rev g s) : revokeS8 s 1 1 = ⟨[g], s.last⟩ ∧ (revokeV8 s 1 1).2 = 0 := by
  have hl : look8 s.L 1 1 = some g := by
    have := look8_of hw.key h.mem
    rwa [h.at_.1, h.at_.2.1] at this
  unfold revokeS8 revokeV8
  rw [hl]
  refine ⟨?_, rfl⟩
  simp only
  congr 1
  have hnd : s.L.Nodup := List.Pairwise.imp (fun {a b} (h : a.no < b.no) (e : a = b) => by rw [e] at h; omega) hw.no
  refine only_one (List.Pairwise.filter _ hnd) (List.mem_filter.2 ⟨h.mem, ?_⟩) fun c hc => ?_
  · cases hh : isUnder s.L g.no g with
    | false => rfl
    | true => have := und_lt hw ((isUnder_iff hw h.mem).1 hh) h.mem; omega
  · obtain ⟨h1, h2⟩ := List.mem_filter.1 hc
    by_cases hcg : c = g
    · exact hcg
    · rw [(isUnder_iff hw h1).2 (h.und hw _ c h1 (Nat.le_refl _) hcg)] at h2
      cases h2
theorem Rev.get {g : CE} {s : S8} (h : Rev g s) (j : Int) : (getV8 [g] 1 j).2 = decide (j = 1) := by
  unfold getV8 look8
  have : isAt 1 j g = decide (j = 1) := by
    rw [Bool.eq_iff_iff, isAt_iff, h.at_.1, h.at_.2.1]
    simp [eq_comm]
  rw [List.find?_cons, this]
  by_cases hj : j = 1
  · simp [hj]
  · simp [hj]
theorem Rev.holders {g : CE} {s : S8} (h : Rev g s) : holders8 [g] 1 5 = [1] := by
  obtain ⟨h1, h2, h3, h4⟩ := h.at_
  obtain ⟨no, of_, env, slot, x⟩ := g
  simp only at h1 h2 h3 h4
  subst h1 h2 h3 h4
  have : ∀ e : Int, has8 [⟨no, 0, 1, 1, ⟨1, 5, 1, 7⟩⟩] e 1 5 0 = (1 == e) := fun e => by
    have : covers8 ⟨1, 5, 1, 7⟩ 1 5 0 = true := by decide +kernel
    simp [has8, this]
  unfold holders8
  simp only [this]
  decide

theorem revokes_run (w : World) (a : Option Addr) (l c : Nat) (hin : SlIn w 9 Q_januslaw08_Deed a l c) : CallsR Try.prog F_januslaw08_CapsRevokes #[.slice a l c] w fun v w' => v = .bool true ∧ Mod [] w w' := by
  apply R_januslaw08_CapsRevokes_ok
  simp only [R_januslaw08_CapsRevokes, spl_decide, spl_bne, spl_beq]
  refine pnew_run fun p F1 w1 h1 m1 b1 => ⟨_, rfl, spl_f rfl ?_⟩
  have s1 := (Sep.nil (Mod.refl [] w)).push (cpPart p _ F1) m1 h1 b1
  refine frame_run 5 7 fun w2 m2 => ⟨_, _, _, _, rfl, ?_⟩
  have s2 := s1.mod0 m2
  refine padd_run (s2.nth 0 rfl : CP w2 p _ F1) 1 ⟨1, 5, 1, 7⟩ fun w3 F3 h3 m3 o3 => ⟨_, _, rfl, ?_⟩
  rw [aw_add.1] at h3
  have s3 := s2.step 0 rfl (cpPart p _ F3) h3 m3 o3
  rw [aw_add.2]
  refine ⟨fun h => absurd rfl h, fun _ => ?_⟩
  obtain ⟨g, hg⟩ : ∃ g : CE, g = ⟨1, 0, 1, 1, ⟨1, 5, 1, 7⟩⟩ := ⟨_, rfl⟩
  have hv : Rev g aw1 := by
    subst hg
    exact ⟨by simp [aw1], ⟨rfl, rfl, rfl, rfl⟩, fun c hc _ => by simpa [aw1] using hc⟩
  clear hg
  refine ⟨fun w' => ∃ (s : S8) (F : List Nat), Rev g s ∧ Sep w w' [cpPart p s F], ?_, ?_⟩
  · rintro - w4 ⟨s, F, hv, s4⟩
    have hw := (s4.nth 0 rfl : CP w4 p s F).1
    obtain ⟨e1, e2⟩ := hv.end_ hw
    refine prevoke_run (s4.nth 0 rfl : CP w4 p s F) 1 1 fun w5 F5 h5 m5 o5 => ⟨_, _, rfl, ?_⟩
    rw [e1] at h5
    rw [e2]
    have s5 := s4.step 0 rfl (cpPart p _ F5) h5 m5 o5
    refine ⟨fun n t j w' => ∃ k : Nat, j = (k + 1 : Nat) ∧ k ≤ 64 ∧ n = 64 - k ∧ t = (if k = 0 then 0 else 1) ∧ Sep w w' [cpPart p ⟨[g], s.last⟩ F5], ⟨64, 0, rfl, by omega, rfl, rfl, s5⟩, ?_⟩
    rintro n t j - w6 ⟨k, rfl, hk, rfl, rfl, s6⟩
    refine ⟨fun hle => ⟨fun t w' => t = 1 ∧ Sep w w' [cpPart p ⟨[g], s.last⟩ F5], ?_, ?_⟩, fun hgt => ⟨fun _ => ⟨fun _ => ?_, fun h => absurd (if_neg (by omega)) h⟩, fun h => absurd rfl h⟩⟩
    · rintro t - w7 ⟨rfl, s7⟩
      exact ⟨64 - (k + 1), by omega, k + 1, by rw [w64 (by omega) (by omega)]; omega, by omega, rfl, by simp, s7⟩
    · refine pget_run (s6.nth 0 rfl : CP w6 p _ F5) 1 _ fun w7 m7 => ⟨_, _, _, _, _, rfl, ?_⟩
      have s7 := s6.mod0 m7
      refine s7.new fun b w8 s8 m8 hb => s8.st0 0 rfl rfl fun w9 s9 m9 => ?_
      rw [hv.get]
      refine spl_of (fun hj => ⟨?_, s9.pop⟩) (fun hj => ⟨?_, s9.pop⟩)
      · have : k = 0 := by have := of_decide_eq_true hj; omega
        rw [this]; rfl
      · have : k ≠ 0 := by have := of_decide_eq_false hj; omega
        rw [if_neg this]
    · refine pholders_run (s6.nth 0 rfl : CP w6 p _ F5) 1 5 (by decide) fun w8 a8 c8 G8 hs8 hG8 m8 => ⟨_, _, _, rfl, ?_⟩
      have s8 := s6.push (sl a8 _ c8 1 _ G8) m8 hs8 hG8
      refine s8.new fun b w11 s11 m11 hb => ?_
      have hx11 : SlB w11 a8 _ c8 1 _ G8 := s11.nth 1 rfl
      have hy11 : SlB w11 (some ⟨b, 0, none⟩) 1 1 1 (i64s [1]) [b] := SlB.of (vs := i64s [1]) (s11.nth 0 rfl) rfl
      refine ints_rd hx11.rd hy11.rd (by rw [hv.holders]; decide) fun w12 m12 => ⟨_, rfl, ?_⟩
      rw [hv.holders]
      exact spl_t rfl (fin_run (s11.mod0 m12).mod)
  have hlle := hin.le
  refine ⟨fun n i w' => ∃ (k : Nat) (s : S8) (F : List Nat), i = k ∧ k ≤ l ∧ n = l - k ∧ Rev g s ∧ Sep w w' [cpPart p s F], ⟨l, 0, _, F3, rfl, by omega, rfl, hv, s3⟩, ?_⟩
  clear s1 h1 m1 b1 s2 s3 h3 m3 o3 hv m2
  rintro n i - w3 ⟨k, s, F, rfl, hk, rfl, hv, s3⟩
  refine ⟨fun hlt => ⟨fun h3 => ?_, fun _ => ⟨s, F, hv, s3⟩⟩, fun _ => ⟨s, F, hv, s3⟩⟩
  have hkl : k < l := by omega
  obtain ⟨ad, cs, rfl, hadlt, ⟨d0, d1, d2, d3, d4, d5, d6, d7, d8, rfl, -⟩, -, hcell⟩ := hin.at hkl
  have cell : ∀ j v, j < 9 → [Value.int .i64 d0, .int .i64 d1, .int .i64 d2, .int .i64 d3, .int .i64 d4, .int .i64 d5, .int .i64 d6, .int .i64 d7, .int .i64 d8][j]? = some v → w3.cell? (Addr.add (Addr.add ad (k * 9)) j) = some v := fun j v hj hv => by
    rw [← hv, ← hcell j hj]
    exact s3.mod.cell (by rw [add_block, add_block]; exact hadlt)
  simp only [nilK_some, Int.toNat_natCast]
  refine ⟨fun w' => ∃ (s : S8) (F : List Nat), Rev g s ∧ Sep w w' [cpPart p s F], ?_, ⟨by omega, by omega⟩, d0, d1, d2, d3, d4, d5, d6, d7, d8, ⟨by have := cell 0 _ (by decide) rfl; rwa [add_zero] at this, cell 1 _ (by decide) rfl, cell 2 _ (by decide) rfl, cell 3 _ (by decide) rfl, cell 4 _ (by decide) rfl, cell 5 _ (by decide) rfl, cell 6 _ (by decide) rfl, cell 7 _ (by decide) rfl, cell 8 _ (by decide) rfl⟩, ?_⟩
  · rintro - w4 ⟨s, F, hv, s4⟩
    exact ⟨l - (k + 1), by omega, k + 1, s, F, by rw [w64 (by omega) (by omega)]; omega, by omega, rfl, hv, s4⟩
  clear cell hcell
  refine s3.new fun b w4 s4 m4 hb => s4.st0 0 rfl rfl fun w5 s5 m5 => ?_
  have hw := (s5.nth 1 rfl : CP w5 p s F).1
  have dr : ¬ (d1 = 1 ∧ d2 = 1) → CallsR Try.prog F_caps_Caps_Drop #[.pointer (some ⟨p, 0, none⟩), .int .i64 d1, .int .i64 d2] w5 fun v w' => ∃ (a : Bool) (b : Int), v = .tuple #[.bool a, .int .i64 b] ∧ ∃ (s : S8) (F : List Nat), Rev g s ∧ Sep w w' [cpPart p s F] := fun hne =>
    pdrop_run (s5.nth 1 rfl : CP w5 p s F) d1 d2 fun w6 F6 h6 m6 o6 => ⟨_, _, rfl, _, F6, hv.drop hw hne, (s5.step 1 rfl (cpPart p _ F6) h6 m6 o6).pop⟩
  refine ⟨d0, s5.cell 0 rfl rfl, fun _ => ?_, fun _ => ⟨d0, s5.cell 0 rfl rfl, fun _ => ?_, fun _ => ⟨s, F, hv, s5.pop⟩⟩⟩
  · refine ⟨d1, s5.cell 0 rfl rfl, d2, s5.cell 0 rfl rfl, d3, s5.cell 0 rfl rfl, d4, s5.cell 0 rfl rfl, ?_⟩
    exact pgive_run (s5.nth 1 rfl : CP w5 p s F) d1 d2 d3 d4 fun w6 F6 h6 m6 o6 => ⟨_, _, rfl, _, F6, hv.give hw d1 d2 d3 d4, (s5.step 1 rfl (cpPart p _ F6) h6 m6 o6).pop⟩
  · refine ⟨d1, s5.cell 0 rfl rfl, fun hne => ⟨d1, s5.cell 0 rfl rfl, d2, s5.cell 0 rfl rfl, dr fun h => hne h.1⟩, fun heq => ⟨d2, s5.cell 0 rfl rfl, fun hne => ⟨d1, s5.cell 0 rfl rfl, d2, s5.cell 0 rfl rfl, dr fun h => hne h.2⟩, fun _ => ⟨s, F, hv, s5.pop⟩⟩⟩

end Go.Proofs
