/-
  Layer 18: Refs of a file is how many descriptors name it.
-/
import Derived.Test.YtmpaiobapmpngaaC18A
set_option linter.unusedVariables false
set_option linter.unusedSimpArgs false
namespace Go.Proofs
open Go Go.Den

/-- Files by their numbers. -/
def Ids18 (t : Tb) (ob : Nat → FX) (id : Nat) : Prop := (∀ q, q ∈ dd t → 1 ≤ (ob q).i ∧ (ob q).i ≤ id) ∧ ∀ q q', q ∈ dd t → q' ∈ dd t → (ob q).i = (ob q').i → q = q'
theorem Ids18.sub {t t' : Tb} {ob : Nat → FX} {id id' : Nat} (h : Ids18 t ob id) (hs : ∀ r, r ∈ dd t' → r ∈ dd t) (hi : id ≤ id') : Ids18 t' ob id' :=
  ⟨fun q hq => by have := h.1 q (hs q hq); omega, fun q q' hq hq' e => h.2 q q' (hs q hq) (hs q' hq') e⟩
theorem Ids18.open {t : Tb} {ob : Nat → FX} {id k b : Nat} (h : Ids18 t ob id) (h0 : t[k]? = some none) (hb : b ∉ dd t) : Ids18 (t.set k (some b)) (upO ob b ⟨2, ((id + 1 : Nat) : Int), 0, false⟩) (id + 1) := by
  have hob : ∀ q, q ∈ dd t → upO ob b ⟨2, ((id + 1 : Nat) : Int), 0, false⟩ q = ob q := fun q hq => by
    unfold upO
    rw [if_neg]
    rintro rfl
    exact hb hq
  have hbb : upO ob b ⟨2, ((id + 1 : Nat) : Int), 0, false⟩ b = ⟨2, ((id + 1 : Nat) : Int), 0, false⟩ := by unfold upO; rw [if_pos rfl]
  refine ⟨fun q hq => ?_, fun q q' hq hq' e => ?_⟩
  · rcases (mem_dd_add h0).1 hq with rfl | hq
    · rw [hbb]; simp only; omega
    · rw [hob q hq]; have := h.1 q hq; omega
  · rcases (mem_dd_add h0).1 hq with e1 | h1 <;> rcases (mem_dd_add h0).1 hq' with e2 | h2
    · rw [e1, e2]
    · rw [e1, hbb, hob q' h2] at e; have := h.1 q' h2; simp only at e; omega
    · rw [e2, hbb, hob q h1] at e; have := h.1 q h1; simp only at e; omega
    · rw [hob q h1, hob q' h2] at e; exact h.2 q q' h1 h2 e

def cnt (t : Tb) (ob : Nat → FX) (n i : Nat) : Nat := ((List.range n).filter fun k => match atT t k with
  | some q => decide ((ob q).i = (i : Int))
  | none => false).length
theorem cnt_none {t : Tb} {ob : Nat → FX} {n : Nat} (h : atT t n = none) : cnt t ob (n + 1) = cnt t ob n := by
  funext i
  unfold cnt
  rw [List.range_succ, List.filter_append]
  simp [h]
theorem cnt_some {t : Tb} {ob : Nat → FX} {n q : Nat} (h : atT t n = some q) (i : Nat) : cnt t ob (n + 1) i = cnt t ob n i + if (ob q).i = (i : Int) then 1 else 0 := by
  unfold cnt
  rw [List.range_succ, List.filter_append, List.length_append]
  congr 1
  by_cases h1 : (ob q).i = (i : Int) <;> simp [h, h1]
theorem cnt_le (t : Tb) (ob : Nat → FX) (n i : Nat) : cnt t ob n i ≤ n := by
  unfold cnt
  have := List.length_filter_le (fun k => match atT t k with
    | some q => decide ((ob q).i = (i : Int))
    | none => false) (List.range n)
  simpa using this
theorem cnt_all {t : Tb} {ob : Nat → FX} {id : Nat} (h : Ids18 t ob id) (hl : t.length = 48) {q : Nat} (hq : q ∈ dd t) : cnt t ob 48 (ob q).i.toNat = (plc t q).length := by
  unfold cnt plc
  rw [hl]
  congr 1
  apply List.filter_congr
  intro k hk
  have hk : k < 48 := List.mem_range.1 hk
  have h1 := (h.1 q hq).1
  have ht : t[k]? = some (atT t k) := atT_get (by omega)
  rw [ht]
  cases ha : atT t k with
  | none => simp
  | some q' =>
    rw [ha] at ht
    have hq' : q' ∈ dd t := mem_dd'.2 ⟨k, ht⟩
    simp only
    rw [Bool.eq_iff_iff, decide_eq_true_eq, beq_iff_eq]
    constructor
    · intro e
      rw [h.2 q' q hq' hq (by omega)]
    · intro e
      cases e
      omega

def cntA (f : Nat → Nat) : Array Value := ((List.range 101).map fun i => Value.int .i64 (f i : Int)).toArray
theorem cntA_at {f : Nat → Nat} {i : Nat} (h : i < 101) : (cntA f)[i]? = some (.int .i64 (f i : Int)) := by
  simp [cntA, h]
theorem cntA_size (f : Nat → Nat) : (cntA f).size = 101 := by simp [cntA]
theorem cntA_set {f f' : Nat → Nat} {i : Nat} {v : Int} (h1 : (f' i : Int) = v) (h2 : ∀ j, j ≠ i → f' j = f j) : (cntA f).setIfInBounds i (.int .i64 v) = cntA f' := by
  apply Array.ext_getElem?
  intro j
  rw [Array.getElem?_setIfInBounds, cntA_size]
  by_cases hj : i = j
  · subst hj
    rw [if_pos rfl]
    by_cases hl : i < 101
    · rw [if_pos hl, cntA_at hl, h1]
    · rw [if_neg hl, Array.getElem?_eq_none (by rw [cntA_size]; omega)]
  · rw [if_neg hj]
    by_cases hl : j < 101
    · rw [cntA_at hl, cntA_at hl, h2 j (Ne.symm hj)]
    · rw [Array.getElem?_eq_none (by rw [cntA_size]; omega), Array.getElem?_eq_none (by rw [cntA_size]; omega)]
def cv (t : Tb) (ob : Nat → FX) (r m : Nat) : Nat → Nat := if r = 0 then cnt t ob m else cnt t ob 48

theorem nam_atT {t : Tb} (ht : t.length = 48) {q k : Nat} (hq : q < 8) (hk : k < 6) : nam t ((q : Int) + 1) k = atT t (q * 6 + k) := by
  have ho : okPF ((q : Int) + 1) k := ⟨by omega, by omega, by omega, by omega⟩
  have hpl : pl ((q : Int) + 1) k = q * 6 + k := by unfold pl plN; omega
  unfold nam atT
  rw [if_pos ho, hpl]

theorem refs18_run (w : World) (a : Option Addr) (l c : Nat) (hin : SlIn w 9 Q_januslaw18_Deed a l c) : CallsR Try.prog F_januslaw18_FdsRefs #[.slice a l c] w fun v w' => v = .bool true ∧ Mod [] w w' := by
  apply R_januslaw18_FdsRefs_ok
  simp only [R_januslaw18_FdsRefs, spl_decide, spl_beq, spl_bne]
  have hlle := hin.le
  refine fds_new (fun _ => fx0) fun p w1 h1 m1 hpb => ⟨_, rfl, ?_⟩
  have s1 := sep_new18 h1 m1 hpb
  simp only [Option.isNone_some, spl_false]
  refine ⟨fun w' => ∃ (id : Nat) (t : Tb) (ob : Nat → FX), id ≤ 100 ∧ Ids18 t ob id ∧ Den.Sep w w' [fdsPart p t ob], ?_, ?_⟩
  · rintro - w2 ⟨id, t, ob, hid, hI, s2⟩
    have hlen : t.length = 48 := (s2.nth 0 rfl : FdsP w2 p t ob).len
    refine s2.new fun b w3 s3 m3 _ => ?_
    have e0 : zc Try.prog 48 = cntA (fun _ => 0) := by kernel_rfl
    have e1 : cv t ob 0 0 = fun _ => 0 := by funext i; simp [cv, cnt]
    rw [e0, ← e1] at s3
    refine ⟨fun n round w' => ∃ r : Nat, round = r ∧ r ≤ 2 ∧ n = 2 - r ∧ Den.Sep w w' [blk b (.cells (cntA (cv t ob r 0)) 48 (0, 0)), fdsPart p t ob], ⟨2, 0, rfl, by omega, by omega, s3⟩, ?_⟩
    rintro n round - w4 ⟨r, rfl, hr, rfl, s4⟩
    refine ⟨fun hlt => ?_, fun hge => awake_run w4 fun w5 m5 => ⟨_, rfl, rfl, s4.mod.trans' m5⟩⟩
    refine ⟨fun n p16 w' => ∃ q : Nat, p16 = (q : Int) + 1 ∧ q ≤ 8 ∧ n = 8 - q ∧ Den.Sep w w' [blk b (.cells (cntA (cv t ob r (q * 6))) 48 (0, 0)), fdsPart p t ob], ⟨8, 0, rfl, by omega, by omega, by rw [Nat.zero_mul]; exact s4⟩, ?_⟩
    rintro n p16 - w5 ⟨q, rfl, hq, rfl, s5⟩
    refine ⟨fun hlt2 => ?_, fun hge2 => ⟨2 - (r + 1), by omega, r + 1, by rw [w64 (by omega) (by omega)]; omega, by omega, rfl, ?_⟩⟩
    rotate_left
    · obtain rfl : q = 8 := by omega
      rw [show cv t ob (r + 1) 0 = cv t ob r (8 * 6) from by
        unfold cv
        by_cases h : r = 0 <;> simp [h]]
      exact s5
    refine ⟨fun n n21 fd w' => ∃ k : Nat, fd = k ∧ k ≤ 6 ∧ n = 6 - k ∧ n21 = (leftN t ((q : Int) + 1) k : Int) ∧ Den.Sep w w' [blk b (.cells (cntA (cv t ob r (q * 6 + k))) 48 (0, 0)), fdsPart p t ob], ⟨6, 0, rfl, by omega, by omega, rfl, s5⟩, ?_⟩
    rintro n n21 fd - w6 ⟨k, rfl, hk, rfl, rfl, s6⟩
    have hle := leftN_le t ((q : Int) + 1) k
    refine ⟨fun hlt3 => ?_, fun hge3 => ?_⟩
    · have ho : okPF ((q : Int) + 1) k := ⟨by omega, by omega, by omega, by omega⟩
      have hat := nam_atT hlen (q := q) (k := k) (by omega) (by omega)
      refine ⟨fun n' w' => n' = (leftN t ((q : Int) + 1) (k + 1) : Int) ∧ Den.Sep w w' [blk b (.cells (cntA (cv t ob r (q * 6 + (k + 1)))) 48 (0, 0)), fdsPart p t ob], fun n' _ w' hj => ⟨6 - (k + 1), by omega, k + 1, by rw [w64 (by omega) (by omega)]; omega, by omega, rfl, hj.1, hj.2⟩, ?_⟩
      refine fget_run (s6.nth 1 rfl) _ _ (fun w7 hn m7 => ⟨_, _, _, _, _, _, rfl, ?_⟩) (fun w7 x hx m7 => ⟨_, _, _, _, _, _, rfl, ?_⟩)
      · have s7 := s6.mod0 m7
        refine s7.new fun v w8 s8 m8 _ => s8.st0 0 rfl rfl fun w9 s9 m9 => ⟨fun _ => ⟨?_, ?_⟩, fun h => absurd h (by decide)⟩
        · rw [leftN_succ, w64 (by omega) (by omega)]
          simp [ho, hn]
        · have e : cv t ob r (q * 6 + (k + 1)) = cv t ob r (q * 6 + k) := by
            unfold cv
            rw [← Nat.add_assoc, cnt_none (hat.symm.trans hn)]
          rw [e]
          exact Den.Sep.pop s9
      · have s7 := s6.mod0 m7
        refine s7.new fun v w8 s8 m8 _ => s8.st0 0 rfl rfl fun w9 s9 m9 => ⟨fun h => absurd rfl h, fun _ => ?_⟩
        obtain ⟨hxd, -, -⟩ := nam_dd hx
        obtain ⟨hi1, hi2⟩ := hI.1 x hxd
        have hall := cnt_all hI hlen hxd
        obtain ⟨i, hi⟩ : ∃ i : Nat, (ob x).i = i := ⟨(ob x).i.toNat, by omega⟩
        have hi101 : i < 101 := by omega
        rw [hi, Int.toNat_natCast] at hall
        have hsucc : leftN t ((q : Int) + 1) (k + 1) = leftN t ((q : Int) + 1) k := by
          rw [leftN_succ]
          simp [hx]
        refine ⟨fun w' => Den.Sep w w' [blk v (.cells #[.int .i64 (ob x).k, .int .i64 (ob x).i, .int .i64 (ob x).o, .bool (ob x).a, .int .i64 ((plc t x).length : Int)] 37 (0, 0)), blk b (.cells (cntA (cv t ob r (q * 6 + k))) 48 (0, 0)), fdsPart p t ob], ?_, ?_⟩
        · rintro - w10 s10
          refine ⟨fun h0 => ?_, fun h0 => ⟨by rw [hsucc], ?_⟩⟩
          · obtain rfl : r = 0 := by omega
            refine ⟨_, s10.cell 0 rfl rfl, ⟨by omega, by omega⟩, ((cv t ob 0 (q * 6 + k) i : Nat) : Int), ?_, ⟨by omega, by omega⟩, ?_⟩
            · rw [hi, Int.toNat_natCast, addr_add, Nat.zero_add]
              exact s10.cell 1 rfl (cntA_at hi101)
            · rw [hi, Int.toNat_natCast, addr_add, Nat.zero_add]
              refine s10.st 1 rfl (by rw [cntA_size]; simp; omega) fun w11 s11 m11 => ⟨by rw [hsucc], ?_⟩
              simp only [splice_cons, splice_nil] at s11
              have hcl : cv t ob 0 (q * 6 + k) i ≤ q * 6 + k := cnt_le _ _ _ _
              rw [cntA_set (f' := cv t ob 0 (q * 6 + (k + 1))) (i := i)] at s11
              · exact Den.Sep.pop s11
              · rw [w64 (by omega) (by omega)]
                show ((cnt t ob (q * 6 + (k + 1)) i : Nat) : Int) = ((cnt t ob (q * 6 + k) i : Nat) : Int) + 1
                rw [← Nat.add_assoc, cnt_some (hat.symm.trans hx), hi, if_pos rfl]
                omega
              · intro j hj
                show cnt t ob (q * 6 + (k + 1)) j = cnt t ob (q * 6 + k) j
                rw [← Nat.add_assoc, cnt_some (hat.symm.trans hx), hi, if_neg (by omega)]
                rfl
          · have e : cv t ob r (q * 6 + (k + 1)) = cv t ob r (q * 6 + k) := by
              unfold cv
              rw [if_neg (by omega), if_neg (by omega)]
            rw [e]
            exact Den.Sep.pop s10
        · rw [drK_eq]
          have s10 := s9.mod0 ((Mod.refl [] w9).drew)
          refine ⟨_, s10.cell 0 rfl rfl, fun h => absurd h (by omega), fun _ => ⟨_, s10.cell 0 rfl rfl, fun h => absurd h (by omega), fun _ => ⟨fun h1 => ?_, fun h1 => s10⟩⟩⟩
          obtain rfl : r = 1 := by omega
          refine ⟨_, s10.cell 0 rfl rfl, ⟨by omega, by omega⟩, ((cv t ob 1 (q * 6 + k) i : Nat) : Int), ?_, _, s10.cell 0 rfl rfl, fun h => ?_, fun _ => s10⟩
          · rw [hi, Int.toNat_natCast, addr_add, Nat.zero_add]
            exact s10.cell 1 rfl (cntA_at hi101)
          · exact absurd (by rw [← hall]; rfl) h
    · obtain rfl : k = 6 := by omega
      refine fleft_run (s6.nth 1 rfl) _ ⟨_, rfl, fun h => absurd rfl h, fun _ => ⟨8 - (q + 1), by omega, q + 1, by rw [w64 (by omega) (by omega)]; omega, by omega, rfl, ?_⟩⟩
      rw [show (q + 1) * 6 = q * 6 + 6 by omega]
      exact s6
  · refine ⟨fun n id i w' => ∃ (k id' : Nat) (t : Tb) (ob : Nat → FX), i = k ∧ id = id' ∧ k ≤ l ∧ k ≤ 100 ∧ n = l - k ∧ id' ≤ k ∧ Ids18 t ob id' ∧ Den.Sep w w' [fdsPart p t ob], ⟨l, 0, 0, T0, fun _ => fx0, rfl, rfl, by omega, by omega, rfl, by omega, ?_, s1⟩, ?_⟩
    · have e : dd T0 = [] := by kernel_rfl
      unfold Ids18
      rw [e]
      exact ⟨by simp, by simp⟩
    rintro n id i - w2 ⟨k, id, t, ob, rfl, rfl, hk, hk1, rfl, hid, hI, s2⟩
    refine ⟨fun hlt => ⟨fun h100 => ?_, fun _ => ⟨id, t, ob, by omega, hI, s2⟩⟩, fun _ => ⟨id, t, ob, by omega, hI, s2⟩⟩
    have hkl : k < l := by omega
    refine ⟨fun id' w' => ∃ (id2 : Nat) (t : Tb) (ob : Nat → FX), id' = id2 ∧ id2 ≤ k + 1 ∧ Ids18 t ob id2 ∧ Den.Sep w w' [fdsPart p t ob], fun id' _ w' ⟨id2, t2, ob2, h1, h2, h3, h4⟩ => ⟨l - (k + 1), by omega, k + 1, id2, t2, ob2, by rw [w64 (by omega) (by omega)]; omega, h1, by omega, by omega, rfl, by omega, h3, h4⟩, ?_⟩
    obtain ⟨ad, cs, rfl, hadlt, ⟨d0, d1, d2, d3, d4, d5, d6, d7, d8, rfl, -⟩, -, hcell⟩ := hin.at hkl
    have cell : ∀ j v, j < 9 → [Value.int .i64 d0, .int .i64 d1, .int .i64 d2, .int .i64 d3, .int .i64 d4, .int .i64 d5, .int .i64 d6, .bool d7, .int .i64 d8][j]? = some v → w2.cell? (Addr.add (Addr.add ad (k * 9)) j) = some v := fun j v hj hv => by
      rw [← hv, ← hcell j hj]
      exact s2.mod.cell (by rw [add_block, add_block]; exact hadlt)
    simp only [nilK_some, Int.toNat_natCast]
    refine ⟨⟨by omega, by omega⟩, d0, d1, d2, d3, d4, d5, d6, d7, d8, ⟨by have := cell 0 _ (by decide) rfl; rwa [add_zero] at this, cell 1 _ (by decide) rfl, cell 2 _ (by decide) rfl, cell 3 _ (by decide) rfl, cell 4 _ (by decide) rfl, cell 5 _ (by decide) rfl, cell 6 _ (by decide) rfl, cell 7 _ (by decide) rfl, cell 8 _ (by decide) rfl⟩, ?_⟩
    clear cell hcell
    refine s2.new fun v w3 s3 m3 _ => s3.st0 0 rfl rfl fun w4 s4 m4 => ?_
    have s5 : Den.Sep w w4 [fdsPart p t ob] := Den.Sep.pop s4
    have hF : FdsP w4 p t ob := s5.nth 0 rfl
    have hlt4 := hF.lt
    have e : IntKind.i64.wrap ((id : Int) + 1) = ((id + 1 : Nat) : Int) := by rw [w64 (by omega) (by omega)]; omega
    rw [e]
    refine ⟨_, s4.cell 0 rfl rfl, fun _ => ?_, fun _ => ⟨fun _ => ?_, fun _ => ⟨fun _ => ?_, fun _ => ⟨fun _ => ?_, fun _ => ⟨fun _ => ?_, fun _ => ?_⟩⟩⟩⟩⟩
    · refine ⟨_, s4.cell 0 rfl rfl, ?_⟩
      refine fopen_run hF d1 ⟨2, ((id + 1 : Nat) : Int), 0, false⟩ 0 (fun w5 _ m5 => ⟨_, _, rfl, id + 1, t, ob, rfl, by omega, hI.sub (fun _ h => h) (by omega), s5.mod0 m5⟩) (fun w5 _ _ _ m5 => ⟨_, _, rfl, id + 1, t, ob, rfl, by omega, hI.sub (fun _ h => h) (by omega), s5.mod0 m5⟩) (fun n b w5 hp1 hp2 hf _ hb h5 m5 => ⟨_, _, rfl, id + 1, t.set (pl d1 n) (some b), upO ob b ⟨2, ((id + 1 : Nat) : Int), 0, false⟩, rfl, by omega, ?_, ?_⟩)
      · exact hI.open (free_none hF.len hp1 hp2 hf).2.1 fun hm => by have := hlt4 b (by simp [hm]); omega
      · exact s5.step 0 rfl (fdsPart p (t.set (pl d1 n) (some b)) (upO ob b ⟨2, ((id + 1 : Nat) : Int), 0, false⟩)) h5 m5 (ownF fun r hr => ((mem_dd_add (free_none hF.len hp1 hp2 hf).2.1).1 hr).elim (fun e => .inr (by rw [e]; exact hb)) .inl)
    · refine ⟨_, s4.cell 0 rfl rfl, _, s4.cell 0 rfl rfl, ?_⟩
      refine fdup_run hF d1 d2 (fun _ => ⟨_, _, rfl, id, t, ob, rfl, by omega, hI, s5⟩) (fun _ _ _ => ⟨_, _, rfl, id, t, ob, rfl, by omega, hI, s5⟩) (fun q n w5 hq hf h5 m5 => ?_)
      obtain ⟨hqd, ⟨hp1, hp2, -, -⟩, -⟩ := nam_dd hq
      have hsub : ∀ r, r ∈ dd (t.set (pl d1 n) (some q)) → r ∈ dd t := fun r hr => ((mem_dd_add (free_none hF.len hp1 hp2 hf).2.1).1 hr).elim (fun e => by rw [e]; exact hqd) fun h => h
      exact ⟨_, _, rfl, id, t.set (pl d1 n) (some q), ob, rfl, by omega, hI.sub hsub (Nat.le_refl _), s5.step 0 rfl (fdsPart p (t.set (pl d1 n) (some q)) ob) h5 m5 (ownF fun r hr => .inl (hsub r hr))⟩
    · refine ⟨_, s4.cell 0 rfl rfl, _, s4.cell 0 rfl rfl, ?_⟩
      refine fclose_run hF d1 d2 (fun w5 _ m5 => ⟨_, _, _, _, _, _, rfl, id, t, ob, rfl, by omega, hI, s5.mod0 m5⟩) (fun q w5 hq h5 m5 => ?_)
      obtain ⟨hqd, ho, -⟩ := nam_dd hq
      have hsub : ∀ r, r ∈ dd (t.set (pl d1 d2) none) → r ∈ dd t := fun r hr => (mem_dd_set (by rw [hF.len]; exact pl_lt ho) hr).elim (fun h => h) fun e => by cases e
      exact ⟨_, _, _, _, _, _, rfl, id, t.set (pl d1 d2) none, ob, rfl, by omega, hI.sub hsub (Nat.le_refl _), s5.step 0 rfl (fdsPart p (t.set (pl d1 d2) none) ob) h5 m5 (ownF fun r hr => .inl (hsub r hr))⟩
    · refine ⟨_, s4.cell 0 rfl rfl, _, s4.cell 0 rfl rfl, ?_⟩
      refine ffork_run hF d1 d3 fun w5 h5 hd5 m5 => ⟨rfl, id, _, ob, rfl, by omega, hI.sub hd5 (Nat.le_refl _), s5.step 0 rfl (fdsPart p (fork18 t d1 d3) ob) h5 m5 (ownF fun r hr => .inl (hd5 r hr))⟩
    · refine ⟨_, s4.cell 0 rfl rfl, ?_⟩
      refine fgone_run hF d1 fun A C w5 _ h5 hd5 m5 => ⟨_, _, _, rfl, id, _, ob, rfl, by omega, hI.sub hd5 (Nat.le_refl _), s5.step 0 rfl (fdsPart p (gone18 t d1 6) ob) h5 m5 (ownF fun r hr => .inl (hd5 r hr))⟩
    · exact ⟨id, t, ob, rfl, by omega, hI, s5⟩

end Go.Proofs
