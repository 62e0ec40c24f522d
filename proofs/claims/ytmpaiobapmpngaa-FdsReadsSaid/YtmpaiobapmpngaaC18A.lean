/-
  Layer 18: the examples; descriptors that are none; descriptors that share a place.
  Layer 18: descriptors that are none; descriptors that share a place.
-/
import Derived.Test.YtmpaiobapmpngaaF18A
import Derived.Test.YtmpaiobapmpngaaP18A
import Derived.Test.YtmpaiobapmpngaaP18B
set_option linter.unusedVariables false
set_option linter.unusedSimpArgs false
namespace Go.Proofs
open Go Go.Den

def T0 : Tb := List.replicate 48 none
def T1 (b : Nat) : Tb := T0.set 0 (some b)
def T2 (b : Nat) : Tb := (T1 b).set 1 (some b)
def T3 (b : Nat) : Tb := ((T2 b).set 6 (some b)).set 7 (some b)
def T4 (b : Nat) : Tb := (T3 b).set 0 none

theorem t3_len (b : Nat) : (plc (T3 b) b).length = 4 := by
  have h0 : (plc T0 b).length = 0 := by
    rw [plc_nil]
    · rfl
    · have e : dd T0 = [] := by kernel_rfl
      rw [e]
      simp
  rw [T3, plc_len_set (by kernel_rfl), plc_len_set (by kernel_rfl), T2, plc_len_set (by kernel_rfl), T1, plc_len_set (by kernel_rfl), h0]
theorem t4_len (b : Nat) : (plc (T4 b) b).length = 3 := by
  have := plc_len_close (t := T3 b) (k := 0) (q := b) (by kernel_rfl)
  rw [t3_len] at this
  rw [T4]
  omega
theorem dd_T1 {b r : Nat} (h : r ∈ dd (T1 b)) : r = b := by
  rcases (mem_dd_add (t := T0) (k := 0) (q := b) (by kernel_rfl)).1 h with e | e
  · exact e
  · have e0 : dd T0 = [] := by kernel_rfl
    rw [e0] at e; cases e
theorem dd_T2 {b r : Nat} (h : r ∈ dd (T2 b)) : r = b := by
  rcases (mem_dd_add (t := T1 b) (k := 1) (q := b) (by kernel_rfl)).1 h with e | e
  · exact e
  · exact dd_T1 e
theorem dd_T3 {b r : Nat} (h : r ∈ dd (T3 b)) : r = b := by
  rcases (mem_dd_add (t := (T2 b).set 6 (some b)) (k := 7) (q := b) (by kernel_rfl)).1 h with e | e
  · exact e
  · rcases (mem_dd_add (t := T2 b) (k := 6) (q := b) (by kernel_rfl)).1 e with e | e
    · exact e
    · exact dd_T2 e
theorem dd_T4 {b r : Nat} (h : r ∈ dd (T4 b)) : r = b := dd_T3 ((mem_dd_set (t := T3 b) (k := 0) (by show 0 < (T3 b).length; simp [T3, T2, T1, T0]) h).resolve_right (by simp))
theorem nodup_one {l : List Nat} {b : Nat} (hn : l.Nodup) (h : ∀ r, r ∈ l → r = b) : l.length ≤ 1 := by
  match l, hn, h with
  | [], _, _ => simp
  | [x], _, _ => simp
  | x :: y :: l, hn, h =>
    have h1 := h x (by simp)
    have h2 := h y (by simp)
    rw [h1, h2] at hn
    simp at hn

theorem ownF {w : World} {p : Nat} {t t' : Tb} (h : ∀ r, r ∈ dd t' → r ∈ dd t ∨ w.heap.size ≤ r) : Den.Own w (p :: dd t) (p :: dd t') := fun b hb => by
  rcases List.mem_cons.1 hb with e | e
  · exact .inl (by simp [e])
  · rcases h b e with e | e
    · exact .inl (by simp [e])
    · exact .inr e

/-- The descriptors are new, and none. -/
theorem sep_new18 {w w' : World} {p : Nat} {ob : Nat → FX} (hp : FdsP w' p (List.replicate 48 none) ob) (hm : Mod [] w w') (hb : w.heap.size ≤ p) : Den.Sep w w' [fdsPart p T0 ob] :=
  (Den.Sep.nil (Den.Mod.refl [] w)).push (fdsPart p T0 ob) hm hp fun x hx => by
    have e : dd T0 = [] := by kernel_rfl
    have hx : x ∈ p :: dd T0 := hx
    rw [e, List.mem_singleton] at hx
    omega

theorem awake_run (w : World) {K : Value → World → Prop} (hK : ∀ w', Mod [] w w' → K (.bool true) w') : CallsR Try.prog F_januslaw18_awake #[] w K := by
  apply R_januslaw18_awake_ok
  simp only [R_januslaw18_awake]
  refine fds_new (fun _ => fx0) fun p w1 h1 m1 hpb => ⟨_, rfl, ?_⟩
  have s1 := sep_new18 h1 m1 hpb
  simp only [Option.isNone_some, spl_false]
  refine fopen_run h1 1 ⟨2, 4, 0, false⟩ 0 (fun w' h _ => absurd ⟨by omega, by omega⟩ h) (fun w' _ _ h _ => ?_) (fun n b w2 _ _ hf _ hb h2 m2 => ⟨_, _, rfl, ?_⟩)
  · rcases h with h | h
    · have e : free18 (List.replicate 48 none) 1 = some 0 := by kernel_rfl
      rw [e] at h; cases h
    · have e : dd (List.replicate 48 none) = [] := by kernel_rfl
      rw [e] at h; simp at h
  have e : free18 (List.replicate 48 none) 1 = some 0 := by kernel_rfl
  rw [e] at hf
  cases hf
  obtain ⟨ob, hob⟩ : ∃ ob, ob = upO (fun _ => fx0) b ⟨2, 4, 0, false⟩ := ⟨_, rfl⟩
  have hobb : ob b = ⟨2, 4, 0, false⟩ := by rw [hob]; simp [upO]
  rw [← hob] at h2
  have h2 : FdsP w2 p (T1 b) ob := h2
  have s2 : Den.Sep w w2 [fdsPart p (T1 b) ob] := s1.step 0 rfl (fdsPart p (T1 b) ob) h2 m2 (ownF fun r hr => .inr (by rw [dd_T1 hr]; exact hb))
  refine fdup_run h2 1 0 (fun h => ?_) (fun q h hf => ?_) (fun q n w3 hq hf h3 m3 => ⟨_, _, rfl, ?_⟩)
  · have e : nam (T1 b) 1 0 = some b := by kernel_rfl
    rw [e] at h; cases h
  · have e : free18 (T1 b) 1 = some 1 := by kernel_rfl
    rw [e] at hf; cases hf
  have e : nam (T1 b) 1 0 = some b := by kernel_rfl
  rw [e] at hq
  cases hq
  have e : free18 (T1 b) 1 = some 1 := by kernel_rfl
  rw [e] at hf
  cases hf
  have h3 : FdsP w3 p (T2 b) ob := h3
  have hin : ∀ {t : Tb} {r : Nat}, r = b → b ∈ dd t → r ∈ dd t := fun h1 h2 => h1 ▸ h2
  have hb1 : b ∈ dd (T1 b) := mem_dd'.2 ⟨0, by kernel_rfl⟩
  have hb2 : b ∈ dd (T2 b) := mem_dd'.2 ⟨0, by kernel_rfl⟩
  have hb3 : b ∈ dd (T3 b) := mem_dd'.2 ⟨0, by kernel_rfl⟩
  have s3 : Den.Sep w w3 [fdsPart p (T2 b) ob] := s2.step 0 rfl (fdsPart p (T2 b) ob) h3 m3 (ownF fun r hr => .inl (hin (dd_T2 hr) hb1))
  refine ffork_run h3 1 2 fun w4 h4 hd4 m4 => ⟨rfl, ?_⟩
  have e4 : fork18 (T2 b) 1 2 = T3 b := by kernel_rfl
  rw [e4] at h4
  have s4 : Den.Sep w w4 [fdsPart p (T3 b) ob] := s3.step 0 rfl (fdsPart p (T3 b) ob) h4 m4 (ownF fun r hr => .inl (hin (dd_T3 hr) hb2))
  refine fclose_run h4 1 0 (fun w' h _ => ?_) (fun q w5 hq h5 m5 => ⟨_, _, _, _, _, _, rfl, ?_⟩)
  · have e : nam (T3 b) 1 0 = some b := by kernel_rfl
    rw [e] at h; cases h
  have e : nam (T3 b) 1 0 = some b := by kernel_rfl
  rw [e] at hq
  cases hq
  have h5 : FdsP w5 p (T4 b) ob := h5
  have s5 : Den.Sep w w5 [fdsPart p (T4 b) ob] := s4.step 0 rfl (fdsPart p (T4 b) ob) h5 m5 (ownF fun r hr => .inl (hin (dd_T4 hr) hb3))
  refine s5.new fun v1 w6 s6 m6 _ => s6.st0 0 rfl rfl fun w7 s7 m7 => ?_
  refine fget_run (s7.nth 1 rfl) 2 1 (fun w' h _ => ?_) (fun w8 q hq m8 => ⟨_, _, _, _, _, _, rfl, ?_⟩)
  · have e : nam (T4 b) 2 1 = some b := by kernel_rfl
    rw [e] at h; cases h
  have e : nam (T4 b) 2 1 = some b := by kernel_rfl
  rw [e] at hq
  cases hq
  have s8 := s7.mod0 m8
  refine s8.new fun v2 w9 s9 m9 _ => s9.st0 0 rfl rfl fun w10 s10 m10 => ?_
  have e : nam (T4 b) 1 0 = none := by kernel_rfl
  refine fget_run (s10.nth 2 rfl) 1 0 (fun w11 h m11 => ⟨_, _, _, _, _, _, rfl, ?_⟩) (fun w8 q hq m8 => absurd (e.symm.trans hq) (by simp))
  have s11 := s10.mod0 m11
  refine s11.new fun v3 w12 s12 m12 _ => s12.st0 0 rfl rfl fun w13 s13 m13 => ?_
  refine fencode_run (s13.nth 3 rfl) fun A C w14 hw14 => ⟨_, _, _, rfl, ?_⟩
  have s14 := s13.mod0 hw14.mod
  obtain ⟨G, hsl, -, -⟩ := hw14
  have hl48 : (T4 b).length = 48 := by simp [T4, T3, T2, T1, T0]
  obtain ⟨hdec, hcan⟩ := dec_enc (t := T4 b) (ob := ob) hl48 (by have := nodup_one (dd_nodup (T4 b)) fun r hr => dd_T4 hr; omega) (fun q hq => by rw [dd_T4 hq, hobb]; unfold okX; decide)
  refine fdec_run hsl.rd hsl.le (enc_wf hl48) (fun w' h _ => absurd hdec h) (fun w15 p2 t2 ob2 _ h15 _ _ m15 => ⟨_, _, rfl, ?_⟩)
  have s15 := s14.mod0 m15
  rw [spl_beq]
  refine ⟨fun _ => ?_, fun h => absurd rfl h⟩
  rw [spl_beq]
  refine ⟨fun _ => ?_, fun h => absurd rfl h⟩
  rw [spl_beq]
  refine ⟨fun _ => ?_, fun h => absurd rfl h⟩
  rw [spl_beq]
  refine ⟨fun _ => ⟨3, s15.cell 2 rfl (by rw [t3_len]; rfl), ?_⟩, fun h => absurd rfl h⟩
  rw [spl_beq]
  refine ⟨fun _ => ?_, fun h => absurd rfl h⟩
  rw [spl_beq]
  refine ⟨fun _ => ⟨4, s15.cell 1 rfl (by rw [hobb]; rfl), ?_⟩, fun h => absurd rfl h⟩
  rw [spl_beq]
  refine ⟨fun _ => ⟨3, s15.cell 1 rfl (by rw [t4_len]; rfl), ?_⟩, fun h => absurd rfl h⟩
  rw [spl_beq]
  refine ⟨fun _ => ?_, fun h => absurd rfl h⟩
  rw [spl_beq]
  refine ⟨fun _ => ?_, fun h => absurd rfl h⟩
  rw [spl_beq]
  refine ⟨fun _ => ?_, fun h => absurd rfl h⟩
  simp only [Option.isNone_some, Bool.not_false, spl_true]
  rw [spl_beq]
  refine ⟨fun _ => ?_, fun h => absurd rfl h⟩
  refine fleft_run (s15.nth 3 rfl) 1 ⟨_, rfl, ?_⟩
  have e : left18 (T4 b) 1 = 5 := by kernel_rfl
  rw [e, spl_beq]
  refine ⟨fun _ => ?_, fun h => absurd rfl h⟩
  refine fleft_run (s15.nth 3 rfl) 9 ⟨_, rfl, ?_⟩
  have e : left18 (T4 b) 9 = 0 := by kernel_rfl
  rw [e]
  exact hK w15 s15.mod

end Go.Proofs

set_option linter.unusedSimpArgs false
namespace Go.Proofs
open Go Go.Den

theorem none18_run (w : World) (f0 f1 f2 f3 f4 f5 f6 : Int) (f7 : Bool) (f8 : Int) (_ : (Lit.int .i64 f0).wf = true) (_ : (Lit.int .i64 f1).wf = true) (_ : (Lit.int .i64 f2).wf = true) (_ : (Lit.int .i64 f3).wf = true) (_ : (Lit.int .i64 f4).wf = true) (_ : (Lit.int .i64 f5).wf = true) (_ : (Lit.int .i64 f6).wf = true) (_ : (Lit.int .i64 f8).wf = true) :
    CallsR Try.prog F_januslaw18_FdsNone #[.agg #[.int .i64 f0, .int .i64 f1, .int .i64 f2, .int .i64 f3, .int .i64 f4, .int .i64 f5, .int .i64 f6, .bool f7, .int .i64 f8]] w fun v w' => v = .bool true ∧ Mod [] w w' := by
  apply R_januslaw18_FdsNone_ok
  simp only [R_januslaw18_FdsNone]
  refine (Den.Sep.nil (Den.Mod.refl [] w)).new fun b w1 s1 m1 _ => ?_
  refine ⟨_, s1.cell 0 rfl rfl, _, _, _, _, _, ⟨s1.cell 0 rfl rfl, s1.cell 0 rfl rfl, s1.cell 0 rfl rfl, s1.cell 0 rfl rfl, s1.cell 0 rfl rfl⟩, ?_⟩
  refine fopen_nil f1 ⟨f4, f5, f6, f7⟩ f8 fun w2 m2 => ⟨_, _, rfl, ?_⟩
  have s2 := s1.mod0 m2
  refine ⟨_, s2.cell 0 rfl rfl, _, s2.cell 0 rfl rfl, ?_⟩
  refine fdup_nil _ _ ⟨_, _, rfl, ?_⟩
  refine ⟨_, s2.cell 0 rfl rfl, _, s2.cell 0 rfl rfl, ?_⟩
  refine fclose_nil _ _ fun w3 m3 => ⟨_, _, _, _, _, _, rfl, ?_⟩
  have s3 := s2.mod0 m3
  refine s3.new fun b4 w4 s4 m4 _ => s4.st0 0 rfl rfl fun w5 s5 m5 => ?_
  refine ⟨_, s5.cell 1 rfl rfl, _, s5.cell 1 rfl rfl, ?_⟩
  refine fget_nil _ _ fun w6 m6 => ⟨_, _, _, _, _, _, rfl, ?_⟩
  have s6 := s5.mod0 m6
  refine s6.new fun b7 w7 s7 m7 _ => s7.st0 0 rfl rfl fun w8 s8 m8 => ?_
  refine ⟨_, s8.cell 2 rfl rfl, _, s8.cell 2 rfl rfl, ?_⟩
  refine ffork_nil _ _ ⟨rfl, ?_⟩
  rw [spl_beq]
  refine ⟨fun _ => ?_, fun h => absurd rfl h⟩
  rw [spl_beq]
  refine ⟨fun _ => ?_, fun h => absurd rfl h⟩
  rw [spl_beq]
  refine ⟨fun _ => ?_, fun h => absurd rfl h⟩
  rw [spl_beq]
  refine ⟨fun _ => ?_, fun h => absurd rfl h⟩
  refine ⟨_, s8.cell 2 rfl rfl, _, s8.cell 2 rfl rfl, _, s8.cell 2 rfl rfl, ?_⟩
  refine fseek_nil _ _ _ ⟨_, rfl, ?_⟩
  rw [spl_beq]
  refine ⟨fun _ => ?_, fun h => absurd rfl h⟩
  refine ⟨_, s8.cell 2 rfl rfl, ?_⟩
  refine fgone_nil _ fun w9 m9 => ⟨_, _, _, rfl, ?_⟩
  have s9 := s8.mod0 m9
  rw [spl_beq]
  refine ⟨fun _ => ?_, fun h => absurd rfl h⟩
  refine ⟨_, s9.cell 2 rfl rfl, ?_⟩
  refine fleft_nil _ ⟨_, rfl, ?_⟩
  rw [spl_beq]
  refine ⟨fun _ => ?_, fun h => absurd rfl h⟩
  refine fids_nil _ ⟨_, _, _, rfl, ?_⟩
  rw [spl_beq]
  refine ⟨fun _ => ?_, fun h => absurd rfl h⟩
  refine fencode_nil ⟨_, _, _, rfl, ?_⟩
  rw [spl_beq]
  refine ⟨fun _ => ?_, fun h => absurd rfl h⟩
  exact awake_run w9 fun w10 m10 => ⟨_, rfl, rfl, s9.mod.trans' m10⟩

def S2 (a b : Nat) : Tb := (T1 a).set 1 (some b)
def S3 (a b : Nat) : Tb := (S2 a b).set 2 (some a)
def S4 (a b : Nat) : Tb := (((S3 a b).set 6 (some a)).set 7 (some b)).set 8 (some a)

theorem dd_S2 {a b r : Nat} (h : r ∈ dd (S2 a b)) : r = a ∨ r = b := by
  rcases (mem_dd_add (t := T1 a) (k := 1) (q := b) (by kernel_rfl)).1 h with e | e
  · exact .inr e
  · exact .inl (dd_T1 e)
theorem dd_S3 {a b r : Nat} (h : r ∈ dd (S3 a b)) : r = a ∨ r = b := by
  rcases (mem_dd_add (t := S2 a b) (k := 2) (q := a) (by kernel_rfl)).1 h with e | e
  · exact .inl e
  · exact dd_S2 e
theorem dd_S4 {a b r : Nat} (h : r ∈ dd (S4 a b)) : r = a ∨ r = b := by
  rcases (mem_dd_add (t := ((S3 a b).set 6 (some a)).set 7 (some b)) (k := 8) (q := a) (by kernel_rfl)).1 h with e | e
  · exact .inl e
  · rcases (mem_dd_add (t := (S3 a b).set 6 (some a)) (k := 7) (q := b) (by kernel_rfl)).1 e with e | e
    · exact .inr e
    · rcases (mem_dd_add (t := S3 a b) (k := 6) (q := a) (by kernel_rfl)).1 e with e | e
      · exact .inl e
      · exact dd_S3 e
theorem s4_len {a b : Nat} (h : a ≠ b) : (plc (S4 a b) a).length = 4 := by
  have h1 : (plc (T1 a) a).length = 1 := by
    rw [T1, plc_len_set (by kernel_rfl), plc_nil]
    · rfl
    · have e : dd T0 = [] := by kernel_rfl
      rw [e]; simp
  rw [S4, plc_len_set (by kernel_rfl), plc_set_ne (by kernel_rfl) h, plc_len_set (by kernel_rfl), S3, plc_len_set (by kernel_rfl), S2, plc_set_ne (by kernel_rfl) h, h1]

theorem shares18_run (w : World) (off : Int) (ho : (Lit.int .i64 off).wf = true) : CallsR Try.prog F_januslaw18_FdsShares #[.int .i64 off] w fun v w' => v = .bool true ∧ Mod [] w w' := by
  apply R_januslaw18_FdsShares_ok
  simp only [R_januslaw18_FdsShares]
  refine fds_new (fun _ => fx0) fun p w1 h1 m1 hpb => ⟨_, rfl, ?_⟩
  have s1 := sep_new18 h1 m1 hpb
  simp only [Option.isNone_some, spl_false]
  have e0 : free18 (List.replicate 48 none) 1 = some 0 := by kernel_rfl
  have d0 : dd (List.replicate 48 none) = [] := by kernel_rfl
  refine fopen_run h1 1 ⟨2, 7, 0, false⟩ 0 (fun w' h _ => absurd ⟨by omega, by omega⟩ h) (fun w' _ _ h _ => ?_) (fun n a w2 _ _ hf _ ha h2 m2 => ⟨_, _, rfl, ?_⟩)
  · rcases h with h | h
    · rw [e0] at h; cases h
    · rw [d0] at h; simp at h
  rw [e0] at hf
  cases hf
  obtain ⟨ob, hob⟩ : ∃ ob, ob = upO (fun _ => fx0) a ⟨2, 7, 0, false⟩ := ⟨_, rfl⟩
  have hoba : ob a = ⟨2, 7, 0, false⟩ := by rw [hob]; simp [upO]
  rw [← hob] at h2
  have h2 : FdsP w2 p (T1 a) ob := h2
  have s2 : Den.Sep w w2 [fdsPart p (T1 a) ob] := s1.step 0 rfl (fdsPart p (T1 a) ob) h2 m2 (ownF fun r hr => .inr (by rw [dd_T1 hr]; exact ha))
  have e1 : free18 (T1 a) 1 = some 1 := by kernel_rfl
  have ha1 : a ∈ dd (T1 a) := mem_dd'.2 ⟨0, by kernel_rfl⟩
  refine fopen_run h2 1 ⟨2, 7, 0, false⟩ 0 (fun w' h _ => absurd ⟨by omega, by omega⟩ h) (fun w' _ _ h _ => ?_) (fun n b w3 _ _ hf _ hb h3 m3 => ⟨_, _, rfl, ?_⟩)
  · rcases h with h | h
    · rw [e1] at h; cases h
    · have := nodup_one (dd_nodup (T1 a)) fun r hr => dd_T1 hr
      omega
  rw [e1] at hf
  cases hf
  have hab : a ≠ b := fun e => by
    have := h2.lt a (by simp [ha1])
    omega
  obtain ⟨ob2, hob2⟩ : ∃ ob2, ob2 = upO ob b ⟨2, 7, 0, false⟩ := ⟨_, rfl⟩
  have hob2a : ob2 a = ⟨2, 7, 0, false⟩ := by rw [hob2]; simp [upO, Ne.symm hab, hoba]
  have hob2b : ob2 b = ⟨2, 7, 0, false⟩ := by rw [hob2]; simp [upO]
  rw [← hob2] at h3
  have h3 : FdsP w3 p (S2 a b) ob2 := h3
  have s3 : Den.Sep w w3 [fdsPart p (S2 a b) ob2] := s2.step 0 rfl (fdsPart p (S2 a b) ob2) h3 m3 (ownF fun r hr => by
    rcases dd_S2 hr with e | e
    · exact .inl (by rw [e]; exact ha1)
    · exact .inr (by rw [e]; exact hb))
  have n2 : nam (S2 a b) 1 0 = some a := by kernel_rfl
  have e2 : free18 (S2 a b) 1 = some 2 := by kernel_rfl
  have hin2 : ∀ r, r = a ∨ r = b → r ∈ dd (S2 a b) := fun r h => by
    rcases h with rfl | rfl
    · exact mem_dd'.2 ⟨0, by kernel_rfl⟩
    · exact mem_dd'.2 ⟨1, by kernel_rfl⟩
  have hin3 : ∀ r, r = a ∨ r = b → r ∈ dd (S3 a b) := fun r h => by
    rcases h with rfl | rfl
    · exact mem_dd'.2 ⟨0, by kernel_rfl⟩
    · exact mem_dd'.2 ⟨1, by kernel_rfl⟩
  have hin4 : ∀ r, r = a ∨ r = b → r ∈ dd (S4 a b) := fun r h => by
    rcases h with rfl | rfl
    · exact mem_dd'.2 ⟨0, by kernel_rfl⟩
    · exact mem_dd'.2 ⟨1, by kernel_rfl⟩
  refine fdup_run h3 1 0 (fun h => by rw [n2] at h; cases h) (fun q h hf => by rw [e2] at hf; cases hf) (fun q n w4 hq hf h4 m4 => ⟨_, _, rfl, ?_⟩)
  rw [n2] at hq
  cases hq
  rw [e2] at hf
  cases hf
  have h4 : FdsP w4 p (S3 a b) ob2 := h4
  have s4 : Den.Sep w w4 [fdsPart p (S3 a b) ob2] := s3.step 0 rfl (fdsPart p (S3 a b) ob2) h4 m4 (ownF fun r hr => .inl (hin2 r (dd_S3 hr)))
  refine ffork_run h4 1 2 fun w5 h5 hd5 m5 => ⟨rfl, ?_⟩
  have e5 : fork18 (S3 a b) 1 2 = S4 a b := by kernel_rfl
  rw [e5] at h5
  have s5 : Den.Sep w w5 [fdsPart p (S4 a b) ob2] := s4.step 0 rfl (fdsPart p (S4 a b) ob2) h5 m5 (ownF fun r hr => .inl (hin3 r (dd_S4 hr)))
  have n5 : nam (S4 a b) 2 2 = some a := by kernel_rfl
  have g0 : nam (S4 a b) 1 0 = some a := by kernel_rfl
  have g1 : nam (S4 a b) 1 1 = some b := by kernel_rfl
  have hl4 := s4_len hab
  refine fseek_run h5 2 2 off (fun h => by rw [n5] at h; cases h) (fun q hq hneg => ⟨_, rfl, ?_⟩) (fun q w6 hq hnn h6 m6 => ⟨_, rfl, ?_⟩)
  · refine fget_run h5 1 0 (fun w' h _ => absurd (g0.symm.trans h) (by simp)) (fun w7 q hq m7 => ⟨_, _, _, _, _, _, rfl, ?_⟩)
    rw [g0] at hq
    cases hq
    have s7 := s5.mod0 m7
    refine s7.new fun v1 w8 s8 m8 _ => s8.st0 0 rfl rfl fun w9 s9 m9 => ?_
    refine fget_run (s9.nth 1 rfl) 1 1 (fun w' h _ => absurd (g1.symm.trans h) (by simp)) (fun w10 q hq m10 => ⟨_, _, _, _, _, _, rfl, ?_⟩)
    have s10 := s9.mod0 m10
    refine s10.new fun v2 w11 s11 m11 _ => s11.st0 0 rfl rfl fun w12 s12 m12 => ?_
    rw [spl_decide]
    refine ⟨fun _ => ?_, fun h => absurd hneg h⟩
    rw [spl_beq]
    refine ⟨fun _ => ⟨0, s12.cell 1 rfl (by rw [hob2a]; rfl), ?_⟩, fun h => absurd rfl h⟩
    rw [spl_beq]
    refine ⟨fun _ => ?_, fun h => absurd rfl h⟩
    exact awake_run w12 fun w13 m13 => ⟨_, rfl, rfl, s12.mod.trans' m13⟩
  · rw [n5] at hq
    cases hq
    rw [hob2a] at h6
    obtain ⟨ob3, hob3⟩ : ∃ ob3, ob3 = upO ob2 a ⟨2, 7, off, false⟩ := ⟨_, rfl⟩
    have hob3a : ob3 a = ⟨2, 7, off, false⟩ := by rw [hob3]; simp [upO]
    have hob3b : ob3 b = ⟨2, 7, 0, false⟩ := by rw [hob3]; simp [upO, hab, hob2b]
    have h6 : FdsP w6 p (S4 a b) ob3 := by rw [hob3]; exact h6
    have s6 : Den.Sep w w6 [fdsPart p (S4 a b) ob3] := s5.step 0 rfl (fdsPart p (S4 a b) ob3) h6 m6 (ownF fun r hr => .inl hr)
    refine fget_run h6 1 0 (fun w' h _ => absurd (g0.symm.trans h) (by simp)) (fun w7 q hq m7 => ⟨_, _, _, _, _, _, rfl, ?_⟩)
    rw [g0] at hq
    cases hq
    have s7 := s6.mod0 m7
    refine s7.new fun v1 w8 s8 m8 _ => s8.st0 0 rfl rfl fun w9 s9 m9 => ?_
    refine fget_run (s9.nth 1 rfl) 1 1 (fun w' h _ => absurd (g1.symm.trans h) (by simp)) (fun w10 q hq m10 => ⟨_, _, _, _, _, _, rfl, ?_⟩)
    rw [g1] at hq
    cases hq
    have s10 := s9.mod0 m10
    refine s10.new fun v2 w11 s11 m11 _ => s11.st0 0 rfl rfl fun w12 s12 m12 => ?_
    rw [spl_decide]
    refine ⟨fun h => absurd h (by omega), fun _ => ?_⟩
    rw [spl_beq]
    refine ⟨fun _ => ⟨off, s12.cell 1 rfl (by rw [hob3a]; rfl), ?_⟩, fun h => absurd rfl h⟩
    rw [spl_beq]
    refine ⟨fun _ => ⟨0, s12.cell 0 rfl (by rw [hob3b]; rfl), ?_⟩, fun h => absurd rfl h⟩
    rw [spl_beq]
    refine ⟨fun _ => ⟨7, s12.cell 1 rfl (by rw [hob3a]; rfl), ?_⟩, fun h => absurd rfl h⟩
    rw [spl_beq]
    refine ⟨fun _ => ⟨4, s12.cell 1 rfl (by rw [hl4]; rfl), ?_⟩, fun h => absurd rfl h⟩
    rw [spl_beq]
    refine ⟨fun _ => ?_, fun h => absurd rfl h⟩
    exact awake_run w12 fun w13 m13 => ⟨_, rfl, rfl, s12.mod.trans' m13⟩

end Go.Proofs
