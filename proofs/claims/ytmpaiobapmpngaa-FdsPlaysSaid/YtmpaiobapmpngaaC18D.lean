/-
  Layer 18: any deeds, each answer as the document's.
-/
import Derived.Test.YtmpaiobapmpngaaC18A
import Derived.Test.YtmpaiobapmpngaaR18A
import Derived.Test.YtmpaiobapmpngaaUtA
set_option linter.unusedVariables false
set_option linter.unusedSimpArgs false
namespace Go.Proofs
open Go Go.Den

instance (x : FX) : Decidable (okX x) := by unfold okX; infer_instance

theorem nat_nodup_le : ∀ {a b : List Nat}, a.Nodup → (∀ x ∈ a, x ∈ b) → a.length ≤ b.length
  | [], _, _, _ => by simp
  | x :: a, b, hn, h => by
    rw [List.nodup_cons] at hn
    obtain ⟨h1, h2⟩ := hn
    have hx := h x (by simp)
    have := nat_nodup_le (b := b.erase x) h2 fun y hy => (List.mem_erase_of_ne (show y ≠ x from fun e => h1 (by rw [← e]; exact hy))).2 (h y (by simp [hy]))
    rw [List.length_erase_of_mem hx] at this
    have := List.length_pos_of_mem hx
    simp only [List.length_cons]
    omega

def Ok18 (t : Tb) (ob : Nat → FX) : Prop := (dd t).length ≤ 32 ∧ ∀ q, q ∈ dd t → okX (ob q)
theorem Ok18.sub {t t' : Tb} {ob : Nat → FX} (h : Ok18 t ob) (hs : ∀ r, r ∈ dd t' → r ∈ dd t) : Ok18 t' ob :=
  ⟨Nat.le_trans (nat_nodup_le (dd_nodup t') hs) h.1, fun q hq => h.2 q (hs q hq)⟩
theorem Ok18.can {t t' : Tb} {ob ob' : Nat → FX} (h : Ok18 t ob) (e : can t' ob' = can t ob) : Ok18 t' ob' := by
  refine ⟨?_, fun q hq => ?_⟩
  · have := congrArg List.length e
    simp only [Go.Den.can, List.length_map] at this
    have := h.1
    omega
  · have hm : mk18 t' ob' q ∈ Go.Den.can t' ob' := List.mem_map.2 ⟨q, hq, rfl⟩
    rw [e] at hm
    obtain ⟨y, hy, he⟩ := List.mem_map.1 hm
    have := h.2 y hy
    have e2 : ob y = ob' q := congrArg E18.x he
    rwa [e2] at this
theorem Ok18.open {t : Tb} {ob : Nat → FX} (h : Ok18 t ob) {k b : Nat} {x : FX} (h0 : t[k]? = some none) (hb : b ∉ dd t) (hl : (dd t).length < 32) (hx : okX x) : Ok18 (t.set k (some b)) (upO ob b x) := by
  refine ⟨?_, fun q hq => ?_⟩
  · have := nat_nodup_le (dd_nodup (t.set k (some b))) (b := b :: dd t) fun r hr => List.mem_cons.2 ((mem_dd_add h0).1 hr)
    simp only [List.length_cons] at this
    omega
  · unfold upO
    rcases (mem_dd_add h0).1 hq with e | e
    · rw [if_pos e.symm]; exact hx
    · rw [if_neg (by rintro rfl; exact hb e)]
      exact h.2 q e
theorem Ok18.seek {t : Tb} {ob : Nat → FX} (h : Ok18 t ob) {q : Nat} {off : Int} (hq : q ∈ dd t) (h0 : 0 ≤ off) (h1 : off ≤ 1048576) : Ok18 t (upO ob q ⟨(ob q).k, (ob q).i, off, (ob q).a⟩) := by
  refine ⟨h.1, fun y hy => ?_⟩
  unfold upO
  by_cases e : q = y
  · rw [if_pos e]
    obtain ⟨a1, a2, a3, a4, -, -⟩ := h.2 q hq
    exact ⟨a1, a2, a3, a4, h0, h1⟩
  · rw [if_neg e]
    exact h.2 y hy

theorem ids_len (t : Tb) (ob : Nat → FX) (kind : Int) : (ids18 t ob kind).length ≤ (dd t).length := by
  have : ∀ (l out : List Int), (l.foldl putL out).length ≤ out.length + l.length := by
    intro l
    induction l with
    | nil => intro out; simp
    | cons a l ih =>
      intro out
      have := ih (putL out a)
      have h2 := putL_len out a
      simp only [List.foldl_cons, List.length_cons]
      omega
  have h1 := this (((dd t).filter fun q => decide ((ob q).k = kind)).map fun q => (ob q).i) []
  have h2 := List.length_filter_le (fun q => decide ((ob q).k = kind)) (dd t)
  simp only [List.length_map, List.length_nil] at h1
  unfold ids18
  omega

theorem ref_new {w : World} {b : Nat} {T : TypeId} (h : w.heap[b]? = some (.cells #[.slice none 0 0] T (0, 0))) : RefP w b [] [b] :=
  ⟨[], [], [], ⟨⟨T, none, 0, h, SlB.nil w 6⟩, (by intro x hx; cases hx), (by intro x hx; cases hx), (by intro x hx; cases hx), by simp, by simp⟩, rfl, rfl⟩

theorem eqF_K (x : FX) (r : Int) {K : Bool → Prop} (hK : K true) : eqAgg Try.prog 37 #[.int .i64 x.k, .int .i64 x.i, .int .i64 x.o, .bool x.a, .int .i64 r] #[.int .i64 x.k, .int .i64 x.i, .int .i64 x.o, .bool x.a, .int .i64 r] K := by
  have hm : matchL [.int .i64, .int .i64, .int .i64, .bool, .int .i64] (fxc x r) := by simp [matchL, matchS, fxc]
  refine eqAgg_K eqT_api_File (xs := fxc x r) (ys := fxc x r) hm hm ?_
  rw [cellsEq_self hm]
  exact hK

theorem fit_run {w : World} (x : FX) (r : Int) {K : Value → World → Prop} (hK : ∀ w', Mod [] w w' → K (.bool (decide (okX x))) w') : CallsR Try.prog F_januslaw18_fit #[.agg #[.int .i64 x.k, .int .i64 x.i, .int .i64 x.o, .bool x.a, .int .i64 r]] w K := by
  apply R_januslaw18_fit_ok
  simp only [R_januslaw18_fit, spl_decide]
  refine (Den.Sep.nil (Den.Mod.refl [] w)).new fun b w1 s1 m1 _ => ?_
  have hK := hK w1 m1
  have no : ¬ okX x → K (.bool false) w1 := fun h => by rwa [decide_eq_false h] at hK
  refine ⟨_, s1.cell 0 rfl rfl, fun h1 => ⟨_, s1.cell 0 rfl rfl, fun h2 => ⟨_, s1.cell 0 rfl rfl, fun h3 => ⟨_, s1.cell 0 rfl rfl, fun h4 => ⟨_, s1.cell 0 rfl rfl, fun h5 => ⟨_, s1.cell 0 rfl rfl, ?_⟩, fun h => no fun h' => h h'.2.2.2.2.1⟩, fun h => no fun h' => h h'.2.2.2.1⟩, fun h => no fun h' => h h'.2.2.1⟩, fun h => no fun h' => h h'.2.1⟩, fun h => no fun h' => h h'.1⟩
  rwa [show decide (x.o ≤ 1048576) = decide (okX x) from decide_eq_decide.2 ⟨fun h => ⟨h1, h2, h3, h4, h5, h⟩, fun h => h.2.2.2.2.2⟩]

theorem plays18_run (w : World) (a : Option Addr) (l c : Nat) (hin : SlIn w 9 Q_januslaw18_Deed a l c) : CallsR Try.prog F_januslaw18_FdsPlays #[.slice a l c] w fun v w' => v = .bool true ∧ Mod [] w w' := by
  apply R_januslaw18_FdsPlays_ok
  simp only [R_januslaw18_FdsPlays]
  have hlle := hin.le
  refine fds_new (fun _ => fx0) fun p w1 h1 m1 hpb => ⟨_, rfl, ?_⟩
  have s1 := sep_new18 h1 m1 hpb
  refine s1.new fun b w2 s2 m2 hb => ?_
  simp only [Option.isNone_some, spl_false]
  have e0 : dd T0 = [] := by kernel_rfl
  have ec : can T0 (fun _ => fx0) = [] := by unfold can; rw [e0]; rfl
  have s2 : Den.Sep w w2 [refPart b (can T0 (fun _ => fx0)) [b], fdsPart p T0 (fun _ => fx0)] := by
    rw [ec]
    exact s2.turn 0 rfl (refPart b [] [b]) (ref_new (s2.nth 0 rfl)) (Mod.refl _ _)
  refine ⟨fun w' => Mod [] w w', fun _ w' hm => awake_run w' fun w'' m'' => ⟨_, rfl, rfl, hm.trans' m''⟩, ?_⟩
  refine ⟨fun n f i w' => ∃ (k p : Nat) (t : Tb) (ob : Nat → FX) (F : List Nat), i = k ∧ k ≤ l ∧ n = l - k ∧ f = some ⟨p, 0, none⟩ ∧ Ok18 t ob ∧ Den.Sep w w' [refPart b (can t ob) F, fdsPart p t ob], ⟨l, 0, p, T0, _, [b], rfl, by omega, by omega, rfl, ?_, s2⟩, ?_⟩
  · unfold Ok18
    rw [e0]
    exact ⟨by simp, by simp⟩
  clear s1 s2 h1 m1 m2 hb hpb ec e0
  rintro n f i - w3 ⟨k, p, t, ob, F, rfl, hk, rfl, rfl, hok, s3⟩
  rw [spl_decide]
  refine ⟨fun hlt => ?_, fun _ => s3.mod⟩
  rw [spl_decide]
  refine ⟨fun h150 => ?_, fun _ => s3.mod⟩
  have hkl : k < l := by omega
  refine ⟨fun f w' => ∃ (p : Nat) (t : Tb) (ob : Nat → FX) (F : List Nat), f = some ⟨p, 0, none⟩ ∧ Ok18 t ob ∧ Den.Sep w w' [refPart b (can t ob) F, fdsPart p t ob], fun f _ w' ⟨p2, t2, ob2, F2, h1, h2, h3⟩ => ⟨l - (k + 1), by omega, k + 1, p2, t2, ob2, F2, by rw [w64 (by omega) (by omega)]; omega, by omega, rfl, h1, h2, h3⟩, ?_⟩
  obtain ⟨ad, cs, rfl, hadlt, ⟨d0, d1, d2, d3, d4, d5, d6, d7, d8, rfl, -⟩, -, hcell⟩ := hin.at hkl
  have cell : ∀ j v, j < 9 → [Value.int .i64 d0, .int .i64 d1, .int .i64 d2, .int .i64 d3, .int .i64 d4, .int .i64 d5, .int .i64 d6, .bool d7, .int .i64 d8][j]? = some v → w3.cell? (Addr.add (Addr.add ad (k * 9)) j) = some v := fun j v hj hv => by
    rw [← hv, ← hcell j hj]
    exact s3.mod.cell (by rw [add_block, add_block]; exact hadlt)
  simp only [nilK_some, Int.toNat_natCast]
  refine ⟨⟨by omega, by omega⟩, d0, d1, d2, d3, d4, d5, d6, d7, d8, ⟨by have := cell 0 _ (by decide) rfl; rwa [add_zero] at this, cell 1 _ (by decide) rfl, cell 2 _ (by decide) rfl, cell 3 _ (by decide) rfl, cell 4 _ (by decide) rfl, cell 5 _ (by decide) rfl, cell 6 _ (by decide) rfl, cell 7 _ (by decide) rfl, cell 8 _ (by decide) rfl⟩, ?_⟩
  clear cell hcell
  refine s3.new fun v w4 s4 m4 _ => s4.st0 0 rfl rfl fun w5 s5 m5 => ?_
  clear s3 s4 m4 m5
  obtain ⟨P0, hP0⟩ : ∃ P0 : Part, P0 = blk v (.cells [Value.int .i64 d0, .int .i64 d1, .int .i64 d2, .int .i64 d3, .int .i64 d4, .int .i64 d5, .int .i64 d6, .bool d7, .int .i64 d8].toArray 39 (0, 0)) := ⟨_, rfl⟩
  have s5 : Den.Sep w w5 [P0, refPart b (can t ob) F, fdsPart p t ob] := by rw [hP0]; exact s5
  have cl : ∀ {w' : World} {l : List Part}, Den.Sep w w' (P0 :: l) → v < w'.heap.size ∧ w'.cell? ⟨v, 0, none⟩ = some (.int .i64 d0) ∧ w'.cell? ⟨v, 1, none⟩ = some (.int .i64 d1) ∧ w'.cell? ⟨v, 2, none⟩ = some (.int .i64 d2) ∧ w'.cell? ⟨v, 3, none⟩ = some (.int .i64 d3) ∧ w'.cell? ⟨v, 4, none⟩ = some (.int .i64 d4) ∧ w'.cell? ⟨v, 5, none⟩ = some (.int .i64 d5) ∧ w'.cell? ⟨v, 6, none⟩ = some (.int .i64 d6) ∧ w'.cell? ⟨v, 7, none⟩ = some (.bool d7) ∧ w'.cell? ⟨v, 8, none⟩ = some (.int .i64 d8) := by
    intro w' l s
    rw [hP0] at s
    exact ⟨lt_of_get (s.nth 0 rfl : w'.heap[v]? = some _), s.cell 0 rfl rfl, s.cell 0 rfl rfl, s.cell 0 rfl rfl, s.cell 0 rfl rfl, s.cell 0 rfl rfl, s.cell 0 rfl rfl, s.cell 0 rfl rfl, s.cell 0 rfl rfl, s.cell 0 rfl rfl⟩
  have hvF : v ∈ P0.F := by rw [hP0]; simp [blk]
  clear hP0
  refine ⟨fun w' => (d0 = 0 → okX ⟨d4, d5, d6, d7⟩) ∧ (d0 = 4 → d3 ≤ 1048576) ∧ Den.Sep w w' [P0, refPart b (can t ob) F, fdsPart p t ob], ?_, ?_⟩
  rotate_left
  · obtain ⟨-, c0, c1, c2, c3, c4, c5, c6, c7, c8⟩ := cl s5
    refine ⟨_, c0, ?_⟩
    rw [spl_beq]
    refine ⟨fun h0 => ⟨_, _, _, _, _, ⟨c4, c5, c6, c7, c8⟩, ?_⟩, fun h0 => ⟨_, c0, ?_⟩⟩
    · refine fit_run ⟨d4, d5, d6, d7⟩ d8 fun w6 m6 => ⟨_, rfl, ?_⟩
      have s6 := s5.mod0 m6
      obtain ⟨-, c0, c1, c2, c3, c4, c5, c6, c7, c8⟩ := cl s6
      rw [spl_decide]
      refine ⟨fun hx => ⟨_, c0, ?_⟩, fun _ => ⟨p, t, ob, F, rfl, hok, s6.pop⟩⟩
      rw [spl_beq]
      exact ⟨fun h4 => absurd (h0.symm.trans h4) (by decide), fun h4 => ⟨fun _ => hx, fun h => absurd h h4, s6⟩⟩
    · rw [spl_beq]
      refine ⟨fun h4 => ⟨_, c3, ?_⟩, fun h4 => ⟨fun h => absurd h h0, fun h => absurd h h4, s5⟩⟩
      rw [spl_decide]
      exact ⟨fun _ => ⟨p, t, ob, F, rfl, hok, s5.pop⟩, fun h => ⟨fun h => absurd h h0, fun _ => by omega, s5⟩⟩
  rintro - w6 ⟨hfit, hsk, s6⟩
  clear s5
  refine ⟨fun ok f w' => ok = true ∧ ∃ (p : Nat) (t : Tb) (ob : Nat → FX) (F : List Nat), f = some ⟨p, 0, none⟩ ∧ Ok18 t ob ∧ Den.Sep w w' [P0, refPart b (can t ob) F, fdsPart p t ob], ?_, ?_⟩
  · clear s6 hok
    rintro ok f - w7 ⟨rfl, p, t, ob, F, rfl, hok, s7⟩
    rw [drK_eq]
    have s8 := s7.mod0 ((Mod.refl [] w7).drew)
    generalize w7.drew = w8 at s8 ⊢
    have hlen : t.length = 48 := (s8.nth 2 rfl : FdsP w8 p t ob).len
    obtain ⟨hv, c0, c1, c2, c3, c4, c5, c6, c7, c8⟩ := cl s8
    refine ⟨[v], ?_⟩
    rw [spl_true]
    refine ⟨by simp, _, c1, by simp, _, c1, ?_⟩
    refine fleft_run (s8.nth 2 rfl) d1 ⟨_, rfl, fun _ _ => rfl, ?_⟩
    refine rleft_run (s8.nth 1 rfl) hlen d1 ⟨_, rfl, fun _ _ => rfl, ?_⟩
    rw [spl_bne]
    refine ⟨fun h => absurd rfl h, fun _ => ?_⟩
    refine ⟨by simp, _, c4, by simp, _, c4, ?_⟩
    refine fids_run (s8.nth 2 rfl) d4 fun A9 C9 w9 G9 hs9 hG9 m9 => ⟨_, _, _, rfl, m9.at0 (by simpa using hv), ?_⟩
    have s9 := s8.mod0 m9
    refine rids_run (s9.nth 1 rfl) hlen d4 fun A10 C10 w10 G10 hs10 hG10 m10 => ⟨_, _, _, rfl, ?_⟩
    have s10 := s9.mod0 m10
    have hil : (ids18 t ob d4).length ≤ 9223372036854775807 := by have := ids_len t ob d4; have := hok.1; omega
    refine ints_rd (hs9.keep (m10.at0 hs9.lt)).rd hs10.rd hil fun w11 m11 => ⟨_, rfl, ?_⟩
    have s11 := s10.mod0 m11
    refine spl_t (by simp) ?_
    refine fencode_run (s11.nth 2 rfl) fun A12 C12 w12 hw12 => ⟨_, _, _, rfl, ?_⟩
    have s12 := s11.mod0 hw12.mod
    refine rencode_run (s12.nth 1 rfl) hlen fun A13 C13 w13 hw13 => ⟨_, _, _, rfl, ?_⟩
    have s13 := s12.mod0 hw13.mod
    have hw12' := hw12.mod0 hw13.mod
    obtain ⟨G12, g12, -, -⟩ := hw12'
    obtain ⟨G13, g13, -, -⟩ := hw13
    have hel : (enc18 t ob).length ≤ 9223372036854775807 := by rw [enc_len]; have := hok.1; omega
    refine words_rd g12.rd g13.rd hel fun w14 m14 => ⟨_, rfl, ?_⟩
    exact spl_t (by simp) ⟨p, t, ob, F, rfl, hok, (s13.mod0 m14).pop⟩
  have hP : FdsP w6 p t ob := s6.nth 2 rfl
  have hR : RefP w6 b (can t ob) F := s6.nth 1 rfl
  have hlen := hP.len
  have hPlt := hP.lt
  have hRlt := hR.lt
  obtain ⟨hv, c0, c1, c2, c3, c4, c5, c6, c7, c8⟩ := cl s6
  refine ⟨_, c0, ?_⟩
  rw [spl_beq]
  refine ⟨fun e0 => ?_, fun n0 => ?_⟩
  · -- Open
    have hx := hfit e0
    refine ⟨_, c1, _, _, _, _, _, ⟨c4, c5, c6, c7, c8⟩, ?_⟩
    refine fopen_run hP d1 ⟨d4, d5, d6, d7⟩ d8 (fun w7 hp m7 => ⟨_, _, rfl, ?_⟩) (fun w7 hp1 hp2 hf m7 => ⟨_, _, rfl, ?_⟩) (fun n b' w7 hp1 hp2 hf h32 hb h7 m7 => ⟨_, _, rfl, ?_⟩)
    · have s7 := s6.mod0 m7
      obtain ⟨-, -, c1, -, -, c4, c5, c6, c7, c8⟩ := cl s7
      refine ⟨_, c1, _, _, _, _, _, ⟨c4, c5, c6, c7, c8⟩, ?_⟩
      refine ropen_run (s7.nth 1 rfl) hlen d1 ⟨d4, d5, d6, d7⟩ d8 w6.heap.size (fun hm => by have := hPlt _ (by simp [hm] : w6.heap.size ∈ p :: dd t); omega) (fun w8 _ m8 => ⟨_, _, rfl, ?_⟩) (fun w8 hp1 hp2 _ m8 => absurd ⟨hp1, hp2⟩ hp) (fun n w8 F8 hp1 hp2 _ _ _ _ m8 => absurd ⟨hp1, hp2⟩ hp)
      exact spl_t rfl ⟨rfl, p, t, ob, F, rfl, hok, s7.mod0 m8⟩
    · have s7 := s6.mod0 m7
      obtain ⟨-, -, c1, -, -, c4, c5, c6, c7, c8⟩ := cl s7
      refine ⟨_, c1, _, _, _, _, _, ⟨c4, c5, c6, c7, c8⟩, ?_⟩
      refine ropen_run (s7.nth 1 rfl) hlen d1 ⟨d4, d5, d6, d7⟩ d8 w6.heap.size (fun hm => by have := hPlt _ (by simp [hm] : w6.heap.size ∈ p :: dd t); omega) (fun w8 hp _ => absurd ⟨hp1, hp2⟩ hp) (fun w8 _ _ _ m8 => ⟨_, _, rfl, ?_⟩) (fun n w8 F8 _ _ hf' h32 _ _ m8 => ?_)
      · exact spl_t rfl ⟨rfl, p, t, ob, F, rfl, hok, s7.mod0 m8⟩
      · rcases hf with hf | hf
        · rw [hf] at hf'; cases hf'
        · omega
    · obtain ⟨ho, hg, -⟩ := free_none hlen hp1 hp2 hf
      have hbd : b' ∉ dd t := fun hm => by have := hPlt b' (by simp [hm]); omega
      have s7 : Den.Sep w w7 [P0, refPart b (can t ob) F, fdsPart p (t.set (pl d1 n) (some b')) (upO ob b' ⟨d4, d5, d6, d7⟩)] := s6.step 2 rfl (fdsPart p (t.set (pl d1 n) (some b')) (upO ob b' ⟨d4, d5, d6, d7⟩)) h7 m7 (ownF fun r hr => ((mem_dd_add hg).1 hr).elim (fun e => .inr (by rw [e]; exact hb)) .inl)
      obtain ⟨-, -, c1, -, -, c4, c5, c6, c7, c8⟩ := cl s7
      refine ⟨_, c1, _, _, _, _, _, ⟨c4, c5, c6, c7, c8⟩, ?_⟩
      refine ropen_run (s7.nth 1 rfl) hlen d1 ⟨d4, d5, d6, d7⟩ d8 b' hbd (fun w8 hp _ => absurd ⟨hp1, hp2⟩ hp) (fun w8 _ _ h _ => ?_) (fun n' w8 F8 _ _ hf' _ h8 hF8 m8 => ⟨_, _, rfl, ?_⟩)
      · rcases h with h | h
        · rw [hf] at h; cases h
        · omega
      · rw [hf] at hf'
        cases hf'
        exact spl_t (by simp) ⟨rfl, p, _, _, F8, rfl, hok.open hg hbd h32 hx, s7.step 1 rfl (refPart b (can (t.set (pl d1 n) (some b')) (upO ob b' ⟨d4, d5, d6, d7⟩)) F8) h8 m8 hF8⟩
  rw [spl_beq]
  refine ⟨fun e1 => ?_, fun n1 => ?_⟩
  · -- Dup
    refine ⟨_, c1, _, c2, ?_⟩
    refine fdup_run hP d1 d2 (fun hn => ⟨_, _, rfl, _, c1, _, c2, ?_⟩) (fun q hn hf => ⟨_, _, rfl, _, c1, _, c2, ?_⟩) (fun q n w7 hn hf h7 m7 => ⟨_, _, rfl, ?_⟩)
    · refine rdup_run hR hlen d1 d2 (fun _ => ⟨_, _, rfl, spl_t rfl ⟨rfl, p, t, ob, F, rfl, hok, s6⟩⟩) (fun q hn' _ => by rw [hn] at hn'; cases hn') (fun q n w' F' hn' _ _ _ _ => by rw [hn] at hn'; cases hn')
    · refine rdup_run hR hlen d1 d2 (fun hn' => by rw [hn] at hn'; cases hn') (fun q _ _ => ⟨_, _, rfl, spl_t rfl ⟨rfl, p, t, ob, F, rfl, hok, s6⟩⟩) (fun q n w' F' _ hf' _ _ _ => by rw [hf] at hf'; cases hf')
    · obtain ⟨hqd, ⟨hp1, hp2, -, -⟩, -⟩ := nam_dd hn
      obtain ⟨ho, hg, -⟩ := free_none hlen hp1 hp2 hf
      have hsub : ∀ r, r ∈ dd (t.set (pl d1 n) (some q)) → r ∈ dd t := fun r hr => ((mem_dd_add hg).1 hr).elim (fun e => by rw [e]; exact hqd) fun h => h
      have s7 : Den.Sep w w7 [P0, refPart b (can t ob) F, fdsPart p (t.set (pl d1 n) (some q)) ob] := s6.step 2 rfl (fdsPart p (t.set (pl d1 n) (some q)) ob) h7 m7 (ownF fun r hr => .inl (hsub r hr))
      obtain ⟨-, -, c1, c2, -⟩ := cl s7
      refine ⟨_, c1, _, c2, ?_⟩
      refine rdup_run (s7.nth 1 rfl) hlen d1 d2 (fun hn' => by rw [hn] at hn'; cases hn') (fun q _ hf' => by rw [hf] at hf'; cases hf') (fun q' n' w8 F8 hn' hf' h8 hF8 m8 => ⟨_, _, rfl, ?_⟩)
      rw [hn] at hn'
      cases hn'
      rw [hf] at hf'
      cases hf'
      exact spl_t (by simp) ⟨rfl, p, _, _, F8, rfl, hok.sub hsub, s7.step 1 rfl (refPart b (can (t.set (pl d1 n) (some q)) ob) F8) h8 m8 hF8⟩
  rw [spl_beq]
  refine ⟨fun e2 => ?_, fun n2 => ?_⟩
  · -- Close
    refine ⟨_, c1, _, c2, ?_⟩
    refine fclose_run hP d1 d2 (fun w7 hn m7 => ⟨_, _, _, _, _, _, rfl, ?_⟩) (fun q w7 hn h7 m7 => ⟨_, _, _, _, _, _, rfl, ?_⟩)
    · have s7 := s6.mod0 m7
      refine s7.new fun x1 w8 s8 m8 _ => s8.st0 0 rfl rfl fun w9 s9 m9 => ?_
      obtain ⟨-, -, c1, c2, -⟩ := cl (Den.Sep.pop s9)
      refine ⟨_, c1, _, c2, ?_⟩
      refine rclose_run (s9.nth 2 rfl) hlen d1 d2 (fun w10 _ m10 => ⟨_, _, _, _, _, _, rfl, ?_⟩) (fun q w' F' hn' _ _ _ => by rw [hn] at hn'; cases hn')
      have s10 := s9.mod0 m10
      refine s10.new fun x2 w11 s11 m11 _ => s11.st0 0 rfl rfl fun w12 s12 m12 => ?_
      refine ⟨_, _, _, _, _, ⟨s12.cell 1 rfl rfl, s12.cell 1 rfl rfl, s12.cell 1 rfl rfl, s12.cell 1 rfl rfl, s12.cell 1 rfl rfl⟩, _, _, _, _, _, ⟨s12.cell 0 rfl rfl, s12.cell 0 rfl rfl, s12.cell 0 rfl rfl, s12.cell 0 rfl rfl, s12.cell 0 rfl rfl⟩, ?_⟩
      exact eqF_K fx0 0 (spl_t rfl ⟨rfl, p, t, ob, F, rfl, hok, Den.Sep.pop (Den.Sep.pop s12)⟩)
    · obtain ⟨hqd, ho, hg⟩ := nam_dd hn
      have hsub : ∀ r, r ∈ dd (t.set (pl d1 d2) none) → r ∈ dd t := fun r hr => (mem_dd_set (by rw [hlen]; exact pl_lt ho) hr).elim (fun h => h) fun e => by cases e
      have s7 : Den.Sep w w7 [P0, refPart b (can t ob) F, fdsPart p (t.set (pl d1 d2) none) ob] := s6.step 2 rfl (fdsPart p (t.set (pl d1 d2) none) ob) h7 m7 (ownF fun r hr => .inl (hsub r hr))
      refine s7.new fun x1 w8 s8 m8 _ => s8.st0 0 rfl rfl fun w9 s9 m9 => ?_
      obtain ⟨-, -, c1, c2, -⟩ := cl (Den.Sep.pop s9)
      refine ⟨_, c1, _, c2, ?_⟩
      refine rclose_run (s9.nth 2 rfl) hlen d1 d2 (fun w10 hn' _ => by rw [hn] at hn'; cases hn') (fun q' w10 F10 hn' h10 hF10 m10 => ⟨_, _, _, _, _, _, rfl, ?_⟩)
      rw [hn] at hn'
      cases hn'
      have s10 := s9.step 2 rfl (refPart b (can (t.set (pl d1 d2) none) ob) F10) h10 m10 hF10
      refine s10.new fun x2 w11 s11 m11 _ => s11.st0 0 rfl rfl fun w12 s12 m12 => ?_
      refine ⟨_, _, _, _, _, ⟨s12.cell 1 rfl rfl, s12.cell 1 rfl rfl, s12.cell 1 rfl rfl, s12.cell 1 rfl rfl, s12.cell 1 rfl rfl⟩, _, _, _, _, _, ⟨s12.cell 0 rfl rfl, s12.cell 0 rfl rfl, s12.cell 0 rfl rfl, s12.cell 0 rfl rfl, s12.cell 0 rfl rfl⟩, ?_⟩
      exact eqF_K (ob q) ((plc t q).length - 1) (spl_t rfl ⟨rfl, p, _, ob, F10, rfl, hok.sub hsub, Den.Sep.pop (Den.Sep.pop s12)⟩)
  rw [spl_beq]
  refine ⟨fun e3 => ?_, fun n3 => ?_⟩
  · -- Get
    refine ⟨_, c1, _, c2, ?_⟩
    refine fget_run hP d1 d2 (fun w7 hn m7 => ⟨_, _, _, _, _, _, rfl, ?_⟩) (fun w7 q hn m7 => ⟨_, _, _, _, _, _, rfl, ?_⟩)
    · have s7 := s6.mod0 m7
      refine s7.new fun x1 w8 s8 m8 _ => s8.st0 0 rfl rfl fun w9 s9 m9 => ?_
      obtain ⟨-, -, c1, c2, -⟩ := cl (Den.Sep.pop s9)
      refine ⟨_, c1, _, c2, ?_⟩
      refine rget_run (s9.nth 2 rfl) hlen d1 d2 (fun w10 _ m10 => ⟨_, _, _, _, _, _, rfl, ?_⟩) (fun w' q hn' _ => by rw [hn] at hn'; cases hn')
      have s10 := s9.mod0 m10
      refine s10.new fun x2 w11 s11 m11 _ => s11.st0 0 rfl rfl fun w12 s12 m12 => ?_
      refine ⟨_, _, _, _, _, ⟨s12.cell 1 rfl rfl, s12.cell 1 rfl rfl, s12.cell 1 rfl rfl, s12.cell 1 rfl rfl, s12.cell 1 rfl rfl⟩, _, _, _, _, _, ⟨s12.cell 0 rfl rfl, s12.cell 0 rfl rfl, s12.cell 0 rfl rfl, s12.cell 0 rfl rfl, s12.cell 0 rfl rfl⟩, ?_⟩
      exact eqF_K fx0 0 (spl_t rfl ⟨rfl, p, t, ob, F, rfl, hok, Den.Sep.pop (Den.Sep.pop s12)⟩)
    · have s7 := s6.mod0 m7
      refine s7.new fun x1 w8 s8 m8 _ => s8.st0 0 rfl rfl fun w9 s9 m9 => ?_
      obtain ⟨-, -, c1, c2, -⟩ := cl (Den.Sep.pop s9)
      refine ⟨_, c1, _, c2, ?_⟩
      refine rget_run (s9.nth 2 rfl) hlen d1 d2 (fun w10 hn' _ => by rw [hn] at hn'; cases hn') (fun w10 q' hn' m10 => ⟨_, _, _, _, _, _, rfl, ?_⟩)
      rw [hn] at hn'
      cases hn'
      have s10 := s9.mod0 m10
      refine s10.new fun x2 w11 s11 m11 _ => s11.st0 0 rfl rfl fun w12 s12 m12 => ?_
      refine ⟨_, _, _, _, _, ⟨s12.cell 1 rfl rfl, s12.cell 1 rfl rfl, s12.cell 1 rfl rfl, s12.cell 1 rfl rfl, s12.cell 1 rfl rfl⟩, _, _, _, _, _, ⟨s12.cell 0 rfl rfl, s12.cell 0 rfl rfl, s12.cell 0 rfl rfl, s12.cell 0 rfl rfl, s12.cell 0 rfl rfl⟩, ?_⟩
      exact eqF_K (ob q) (plc t q).length (spl_t rfl ⟨rfl, p, t, ob, F, rfl, hok, Den.Sep.pop (Den.Sep.pop s12)⟩)
  rw [spl_beq]
  refine ⟨fun e4 => ?_, fun n4 => ?_⟩
  · -- Seek
    have hd3 := hsk e4
    rw [drK_eq]
    have s7 := s6.mod0 ((Mod.refl [] w6).drew)
    have mdr : Mod [] w6 w6.drew := (Mod.refl [] w6).drew
    generalize w6.drew = w7 at s7 mdr ⊢
    obtain ⟨hv, -, c1, c2, c3, -⟩ := cl s7
    refine ⟨[v], by simp, _, c1, by simp, _, c2, by simp, _, c3, by simp, _, c1, by simp, _, c2, by simp, _, c3, ?_⟩
    refine fseek_run (s7.nth 2 rfl) d1 d2 d3 (fun hn => ⟨_, rfl, fun _ _ => rfl, ?_⟩) (fun q hn hneg => ⟨_, rfl, fun _ _ => rfl, ?_⟩) (fun q w8 hn hnn h8 m8 => ⟨_, rfl, ?_, ?_⟩)
    · refine rseek_run (s7.nth 1 rfl) hlen d1 d2 d3 (fun _ => ⟨_, rfl, rfl, p, t, ob, F, rfl, hok, s7⟩) (fun q hn' _ => by rw [hn] at hn'; cases hn') (fun q w' hn' _ _ _ => by rw [hn] at hn'; cases hn')
    · refine rseek_run (s7.nth 1 rfl) hlen d1 d2 d3 (fun hn' => by rw [hn] at hn'; cases hn') (fun q _ _ => ⟨_, rfl, rfl, p, t, ob, F, rfl, hok, s7⟩) (fun q w' _ h _ _ => absurd hneg (by omega))
    · refine m8.at (by simpa using hv) fun x hx hm => ?_
      simp only [List.mem_singleton] at hx
      subst hx
      exact s7.dj 0 2 (by decide) rfl rfl x hvF hm
    · have s8 : Den.Sep w w8 [P0, refPart b (can t ob) F, fdsPart p t (upO ob q ⟨(ob q).k, (ob q).i, d3, (ob q).a⟩)] := s7.step 2 rfl (fdsPart p t (upO ob q ⟨(ob q).k, (ob q).i, d3, (ob q).a⟩)) h8 m8 (ownF fun r hr => .inl hr)
      refine rseek_run (s8.nth 1 rfl) hlen d1 d2 d3 (fun hn' => by rw [hn] at hn'; cases hn') (fun q _ h => absurd h (by omega)) (fun q' w9 hn' _ h9 m9 => ⟨_, rfl, rfl, p, t, _, F, rfl, hok.seek (nam_dd hn).1 hnn hd3, ?_⟩)
      rw [hn] at hn'
      cases hn'
      exact s8.turn 1 rfl (refPart b (can t (upO ob q ⟨(ob q).k, (ob q).i, d3, (ob q).a⟩)) F) h9 m9
  rw [spl_beq]
  refine ⟨fun e5 => ?_, fun n5 => ?_⟩
  · -- Fork
    refine ⟨_, c1, _, c3, ?_⟩
    refine ffork_run hP d1 d3 fun w7 h7 hd7 m7 => ⟨rfl, ?_⟩
    have s7 : Den.Sep w w7 [P0, refPart b (can t ob) F, fdsPart p (fork18 t d1 d3) ob] := s6.step 2 rfl (fdsPart p (fork18 t d1 d3) ob) h7 m7 (ownF fun r hr => .inl (hd7 r hr))
    obtain ⟨-, -, c1, c2, c3, -⟩ := cl s7
    refine ⟨_, c1, _, c3, ?_⟩
    refine rfork_run (s7.nth 1 rfl) hlen d1 d3 fun w8 F8 h8 hF8 m8 => ⟨rfl, rfl, p, _, ob, F8, rfl, hok.sub hd7, s7.step 1 rfl (refPart b (can (fork18 t d1 d3) ob) F8) h8 m8 hF8⟩
  rw [spl_beq]
  refine ⟨fun e6 => ?_, fun n6 => ?_⟩
  · -- Gone
    rw [drK_eq]
    have s7 := s6.mod0 ((Mod.refl [] w6).drew)
    generalize w6.drew = w7 at s7 ⊢
    obtain ⟨hv, -, c1, -⟩ := cl s7
    refine ⟨[v], by simp, _, c1, by simp, _, c1, ?_⟩
    have hR7 := (s7.nth 1 rfl : RefP w7 b (can t ob) F).lt
    refine fgone_run (s7.nth 2 rfl) d1 fun A8 C8 w8 hx8 h8 hd8 m8 => ⟨_, _, _, rfl, ?_, ?_⟩
    · refine m8.at (by simpa using hv) fun x hx hm => ?_
      simp only [List.mem_singleton] at hx
      subst hx
      exact s7.dj 0 2 (by decide) rfl rfl x hvF hm
    have s8 : Den.Sep w w8 [P0, refPart b (can t ob) F, fdsPart p (gone18 t d1 6) ob] := s7.step 2 rfl (fdsPart p (gone18 t d1 6) ob) h8 m8 (ownF fun r hr => .inl (hd8 r hr))
    refine rgone_run (s8.nth 1 rfl) hlen d1 fun A9 C9 w9 G9 F9 hs9 _ _ h9 hF9 m9 => ⟨_, _, _, rfl, ?_⟩
    have s9 : Den.Sep w w9 [P0, refPart b (can (gone18 t d1 6) ob) F9, fdsPart p (gone18 t d1 6) ob] := s8.step 1 rfl (refPart b (can (gone18 t d1 6) ob) F9) h9 m9 hF9
    obtain ⟨G8, hs8, -⟩ := hx8.at m9 hR7
    obtain ⟨N, hN⟩ : ∃ N, N = (goneL t ob d1 6).length := ⟨_, rfl⟩
    have hN6 : N ≤ 6 := by rw [hN]; exact goneL_len t ob d1 6
    rw [← hN] at hs8 hs9 ⊢
    refine ⟨fun m ok k w' => ∃ j : Nat, k = j ∧ j ≤ N ∧ m = N - j ∧ ok = true ∧ Mod [] w9 w', ⟨N, 0, rfl, by omega, by omega, by simp, Mod.refl _ _⟩, ?_⟩
    rintro m ok k - w10 ⟨j, rfl, hj, rfl, rfl, m10⟩
    rw [spl_decide]
    refine ⟨fun hlt => ?_, fun _ => ⟨rfl, p, _, ob, F9, rfl, hok.sub hd8, s9.mod0 m10⟩⟩
    rw [spl_true, drK_eq]
    have m11 := m10.drew
    generalize w10.drew = w11 at m11 ⊢
    have hjN : j < N := by omega
    obtain ⟨ad1, x1, rfl, hx1, -, -, hc1⟩ := (hs8.keep (m11.at0 hs8.lt)).rd.row fxR_len (by decide) hjN
    obtain ⟨ad2, x2, rfl, hx2, -, -, hc2⟩ := (hs9.keep (m11.at0 hs9.lt)).rd.row fxR_len (by decide) hjN
    rw [hx1] at hx2
    cases hx2
    simp only [nilK_some, Int.toNat_natCast]
    have z1 := hc1 0 (by omega)
    have z2 := hc2 0 (by omega)
    rw [add_zero] at z1 z2
    refine ⟨⟨by omega, by omega⟩, _, _, _, _, _, ⟨z1, hc1 1 (by omega), hc1 2 (by omega), hc1 3 (by omega), hc1 4 (by omega)⟩, ⟨by omega, by omega⟩, _, _, _, _, _, ⟨z2, hc2 1 (by omega), hc2 2 (by omega), hc2 3 (by omega), hc2 4 (by omega)⟩, ?_⟩
    exact eqF_K x1.1 x1.2 ⟨N - (j + 1), by omega, j + 1, by rw [w64 (by omega) (by omega)]; omega, by omega, rfl, rfl, m11⟩
  · -- words and back
    refine fencode_run hP fun A7 C7 w7 hw7 => ⟨_, _, _, rfl, ?_⟩
    have s7 := s6.mod0 hw7.mod
    obtain ⟨G7, hs7, -, -⟩ := hw7
    obtain ⟨hdec, hcan⟩ := dec_enc (t := t) (ob := ob) hlen hok.1 hok.2
    refine fdec_run hs7.rd hs7.le (enc_wf hlen) (fun w' h _ => absurd hdec h) (fun w8 p2 t2 ob2 _ h8 hb8 hcan2 m8 => ⟨_, _, rfl, ?_⟩)
    simp only [Option.isNone_some, spl_false]
    rw [spl_bne]
    refine ⟨fun h => absurd rfl h, fun _ => ⟨trivial, p2, t2, ob2, F, rfl, hok.can (hcan2.trans hcan), ?_⟩⟩
    rw [hcan2.trans hcan]
    exact s7.step 2 rfl (fdsPart p2 t2 ob2) h8 m8.of0 fun x hx => .inr (hb8 x hx)

end Go.Proofs
