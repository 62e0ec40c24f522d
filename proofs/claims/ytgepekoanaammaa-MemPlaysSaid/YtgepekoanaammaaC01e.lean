/-
  Layer 1: a new memory of the reference's; the walk of 'MemPlays'.
-/
import Derived.Test.YtgepekoanaammaaC01d
import Derived.Test.YtgepekoanaammaaRes2
set_option linter.unusedSimpArgs false
namespace Go.Proofs
open Go Go.Den

theorem memr_new (n : Int) (w : World) {K : Value → World → Prop} (h0 : n < 1 ∨ 1024 < n → K (.pointer none) w)
    (h1 : ∀ (k p : Nat) (F : List Nat) (w' : World), n = k → 1 ≤ k → k ≤ 1024 → MemR w' p (List.replicate k (List.replicate 32 0)) F → Mod [] w w' → (∀ b ∈ F, w.heap.size ≤ b) → K (.pointer (some ⟨p, 0, none⟩)) w') :
    CallsR Try.prog F_janusref01_New #[.int .i64 n] w K := by
  apply R_janusref01_New_ok
  simp only [R_janusref01_New, spl_decide]
  refine ⟨fun h => h0 (.inl h), fun hge => ⟨fun h => h0 (.inr h), fun hle => ?_⟩⟩
  obtain ⟨N, rfl⟩ := nat_of (by omega : 0 ≤ n)
  simp only [newK_eq]
  refine ⟨fun m i wi => ∃ (k : Nat) (F : List Nat), i = k ∧ k ≤ N ∧ m = N - k ∧ MemR wi w.heap.size (List.replicate k (List.replicate 32 0)) F ∧ Mod [] w wi ∧ (∀ b ∈ F, w.heap.size ≤ b), ⟨N, 0, [w.heap.size], rfl, by omega, rfl, ?_, (Mod.refl _ _).alloc _, by simp⟩, ?_⟩
  · exact ⟨_, none, 0, [], [], alloc_new _ _, SlB.nil _ 1, fun i q b hq => by simp at hq, List.nodup_nil, by simp, by simp, by simp, rfl, All32.rep 0, by simp⟩
  · rintro m i _ wi ⟨k, F, rfl, hk, rfl, hd, hm, hF⟩
    refine ⟨fun hlt => ?_, fun hge' => ?_⟩
    · simp only [drK_eq]
      have hlt0 := hd.lt
      obtain ⟨T, a, c, R, qs, hp, hr, hrows, hnd, hpR, hpq, hRq, rfl, h32, hle'⟩ := hd
      simp only [List.length_replicate] at hp hr hle'
      have hql := MemR.qlen hr
      refine ⟨[w.heap.size], by simp, a, k, c, by rw [World.cell?_drew, cell_get hp]; simp, ?_⟩
      obtain ⟨w1, hr1, hs1, hm1⟩ := makeSlice_run slT_u64 wi.drew (k := .i64) (k' := .i64) (l := 32) (c := 32) (Nat.le_refl _) (by omega) (by omega)
      refine ⟨_, _, hr1, _, _, _, rfl, fun b hb => ?_, ?_⟩
      · simp only [List.mem_singleton] at hb; subst hb; exact hm1.keep _ (lt_of_get hp) (by simp)
      have hp1 := hm1.get (b := w.heap.size) (by simpa using hp) (by simp)
      have hr2 := (hr.mod (S := []) ((Mod.refl _ wi).drew.trans' hm1) (by simp)).alloc (.cells #[rowOf wi.drew.heap.size] 32)
      have hx2 := SlB.new w1 [rowOf wi.drew.heap.size] 32 (l := 1) (sz := 1) rfl
      refine ⟨fun b hb => ?_, ?_⟩
      · simp at hb; subst hb; exact (alloc_get _ hp1).trans hp.symm
      obtain ⟨a3, c3, w3, R3, hr3, hs3, hm3, ho3⟩ := append_run slT_Sl_u64 (by decide) hr2 hx2 (by simp [rowOf, isCell]) (by omega) (by omega) 47
      refine ⟨_, _, hr3, _, _, _, rfl, ?_⟩
      have hp3 := hm3.get (alloc_get _ hp1) hpR
      refine stK_of hp3 (by simp) ?_
      simp only [splice_cons, splice_nil]
      have hsz : wi.heap.size ≤ w1.heap.size := hm1.size
      have hm13 : Mod R wi w3 := (((Mod.refl R wi).drew.trans hm1 (by simp)).alloc _).trans hm3 (fun b hb _ => hb)
      have hw3 : w.heap.size < w3.heap.size := lt_of_get hp3
      have hpw : w.heap.size < wi.heap.size := lt_of_get hp
      have hgood : ∀ x ∈ R3, x ∈ R ∨ w1.heap.size < x := fun x hx => by
        rcases ho3 x hx with h | h
        · exact .inl h
        · rw [alloc_size] at h; right; omega
      have hq1 : wi.heap.size < w1.heap.size := hs1.lt wi.heap.size (by simp)
      have hqlt : ∀ x ∈ qs, x < wi.heap.size := fun x hx => hlt0 x (by simp [hx])
      have hRlt : ∀ x ∈ R, x < wi.heap.size := fun x hx => hlt0 x (by simp [hx])
      refine ⟨N - (k + 1), by omega, k + 1, w.heap.size :: (R3 ++ (qs ++ [wi.heap.size])), by rw [w64 (by omega) (by omega)]; omega, by omega, rfl, ?_, ?_, ?_⟩
      · have hb4 : SlB w3 (some ⟨wi.heap.size, 0, none⟩) 32 32 1 (u64s (List.replicate 32 0)) [wi.heap.size] := by
          have e : zrow (.int .u64 0) (32 * 1) = u64s (List.replicate 32 (0 : Int)) := by rw [zrow_one rfl]; simp [u64s]
          rw [e] at hs1
          refine (hs1.alloc _).mod hm3 ?_
          intro x hx; simp at hx; subst hx
          intro hx; exact Nat.lt_irrefl _ (hr.lt _ hx)
        have hp5 : w.heap.size ∉ R3 := fun h => by
          rcases hgood _ h with h | h
          · exact hpR h
          · omega
        have upk : ∀ x, x ≠ w.heap.size → (w3.upd w.heap.size (.cells #[.slice a3 (k + 1) c3] T (0, 0))).heap[x]? = w3.heap[x]? := fun x hx => upd_ne _ (Ne.symm hx)
        refine ⟨T, a3, c3, R3, qs ++ [wi.heap.size], ?_, ?_, ?_, ?_, hp5, ?_, ?_, rfl, All32.rep _, by simp; omega⟩
        · rw [upd_same hp3]; simp
        · simp only [List.length_replicate, List.map_append, List.map_cons, List.map_nil]
          exact hs3.keep fun b hb => upk b (by rintro rfl; exact hp5 hb)
        · intro i q b hq hb
          by_cases hik : i < k
          · rw [List.getElem?_append_left (by omega)] at hq
            have hqm := List.mem_of_getElem? hq
            have hb' : (List.replicate k (List.replicate 32 (0 : Int)))[i]? = some b := by
              rw [List.getElem?_replicate] at hb ⊢
              rw [if_pos hik]; rw [if_pos (by omega)] at hb; exact hb
            refine (hrows i q b hq hb').keep fun x hx => ?_
            simp only [List.mem_singleton] at hx
            subst hx
            refine (upk x (fun h => hpq (h ▸ hqm))).trans ?_
            exact hm13.keep x (hqlt x hqm) fun h => hRq x h hqm
          · rw [List.getElem?_append_right (by omega)] at hq
            have hi : i - qs.length = 0 := by
              have := (List.getElem?_eq_some_iff.1 hq).1
              simp at this
              omega
            rw [hi] at hq
            simp only [List.getElem?_cons_zero, Option.some.injEq] at hq
            subst hq
            obtain rfl : b = List.replicate 32 0 := by
              rw [List.getElem?_replicate] at hb
              split at hb
              · exact (Option.some.inj hb).symm
              · cases hb
            exact hb4.keep fun x hx => by
              simp only [List.mem_singleton] at hx
              subst hx
              exact upk _ (by omega)
        · rw [List.nodup_append]
          refine ⟨hnd, by simp, fun x hx y hy => ?_⟩
          simp only [List.mem_singleton] at hy
          subst hy
          have := hqlt x hx
          omega
        · simp only [List.mem_append, List.mem_singleton, not_or]
          exact ⟨hpq, by omega⟩
        · intro x hx hmm
          simp only [List.mem_append, List.mem_singleton] at hmm
          rcases hgood x hx with h | h
          · rcases hmm with hmm | rfl
            · exact hRq x h hmm
            · exact Nat.lt_irrefl _ (hRlt _ h)
          · rcases hmm with hmm | rfl
            · have := hqlt x hmm; omega
            · omega
      · refine ((hm.trans hm13 ?_).upd (.inr (Nat.le_refl _)) _)
        intro b hb hlt
        have := hF b (by simp [hb])
        omega
      · intro b hb
        simp only [List.mem_cons, List.mem_append, List.mem_singleton] at hb
        have hws := hm.size
        rcases hb with rfl | hb | hb | hb
        · omega
        · rcases ho3 b hb with h | h
          · exact hF b (by simp [h])
          · rw [alloc_size] at h; omega
        · exact hF b (by simp [hb])
        · rcases hb with rfl | hb
          · omega
          · simp at hb
    · have hkN : k = N := by omega
      subst hkN
      exact h1 k w.heap.size F wi rfl (by omega) (by omega) hd hm hF

/-- The two memories hold the same. -/
def Both1 (w : World) (p p2 base : Nat) : Prop :=
  ∃ (bs : List (List Int)) (F F2 : List Nat), MemP w p bs F ∧ MemR w p2 bs F2 ∧ (∀ b ∈ F, b ∉ F2) ∧ (∀ b ∈ F, base ≤ b) ∧ (∀ b ∈ F2, base ≤ b)

theorem MemR.mem {w : World} {p : Nat} {bs : List (List Int)} {F : List Nat} (h : MemR w p bs F) : p ∈ F := by
  obtain ⟨T, a, c, R, qs, h1, h2, h3, h4, h5, h6, h7, rfl, h8⟩ := h
  simp

theorem plays_run (w : World) (n : Int) (_ : (Lit.int .i64 n).wf = true) (a : Option Addr) (l c : Nat) (hl : SlIn w 4 Q_januslaw01_Deed a l c) :
    CallsR Try.prog F_januslaw01_MemPlays #[.int .i64 n, .slice a l c] w fun r w' => r = .bool true ∧ Mod [] w w' := by
  apply R_januslaw01_MemPlays_ok
  simp only [R_januslaw01_MemPlays]
  have fin : ∀ (w' : World), Mod [] w w' → CallsR Try.prog F_januslaw01_awake #[] w' fun v w'' => ∃ r : Bool, v = .bool r ∧ Value.bool r = .bool true ∧ Mod [] w w'' := fun w' h => awake_run _ fun w2 h2 => ⟨true, rfl, rfl, h.trans' h2⟩
  by_cases hn : n < 1 ∨ 1024 < n
  · refine mem_new n w (fun _ => ⟨_, rfl, memr_new n w (fun _ => ⟨_, rfl, ?_⟩) (fun k p F w1 hk h1 h2 => by omega)⟩) (fun k p F w1 hk h1 h2 => by omega)
    simp only [Option.isNone_none, beq_self_eq_true, Bool.not_true, spl_false]
    refine ⟨fun w' => Mod [] w w', fun _ w' hm => fin w' hm, fun m i w' => Mod [] w w', ⟨0, Mod.refl _ _⟩, ?_⟩
    intro m i _ w' hm
    exact ⟨fun _ => ⟨fun _ => hm, fun _ => hm⟩, fun _ => hm⟩
  · refine mem_new n w (fun h => absurd h hn) (fun k p F w1 hk hk1 hk2 hd hm1 hF => ⟨_, rfl, memr_new n w1 (fun h => absurd h hn) (fun k' p2 F2 w2 hk' _ _ hd2 hm2 hF2 => ⟨_, rfl, ?_⟩)⟩)
    obtain rfl : k' = k := by omega
    simp only [Option.isNone_some, beq_self_eq_true, Bool.not_true, Bool.not_false, spl_false, spl_true, spl_decide, spl_bne, newK_eq, drK_eq, nilK_some, addr_add]
    have hltF := hd.lt
    refine ⟨fun w' => Mod [] w w', fun _ w' hm => fin w' hm, fun m i w' => ∃ k : Nat, i = k ∧ k ≤ l ∧ m = l - k ∧ k ≤ 200 ∧ Both1 w' p p2 w.heap.size ∧ Mod [] w w', ⟨l, 0, rfl, by omega, rfl, by omega, ?_, hm1.trans' hm2⟩, ?_⟩
    · exact ⟨_, F, F2, hd.keep (fun b hb => hm2.keep b (hltF b hb) (by simp)), hd2, fun b hb hb' => absurd (hF2 b hb') (by have := hltF b hb; omega), hF, fun b hb => Nat.le_trans hm1.size (hF2 b hb)⟩
    rintro m i - w3 ⟨k, rfl, hk, rfl, h200, hb3, hm3⟩
    refine ⟨fun hlt => ⟨fun hlt2 => ?_, fun _ => hm3⟩, fun _ => hm3⟩
    have hkl : k < l := by omega
    have hk200 : k < 200 := by omega
    clear hd hd2 hltF
    have hl3 := hl.mod hm3
    obtain ⟨ad, cs, rfl, hadlt, ⟨dk, df, dw, dv, rfl, hwk, hwf, hww, hwv⟩, -, hcell⟩ := hl3.at hkl
    refine ⟨⟨by omega, by omega⟩, dk, df, dw, dv, ⟨hcell 0 (by omega), hcell 1 (by omega), hcell 2 (by omega), hcell 3 (by omega)⟩, ?_⟩
    refine stK_of (alloc_new _ _) (by simp) ?_
    generalize hw4 : (w3.alloc _).upd _ _ = w4
    have hx : w4.heap[w3.heap.size]? = some (.cells #[.int .i64 dk, .int .i64 df, .int .i64 dw, .int .u64 dv] 24 (0, 0)) := by rw [← hw4, upd_same (alloc_new _ _)]; simp
    have m34 : Mod [] w3 w4 := by rw [← hw4]; exact ((Mod.refl [] w3).alloc _).upd (.inr (Nat.le_refl _)) _
    have hm4 := hm3.trans' m34
    obtain ⟨bs, F1, F2', d1', d2', hdis, hF1, hF2'⟩ := hb3
    have l1 := d1'.lt
    have l2 := d2'.lt
    have d1 := d1'.keep (w' := w4) fun b hb => m34.keep b (l1 b hb) (by simp)
    have d2 := d2'.keep (w' := w4) (fun b hb => m34.keep b (l2 b hb) (by simp))
    clear d1' d2'
    have hp2w : w3.heap.size ≠ p2 := fun h => by have := l2 p2 d2.mem; omega
    have n1 : w3.heap.size ∉ F1 := fun h => absurd (l1 _ h) (by omega)
    have n2 : w3.heap.size ∉ F2' := fun h => absurd (l2 _ h) (by omega)
    have hbw : w.heap.size ≤ w3.heap.size := hm3.size
    have l14 : ∀ b ∈ F1, b < w4.heap.size := d1.lt
    have l24 : ∀ b ∈ F2', b < w4.heap.size := d2.lt
    -- where every deed ends: the two hold the same, and the deed is as it was
    have k12 : ∀ {u u' : World}, Mod [] w u → Mod (F1 ++ F2') u u' → Mod [] w u' := fun h h' => h.trans h' fun b hb hlt => by
      rcases List.mem_append.1 hb with h | h
      · exact absurd (hF1 b h) (by omega)
      · exact absurd (hF2' b h) (by omega)
    refine ⟨fun ok w' => ok = true ∧ Both1 w' p p2 w.heap.size ∧ Mod [] w w' ∧ w'.heap[w3.heap.size]? = some (.cells #[.int .i64 dk, .int .i64 df, .int .i64 dw, .int .u64 dv] 24 (0, 0)), ?_, dk, by rw [cell_get hx]; rfl, ?_⟩
    · rintro ok - w5 ⟨rfl, ⟨bs, F, F2, d1, d2, hdis, hF, hF2⟩, hm5, hx5⟩
      simp only [spl_true]
      have d1' := d1.keep (w' := w5.drew) fun _ _ => rfl
      have d2' := d2.keep (w' := w5.drew) fun _ _ => rfl
      have l1 := d1'.lt
      have l2 := d2'.lt
      obtain ⟨T, ar, cr, hp⟩ := memr_ptr d2
      have kp : ∀ {w' : World}, Mod [] w5.drew w' → keepB [p2, w3.heap.size] w5.drew w' := fun h b hb => by
        simp only [List.mem_cons, List.not_mem_nil, or_false] at hb
        rcases hb with rfl | rfl
        · exact h.keep _ (l2 _ d2.mem) (by simp)
        · exact h.keep _ (lt_of_get hx5) (by simp)
      refine ⟨[p2, w3.heap.size], by simp, ar, bs.length, cr, by rw [World.cell?_drew, cell_get hp]; rfl, ?_⟩
      refine mem_frames d1' ⟨_, rfl, kp (Mod.refl _ _), fun h => absurd rfl h, fun _ => ?_⟩
      refine ⟨by simp, df, by rw [World.cell?_drew, cell_get hx5]; rfl, by simp, df, by rw [World.cell?_drew, cell_get hx5]; rfl, ?_⟩
      have next : ∀ {w' : World}, Mod [] w5.drew w' → keepB [p2, w3.heap.size] w5.drew w' ∧ ∃ m20, m20 < l - k ∧ ∃ k' : Nat, IntKind.i64.wrap ((k : Int) + 1) = k' ∧ k' ≤ l ∧ m20 = l - k' ∧ k' ≤ 200 ∧ Both1 w' p p2 w.heap.size ∧ Mod [] w w' := fun h => by
        refine ⟨kp h, l - (k + 1), by omega, k + 1, by rw [w64 (by omega) (by omega)]; omega, by omega, rfl, by omega, ?_, hm5.drew.trans' h⟩
        exact ⟨bs, F, F2, d1'.keep fun b hb => h.keep b (l1 b hb) (by simp), d2'.keep fun b hb => h.keep b (l2 b hb) (by simp), hdis, hF, hF2⟩
      refine mem_page d1' df (fun hbad => ⟨_, _, _, rfl, kp (Mod.refl _ _), memr_page d2' df (fun _ => ⟨_, _, _, rfl, kp (Mod.refl _ _), ?_⟩) (fun k' b q hk hb => by have := (List.getElem?_eq_some_iff.1 hb).1; omega)⟩) (fun k' b a6 G6 w6 hk' hb hs6 hG6 hm6 => ⟨_, _, _, rfl, kp hm6, ?_⟩)
      · refine words_eq (xs := []) (ys := []) (SlB.nil _ 1) (SlB.nil _ 1) (by omega) fun w6 hm6 => ⟨_, rfl, spl_t (by simp) (next hm6)⟩
      · have hblt := (List.getElem?_eq_some_iff.1 hb).1
        have d26 := d2'.keep (w' := w6) fun b hb => hm6.keep b (l2 b hb) (by simp)
        refine memr_page d26 df (fun hbad => by omega) (fun k'' b'' q hk'' hb'' hs'' hq => ⟨_, _, _, rfl, kp hm6, ?_⟩)
        obtain rfl : k'' = k' := by omega
        obtain rfl : b'' = b := Option.some.inj (hb''.symm.trans hb)
        exact words_eq hs6 hs'' (by omega) fun w7 hm7 => ⟨_, rfl, spl_t (by simp) (next (hm6.trans' hm7))⟩
    · simp only [spl_beq]
      refine ⟨fun _ => ?_, fun _ => ⟨fun _ => ?_, fun _ => ⟨fun _ => ?_, fun _ => ?_⟩⟩⟩
      · -- Read
        refine ⟨df, by rw [cell_get hx]; rfl, dw, by rw [cell_get hx]; rfl, ?_⟩
        have done : Both1 w4 p p2 w.heap.size := ⟨bs, F1, F2', d1, d2, hdis, hF1, hF2'⟩
        refine mem_read d1 df dw (fun hbad => ⟨_, _, rfl, df, by rw [cell_get hx]; rfl, dw, by rw [cell_get hx]; rfl, memr_read d2 df dw (fun _ => ⟨_, _, rfl, fun _ => ⟨rfl, done, hm4, hx⟩, fun h => absurd rfl h⟩) (fun k' j b x hk' hj hj32 hb hx' => by have := (List.getElem?_eq_some_iff.1 hb).1; omega)⟩)
          (fun k' j b x hk' hj hj32 hb hx' => ⟨_, _, rfl, df, by rw [cell_get hx]; rfl, dw, by rw [cell_get hx]; rfl, memr_read d2 df dw (fun hbad => by have := (List.getElem?_eq_some_iff.1 hb).1; omega) (fun k2 j2 b2 x2 hk2 hj2 _ hb2 hx2 => ?_)⟩)
        obtain rfl : k2 = k' := by omega
        obtain rfl : j2 = j := by omega
        obtain rfl : b2 = b := Option.some.inj (hb2.symm.trans hb)
        obtain rfl : x2 = x := Option.some.inj (hx2.symm.trans hx')
        exact ⟨_, _, rfl, fun _ => ⟨rfl, done, hm4, hx⟩, fun h => absurd rfl h⟩
      · -- Write
        have e1 : w4.drew.cell? ⟨w3.heap.size, 1, none⟩ = some (.int .i64 df) := by rw [World.cell?_drew, cell_get hx]; rfl
        have e2 : w4.drew.cell? ⟨w3.heap.size, 2, none⟩ = some (.int .i64 dw) := by rw [World.cell?_drew, cell_get hx]; rfl
        have e3 : w4.drew.cell? ⟨w3.heap.size, 3, none⟩ = some (.int .u64 dv) := by rw [World.cell?_drew, cell_get hx]; rfl
        have kp : ∀ {w' : World}, Mod (F1 ++ F2') w4 w' → keepB [w3.heap.size] w4.drew w' := fun h b hb => by
          simp only [List.mem_singleton] at hb
          subst hb
          exact h.keep _ (lt_of_get hx) (by simp [n1, n2])
        have d1d := d1.keep (w' := w4.drew) fun _ _ => rfl
        have d2d := d2.keep (w' := w4.drew) fun _ _ => rfl
        have r0 : Mod (F1 ++ F2') w4 w4.drew := (Mod.refl _ _).drew
        refine ⟨[w3.heap.size], by simp, df, e1, by simp, dw, e2, by simp, dv, e3, by simp, df, e1, by simp, dw, e2, by simp, dv, e3, ?_⟩
        refine mem_write d1d df dw dv (fun hbad => ⟨_, rfl, kp r0, memr_write d2d df dw dv (fun _ => ⟨_, rfl, kp r0, rfl, ⟨bs, F1, F2', d1d, d2d, hdis, hF1, hF2'⟩, hm4.drew, hx⟩) (fun k' j b x hk' hj hj32 hb => by have := (List.getElem?_eq_some_iff.1 hb).1; omega)⟩)
          (fun k' j b w5 hk' hj hj32 hb d15 hm5 => ⟨_, rfl, kp (r0.trans' (hm5.mono (by simp +contextual))), memr_write (d2d.keep (w' := w5) fun x hx' => hm5.keep x (l24 x hx') fun h => hdis x h hx') df dw dv (fun hbad => by have := (List.getElem?_eq_some_iff.1 hb).1; omega) (fun k2 j2 b2 w6 hk2 hj2 _ hb2 d26 hm6 => ?_)⟩)
        obtain rfl : k2 = k' := by omega
        obtain rfl : j2 = j := by omega
        obtain rfl : b2 = b := Option.some.inj (hb2.symm.trans hb)
        have m6 : Mod (F1 ++ F2') w4 w6 := (r0.trans' (hm5.mono (by simp +contextual))).trans' (hm6.mono (by simp +contextual))
        have l15 := d15.lt
        exact ⟨_, rfl, kp m6, rfl, ⟨_, F1, F2', d15.keep fun x hx' => hm6.keep x (l15 x hx') (hdis x hx'), d26, hdis, hF1, hF2'⟩, k12 hm4 m6, m6.get hx (by simp [n1, n2])⟩
      · -- Copy
        have e1 : w4.drew.cell? ⟨w3.heap.size, 1, none⟩ = some (.int .i64 df) := by rw [World.cell?_drew, cell_get hx]; rfl
        have e2 : w4.drew.cell? ⟨w3.heap.size, 2, none⟩ = some (.int .i64 dw) := by rw [World.cell?_drew, cell_get hx]; rfl
        have kp : ∀ {w' : World}, Mod (F1 ++ F2') w4 w' → keepB [w3.heap.size] w4.drew w' := fun h b hb => by
          simp only [List.mem_singleton] at hb
          subst hb
          exact h.keep _ (lt_of_get hx) (by simp [n1, n2])
        have d1d := d1.keep (w' := w4.drew) fun _ _ => rfl
        have d2d := d2.keep (w' := w4.drew) fun _ _ => rfl
        have r0 : Mod (F1 ++ F2') w4 w4.drew := (Mod.refl _ _).drew
        refine ⟨[w3.heap.size], by simp, df, e1, by simp, dw, e2, by simp, df, e1, by simp, dw, e2, ?_⟩
        refine mem_copy d1d df dw (fun hbad => ⟨_, rfl, kp r0, memr_copy d2d df dw (fun _ => ⟨_, rfl, kp r0, rfl, ⟨bs, F1, F2', d1d, d2d, hdis, hF1, hF2'⟩, hm4.drew, hx⟩) (fun t f b w5 ht hf htl hb => by have := (List.getElem?_eq_some_iff.1 hb).1; omega)⟩)
          (fun t f b w5 ht hf htl hb d15 hm5 => ⟨_, rfl, kp (r0.trans' (hm5.mono (by simp +contextual))), memr_copy (d2d.keep (w' := w5) fun x hx' => hm5.keep x (l24 x hx') fun h => hdis x h hx') df dw (fun hbad => by have := (List.getElem?_eq_some_iff.1 hb).1; omega) (fun t2 f2 b2 w6 ht2 hf2 _ hb2 d26 hm6 => ?_)⟩)
        obtain rfl : t2 = t := by omega
        obtain rfl : f2 = f := by omega
        obtain rfl : b2 = b := Option.some.inj (hb2.symm.trans hb)
        have m6 : Mod (F1 ++ F2') w4 w6 := (r0.trans' (hm5.mono (by simp +contextual))).trans' (hm6.mono (by simp +contextual))
        have l15 := d15.lt
        exact ⟨_, rfl, kp m6, rfl, ⟨_, F1, F2', d15.keep fun x hx' => hm6.keep x (l15 x hx') (hdis x hx'), d26, hdis, hF1, hF2'⟩, k12 hm4 m6, m6.get hx (by simp [n1, n2])⟩
      · -- Zero
        have e1 : w4.drew.cell? ⟨w3.heap.size, 1, none⟩ = some (.int .i64 df) := by rw [World.cell?_drew, cell_get hx]; rfl
        have kp : ∀ {w' : World}, Mod (F1 ++ F2') w4 w' → keepB [w3.heap.size] w4.drew w' := fun h b hb => by
          simp only [List.mem_singleton] at hb
          subst hb
          exact h.keep _ (lt_of_get hx) (by simp [n1, n2])
        have d1d := d1.keep (w' := w4.drew) fun _ _ => rfl
        have d2d := d2.keep (w' := w4.drew) fun _ _ => rfl
        have r0 : Mod (F1 ++ F2') w4 w4.drew := (Mod.refl _ _).drew
        refine ⟨[w3.heap.size], by simp, df, e1, by simp, df, e1, ?_⟩
        refine mem_zero d1d df (fun hbad => ⟨_, rfl, kp r0, memr_zero d2d df (fun _ => ⟨_, rfl, kp r0, rfl, ⟨bs, F1, F2', d1d, d2d, hdis, hF1, hF2'⟩, hm4.drew, hx⟩) (fun k' w5 hk' hkl' => by omega)⟩)
          (fun k' w5 hk' hkl' d15 hm5 => ⟨_, rfl, kp (r0.trans' (hm5.mono (by simp +contextual))), memr_zero (d2d.keep (w' := w5) fun x hx' => hm5.keep x (l24 x hx') fun h => hdis x h hx') df (fun hbad => by omega) (fun k2 w6 hk2 _ d26 hm6 => ?_)⟩)
        obtain rfl : k2 = k' := by omega
        have m6 : Mod (F1 ++ F2') w4 w6 := (r0.trans' (hm5.mono (by simp +contextual))).trans' (hm6.mono (by simp +contextual))
        have l15 := d15.lt
        exact ⟨_, rfl, kp m6, rfl, ⟨_, F1, F2', d15.keep fun x hx' => hm6.keep x (l15 x hx') (hdis x hx'), d26, hdis, hF1, hF2'⟩, k12 hm4 m6, m6.get hx (by simp [n1, n2])⟩

end Go.Proofs
