/-
  Layer 19: the reference's 'Decode'; the walk of 'PipesReads'.
-/
import Derived.Test.YtjlgbofgmjplaaaC19k
set_option linter.unusedSimpArgs false
namespace Go.Proofs
open Go Go.Den

theorem dec_step {full pre : PS} {xs : List Int} {k A : Nat} (hl : full.length = 16) (hs : Short full) (he : encL full = xs) (hk : k < 16) (ht : full.take k = pre) (hA : (encL pre).length = A) :
    ∃ e post, Sh1 e ∧ full.take (k + 1) = pre ++ [e] ∧ xs.drop A = encP e ++ encL post := by
  have hg : full[k]? = some (full[k]'(by omega)) := List.getElem?_eq_getElem _
  refine ⟨full[k]'(by omega), full.drop (k + 1), fun bs hb => hs k bs (by rw [hg, hb]), by rw [List.take_succ_eq_append_getElem (by omega), ht], ?_⟩
  rw [← encL_cons, ← List.drop_eq_getElem_cons, ← he]
  conv => lhs; rw [← List.take_append_drop k full]
  rw [encL_append, ht, ← hA, List.drop_left]

def w8 (x : Int) : UInt8 := UInt8.ofNat (x % 256).toNat
theorem w8_wrap (x : Int) : Value.int .u8 (IntKind.u8.wrap x) = u8v (w8 x) := by
  unfold u8v w8
  congr 1
  rw [IntKind.wrap_u8]
  have : (x % 256).toNat % 256 = (x % 256).toNat := by omega
  simp
  omega
theorem w8_b2i (bs : List UInt8) : (b2i bs).map w8 = bs := by
  unfold b2i
  rw [List.map_map]
  conv => rhs; rw [← List.map_id bs]
  apply List.map_congr_left
  intro b _
  have := b.toNat_lt
  simp only [Function.comp_apply, w8, id]
  apply UInt8.toNat_inj.1
  simp
  omega

theorem pipesr_decode {w : World} {a : Option Addr} {l c : Nat} {xs : List Int} {G : List Nat} (h : Rd w a l 1 (u64s xs) G) (hlm : l ≤ 4611686018427387904) (hx0 : ∀ x ∈ xs, 0 ≤ x) {K : Value → World → Prop}
    (h0 : NoDec xs → ∀ w', Mod [] w w' → K (.tuple #[.pointer none, .int .i64 101]) w')
    (h1 : ∀ (b : Nat) (full : PS) (w' : World), full.length = 16 → Short full → encL full = xs → Mod [] w w' → K (.tuple #[.pointer (some ⟨b, 0, none⟩), .int .i64 0]) w') :
    CallsR Try.prog F_janusref19_Decode #[.slice a l c] w K := by
  apply R_janusref19_Decode_ok
  simp only [R_janusref19_Decode, newK_eq, spl_decide, spl_beq, addr_add, Nat.zero_add]
  have hlx := h.u64
  have hp1 := pipesr_new w (T := 50)
  generalize hw1 : w.alloc _ = w1 at hp1 ⊢
  have hm1 : Mod [] w w1 := by rw [← hw1]; exact (Mod.refl _ _).alloc _
  clear hw1
  refine ⟨fun n at_ i w' => ∃ (A k : Nat) (pre : PS), at_ = A ∧ i = k ∧ k ≤ 16 ∧ n = 16 - k ∧ A ≤ l ∧ pre.length = k ∧ PipesR w' w.heap.size (pre ++ List.replicate (16 - k) none) ∧ (∀ full : PS, full.length = 16 → Short full → encL full = xs → full.take k = pre ∧ (encL pre).length = A) ∧ Mod [] w w',
    ⟨16, 0, 0, [], rfl, rfl, by omega, rfl, by omega, rfl, hp1, fun full _ _ _ => ⟨by simp, rfl⟩, hm1⟩, ?_⟩
  rintro n at_ i - w2 ⟨A, k, pre, rfl, rfl, hk, rfl, hA, hpre, hp2, hfull, hm2⟩
  have hb2 := hp2.lt
  refine ⟨fun hlt => ?_, fun hge => ?_⟩
  · have hk16 : k < 16 := by omega
    have erep : List.replicate (16 - k) (none : Option (List UInt8)) = none :: List.replicate (16 - (k + 1)) none := by
      rw [show 16 - k = (16 - (k + 1)) + 1 by omega, List.replicate_succ]
    rw [erep] at hp2
    have stp : ∀ full : PS, full.length = 16 → Short full → encL full = xs → ∃ e post, Sh1 e ∧ full.take (k + 1) = pre ++ [e] ∧ xs.drop A = encP e ++ encL post := fun full f1 f2 f3 => by
      obtain ⟨f4, f5⟩ := hfull full f1 f2 f3
      exact dec_step f1 f2 f3 hk16 f4 f5
    refine ⟨fun at_ w' => ∃ (A : Nat) (pre : PS), at_ = A ∧ A ≤ l ∧ pre.length = k + 1 ∧ PipesR w' w.heap.size (pre ++ List.replicate (16 - (k + 1)) none) ∧ (∀ full : PS, full.length = 16 → Short full → encL full = xs → full.take (k + 1) = pre ∧ (encL pre).length = A) ∧ Mod [] w w', ?_, ?_⟩
    · rintro at_ - w3 ⟨A', pre', rfl, hA', hpre', hp', hf', hm'⟩
      exact ⟨16 - (k + 1), by omega, A', k + 1, pre', rfl, by rw [w64 (by omega) (by omega)]; omega, by omega, rfl, hA', hpre', hp', hf', hm'⟩
    refine ⟨fun hge => ?_, fun hltA => ?_⟩
    · refine h0 (fun full f1 f2 f3 => ?_) w2 hm2
      obtain ⟨e, post, -, -, hd⟩ := stp full f1 f2 f3
      rw [List.drop_of_length_le (by omega)] at hd
      exact encP_ne e (List.append_eq_nil_iff.1 hd.symm).1
    · have hAl : A < l := by omega
      obtain ⟨ad, x, rfl, hx, hcx, -, -⟩ := (h.mod0 hm2).u64at hAl
      have hx' : (xs.drop A)[0]? = some x := by rw [List.getElem?_drop]; exact hx
      simp only [nilK_some, Int.toNat_natCast]
      refine ⟨⟨by omega, by omega⟩, x, hcx, fun hz => ?_, fun hnz => ?_⟩
      · subst hz
        refine ⟨A + 1, pre ++ [none], by rw [w64 (by omega) (by omega)]; omega, by omega, by simp [hpre], by simpa using hp2, fun full f1 f2 f3 => ?_, hm2⟩
        obtain ⟨e, post, -, ht, hd⟩ := stp full f1 f2 f3
        rw [hd] at hx'
        have he : e = none := by cases e <;> simp [encP] at hx' ⊢
        subst he
        exact ⟨ht, by rw [encL_append, List.length_append, (hfull full f1 f2 f3).2]; rfl⟩
      · have isSome : ∀ {e : Option (List UInt8)} {post : PS}, xs.drop A = encP e ++ encL post → ∃ bs, e = some bs := fun {e post} hd => by
          cases e with
          | none => rw [hd] at hx'; simp [encP] at hx'; exact absurd hx'.symm hnz
          | some bs => exact ⟨bs, rfl⟩
        have eA : IntKind.i64.wrap ((A : Int) + 1) = ((A + 1 : Nat) : Int) := by rw [w64 (by omega) (by omega)]; omega
        rw [eA]
        refine ⟨fun hge => ?_, fun hltA1 => ?_⟩
        · refine h0 (fun full f1 f2 f3 => ?_) w2 hm2
          obtain ⟨e, post, -, -, hd⟩ := stp full f1 f2 f3
          obtain ⟨bs, rfl⟩ := isSome hd
          have := congrArg List.length hd
          simp [encP] at this
          omega
        · have hAl1 : A + 1 < l := by omega
          obtain ⟨ad', m, had, hm, hcm, -, -⟩ := (h.mod0 hm2).u64at hAl1
          cases had
          have hm' : (xs.drop A)[1]? = some m := by rw [List.getElem?_drop]; exact hm
          have hm0 : 0 ≤ m := hx0 m (List.mem_of_getElem? hm)
          simp only [Int.toNat_natCast]
          refine ⟨⟨by omega, by omega⟩, m, hcm, fun hgt => ?_, fun hle => ?_⟩
          · refine h0 (fun full f1 f2 f3 => ?_) w2 hm2
            obtain ⟨e, post, hs, -, hd⟩ := stp full f1 f2 f3
            obtain ⟨bs, rfl⟩ := isSome hd
            have := hs bs rfl
            rw [hd] at hm'
            simp [encP] at hm'
            omega
          · obtain ⟨M, rfl⟩ := nat_of hm0
            have em : IntKind.i64.wrap (M : Int) = (M : Int) := w64 (by omega) (by omega)
            have eL : IntKind.i64.wrap (IntKind.i64.wrap (((l : Nat) : Int) - (A : Int)) - 2) = (l : Int) - A - 2 := by rw [w64 (n := (l : Int) - A) (by omega) (by omega), w64 (by omega) (by omega)]
            rw [eL]
            refine ⟨⟨by omega, by omega⟩, _, hcm, fun hgt => ?_, fun hle2 => ?_⟩
            · rw [em] at hgt
              refine h0 (fun full f1 f2 f3 => ?_) w2 hm2
              obtain ⟨e, post, hs, -, hd⟩ := stp full f1 f2 f3
              obtain ⟨bs, rfl⟩ := isSome hd
              rw [hd] at hm'
              simp [encP] at hm'
              have := congrArg List.length hd
              simp [encP, b2i_length] at this
              omega
            · rw [em] at hle2
              have hAM : A + 2 + M ≤ l := by omega
              refine ⟨⟨by omega, by omega⟩, ?_⟩
              obtain ⟨arr, T, hb, hsz, hll, hsh, hget⟩ := hp2
              refine stK_of hb (by simp; omega) ?_
              simp only [splice_cons, splice_nil]
              generalize hw3 : w2.upd _ _ = w3
              have hb3 : w3.heap[w.heap.size]? = some (.cells (arr.setIfInBounds k (.bool true)) T (0, 0)) := by rw [← hw3, upd_same hb]
              have hm3 : Mod [] w w3 := by rw [← hw3]; exact hm2.upd (.inr (Nat.le_refl _)) _
              have hb3lt : w.heap.size < w3.heap.size := by rw [← hw3, upd_size]; exact hb2
              clear hw3
              obtain ⟨ad', m2, had, hmm, hcm3, -, -⟩ := (h.mod0 hm3).u64at hAl1
              cases had
              obtain rfl : m2 = (M : Int) := by rw [hm] at hmm; exact (Option.some.inj hmm).symm
              refine ⟨⟨by omega, by omega⟩, _, hcm3, ?_⟩
              rw [em]
              let ys := (xs.drop (A + 2)).take M
              have hys : ys.length = M := by simp [ys]; omega
              have kpb : ∀ {G4 : List Nat} {u u' : World}, Beyond w3.heap.size G4 → Mod G4 u u' → w3.heap.size ≤ u.heap.size → u'.heap[w.heap.size]? = u.heap[w.heap.size]? := fun hG hm hle => hm.keep _ (by omega) fun hx => by have := hG _ hx; omega
              refine ⟨fun n A4 L4 C4 t w' => ∃ (j : Nat) (G4 : List Nat), t = j ∧ j ≤ M ∧ n = M - j ∧ SlB w' A4 L4 C4 1 (((ys.take j).map w8).map u8v) G4 ∧ Beyond w3.heap.size G4 ∧ Mod [] w3 w' , ⟨M, 0, [], rfl, by omega, rfl, by simpa using SlB.nil w3 1, by simp [Beyond], Mod.refl _ _⟩, ?_⟩
              rintro n A4 L4 C4 t - w4 ⟨j, G4, rfl, hj, rfl, hs4, hG4, hm4⟩
              have hl4 : L4 = j := by have := hs4.length; simp [hys] at this; omega
              refine ⟨fun hjlt => ?_, fun hjge => ?_⟩
              · have hjM : j < M := by omega
                have e6 : IntKind.i64.wrap (IntKind.i64.wrap ((A : Int) + 2) + (j : Int)) = ((A + 2 + j : Nat) : Int) := by rw [w64 (n := (A : Int) + 2) (by omega) (by omega), w64 (by omega) (by omega)]; omega
                rw [e6]
                obtain ⟨ad', y, had, hy, hcy, -, -⟩ := (h.mod0 (hm3.trans' hm4)).u64at (k := A + 2 + j) (by omega)
                cases had
                simp only [Int.toNat_natCast]
                refine ⟨⟨by omega, by omega⟩, y, hcy, ?_⟩
                rw [w8_wrap]
                obtain ⟨A', C', w', G', hrun, hs', hG', hm', -, -⟩ := push_run slT_u8 (by decide) hs4 hG4 hm4 (us := [u8v (w8 y)]) (n := 1) rfl (by simp [isCell, u8v]) (by omega) (by omega) 5 64
                refine ⟨_, _, hrun, _, _, _, rfl, M - (j + 1), by omega, j + 1, G', by rw [w64 (by omega) (by omega)]; omega, by omega, rfl, ?_, hG', hm'⟩
                have e7 : ys.take (j + 1) = ys.take j ++ [y] := by
                  have : ys[j]? = some y := by simp only [ys]; rw [List.getElem?_take, if_pos hjM, List.getElem?_drop]; exact hy
                  rw [List.take_add_one, this]; rfl
                rw [e7, List.map_append, List.map_append]
                exact hs'
              · have hjM : j = M := by omega
                subst hjM
                rw [List.take_of_length_le (by omega)] at hs4
                refine ⟨[], ?_⟩
                have hconv := convert_str (P := Try.prog) (src := 64) (dst := 9) (e := 5) (by kernel_rfl) (by kernel_rfl) (by kernel_rfl) (w := w4.drew) (s := bytesOf (ys.map w8)) (by rw [bys8_bytesOf]; exact hs4.keep fun _ _ => rfl)
                refine ⟨_, _, hconv, _, rfl, ⟨by omega, by omega⟩, ?_⟩
                have hb4 : w4.drew.heap[w.heap.size]? = some (.cells (arr.setIfInBounds k (.bool true)) T (0, 0)) := hm4.get hb3 (by simp)
                refine stK_of hb4 (by simp; omega) ?_
                simp only [splice_cons, splice_nil]
                have e8 : IntKind.i64.wrap ((A : Int) + IntKind.i64.wrap (2 + (j : Int))) = ((A + (2 + j) : Nat) : Int) := by rw [w64 (n := 2 + (j : Int)) (by omega) (by omega), w64 (by omega) (by omega)]; omega
                refine ⟨A + (2 + j), pre ++ [some (ys.map w8)], e8, by omega, by simp [hpre], ?_, fun full f1 f2 f3 => ?_, (hm3.trans' hm4).drew.upd (.inr (Nat.le_refl _)) _⟩
                · refine ⟨_, T, upd_same hb4, by simpa using hsz, by simp; omega, ?_, fun i e hi => ?_⟩
                  · have := hsh.set k (e := some (ys.map w8)) (fun bs hb => by cases hb; simp [hys]; omega)
                    rw [← hpre, rep_set, hpre] at this
                    simpa using this
                  · have hi' : ((pre ++ none :: List.replicate (16 - (k + 1)) none).set k (some (ys.map w8)))[i]? = some e := by
                      conv => lhs; rw [← hpre, rep_set, hpre]
                      simpa using hi
                    rw [List.getElem?_set] at hi'
                    by_cases hik : k = i
                    · subst hik
                      rw [if_pos rfl, if_pos (by omega)] at hi'
                      obtain rfl := Option.some.inj hi'
                      exact ⟨by rw [Array.getElem?_setIfInBounds_ne (by omega), Array.getElem?_setIfInBounds_self_of_lt (by omega)]; rfl, by rw [Array.getElem?_setIfInBounds_self_of_lt (by simp; omega)]; rfl⟩
                    · rw [if_neg hik] at hi'
                      have hi16 : i < 16 := by have := (List.getElem?_eq_some_iff.1 hi').1; omega
                      obtain ⟨c1, c2⟩ := hget i e hi'
                      exact ⟨by rw [Array.getElem?_setIfInBounds_ne (by omega), Array.getElem?_setIfInBounds_ne (by omega)]; exact c1, by rw [Array.getElem?_setIfInBounds_ne (by omega), Array.getElem?_setIfInBounds_ne (by omega)]; exact c2⟩
                · obtain ⟨e, post, hs, ht, hd⟩ := stp full f1 f2 f3
                  obtain ⟨bs, rfl⟩ := isSome hd
                  have hbl : bs.length = j := by rw [hd] at hm'; simp [encP] at hm'; omega
                  have hyb : ys = b2i bs := by
                    have : xs.drop (A + 2) = b2i bs ++ encL post := by
                      have := congrArg (List.drop 2) hd
                      rw [List.drop_drop] at this
                      simpa [encP] using this
                    simp only [ys]
                    rw [this, ← hbl, ← b2i_length, List.take_left]
                  rw [hyb, w8_b2i]
                  refine ⟨ht, ?_⟩
                  rw [encL_append, List.length_append, (hfull full f1 f2 f3).2]
                  simp [encL, encP, b2i_length, hbl]
                  omega
  · have hk16 : k = 16 := by omega
    subst hk16
    simp only [Nat.sub_self, List.replicate_zero, List.append_nil] at hp2
    refine pipesr_encode hp2 fun A3 L3 C3 G3 w3 hs3 hG3 hm3 => ⟨_, _, _, rfl, ?_⟩
    have hm3' := hm2.trans' hm3
    have hl3 := hs3.u64
    have hsh : Short pre := by obtain ⟨arr, T, h1, h2, h3, h4, h5⟩ := hp2; exact h4
    have hen := encL_length pre hsh
    refine words_rd hs3.rd (h.mod0 hm3') (by omega) fun w4 hm4 => ⟨_, rfl, ?_⟩
    by_cases hxe : encL pre = xs
    · refine spl_t (by simpa using hxe) (h1 _ pre w4 hpre hsh hxe (hm3'.trans' hm4))
    · refine spl_f (by simpa using hxe) (h0 (fun full f1 f2 f3 => ?_) w4 (hm3'.trans' hm4))
      obtain ⟨f4, -⟩ := hfull full f1 f2 f3
      rw [List.take_of_length_le (by omega)] at f4
      exact hxe (by rw [← f4]; exact f3)

theorem encL_nonneg (l : PS) : ∀ x ∈ encL l, 0 ≤ x := by
  intro x hx
  simp only [encL, List.mem_flatMap] at hx
  obtain ⟨e, -, hx⟩ := hx
  cases e with
  | none => simp [encP] at hx; omega
  | some bs =>
    simp only [encP, List.mem_cons, b2i, List.mem_map] at hx
    rcases hx with rfl | rfl | ⟨b, -, rfl⟩ <;> omega

theorem words_in {w : World} {a : Option Addr} {l c : Nat} {q : List Value → Prop} (hl : SlIn w 1 q a l c) (hq : ∀ cs, q cs → ∃ n : Int, cs = [.int .u64 n] ∧ (Lit.int .u64 n).wf = true) : ∃ (xs : List Int) (G : List Nat), Rd w a l 1 (u64s xs) G ∧ ∀ x ∈ xs, 0 ≤ x ∧ x < 18446744073709551616 := by
  obtain ⟨vss, F, h1, h2, h3⟩ := hl.rd
  obtain ⟨xs, h4, h5, h6⟩ := flat1 (k := .u64) vss fun vs hv => hq vs (h2 vs hv).1
  exact ⟨xs, F, by rw [h4] at h3; exact h3, fun x hx => u64_bounds (h6 x hx)⟩

theorem reads_run (w : World) (a : Option Addr) (l c : Nat) (hl : SlIn w 1 Q_u64 a l c) :
    CallsR Try.prog F_januslaw19_PipesReads #[.slice a l c] w fun r w' => r = .bool true ∧ Mod [] w w' := by
  apply R_januslaw19_PipesReads_ok
  simp only [R_januslaw19_PipesReads, spl_decide]
  have fin : ∀ (w' : World), Mod [] w w' → CallsR Try.prog F_januslaw19_awake #[] w' fun v w'' => ∃ r : Bool, v = .bool r ∧ Value.bool r = .bool true ∧ Mod [] w w'' := fun w' h => awake_run _ fun w2 h2 => ⟨true, rfl, rfl, h.trans' h2⟩
  refine ⟨fun _ => fin w (Mod.refl _ _), fun hle => ?_⟩
  obtain ⟨xs, G, hx, hx0⟩ := words_in hl fun cs h => h
  have hx0' : ∀ x ∈ xs, 0 ≤ x := fun x h => (hx0 x h).1
  have hlc := hl.le
  refine pipes_decode hx hlc.1 hx0' (fun hno w1 hm1 => ⟨_, _, rfl, ?_⟩) (fun p full F w1 hf he hp hF hm1 => ⟨_, _, rfl, ?_⟩)
  · refine pipesr_decode (hx.mod0 hm1) (by omega) hx0' (fun _ w2 hm2 => ⟨_, _, rfl, ?_⟩) (fun b full w2 f1 f2 f3 hm2 => (hno full f1 f2 f3).elim)
    exact spl_t rfl (spl_t rfl (spl_t rfl (fin w2 (hm1.trans' hm2))))
  · refine pipesr_decode (hx.mod0 hm1) (by omega) hx0' (fun hno w2 hm2 => (hno full hf hp.short he).elim) (fun b full2 w2 f1 f2 f3 hm2 => ⟨_, _, rfl, ?_⟩)
    refine spl_t rfl (spl_t rfl (spl_f rfl ?_))
    have hp2 := hp.keep (w' := w2) fun b hb => hm2.keep b (hp.lt b hb) (by simp)
    refine pipes_encode hp2 fun A L C G2 w3 hs hG hm3 => ⟨_, _, _, rfl, ?_⟩
    have hsl := hs.u64
    have hen := encL_length full hp.short
    refine words_rd hs.rd (hx.mod0 ((hm1.trans' hm2).trans' hm3)) (by omega) fun w4 hm4 => ⟨_, rfl, spl_t (by simpa using he) (fin w4 (((hm1.trans' hm2).trans' hm3).trans' hm4))⟩

end Go.Proofs
