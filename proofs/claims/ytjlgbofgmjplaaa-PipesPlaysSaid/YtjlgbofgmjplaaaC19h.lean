/-
  Layer 19: the walk of 'PipesOrder'.
-/
import Derived.Test.YtjlgbofgmjplaaaC19g
set_option linter.unusedSimpArgs false
namespace Go.Proofs
open Go Go.Den

theorem tl_of {a b : ByteArray} (h : a.data.toList = b.data.toList) : a = b := by
  cases a; cases b
  simp only at h
  rw [Array.ext' h]
theorem size_tl (a : ByteArray) : a.data.toList.length = a.size := by rw [Array.length_toList]; rfl
theorem ext_tl (a : ByteArray) (n m : Nat) : (a.extract n m).data.toList = (a.data.toList.take m).drop n := by
  simp [ByteArray.data_extract, Array.toList_extract, List.extract, List.drop_take]

theorem order_run (w : World) (a : Option Addr) (l c : Nat) (hl : SlIn w 4 Q_januslaw19_Deed a l c) :
    CallsR Try.prog F_januslaw19_PipesOrder #[.slice a l c] w fun r w' => r = .bool true ∧ Mod [] w w' := by
  apply R_januslaw19_PipesOrder_ok
  simp only [R_januslaw19_PipesOrder]
  have fin : ∀ (w' : World), Mod [] w w' → CallsR Try.prog F_januslaw19_awake #[] w' fun v w'' => ∃ r : Bool, v = .bool r ∧ Value.bool r = .bool true ∧ Mod [] w w'' := fun w' h => awake_run _ fun w2 h2 => ⟨true, rfl, rfl, h.trans' h2⟩
  refine pipes_new w fun p F w1 hp1 hm1 hF => ⟨_, rfl, ?_⟩
  simp only [Option.isNone_some, spl_false, spl_decide, spl_bne, spl_beq]
  refine pipes_make hp1 (fun h => absurd rfl (h 0 (by decide))) (fun k w2 F2 hk hkn hbef hp2 hm2 ho2 => ⟨_, _, rfl, ?_⟩)
  have hk0 : k = 0 := by
    rcases Nat.eq_zero_or_pos k with h | h
    · exact h
    · exact absurd rfl (hbef 0 h)
  subst hk0
  have m2 : Mod [] w w2 := hm1.trans hm2 fun b hb hlt => absurd (hF b hb) (by omega)
  have hF2 : ∀ b ∈ F2, w.heap.size ≤ b := fun b hb => by
    rcases ho2 b hb with h | h
    · exact hF b h
    · have := hm1.size; omega
  have kF : ∀ {u u' : World}, Mod [] w u → Mod F2 u u' → Mod [] w u' := fun h h' => h.trans h' fun b hb hlt => absurd (hF2 b hb) (by omega)
  refine ⟨fun h => absurd rfl h, fun _ => ⟨fun w' => Mod [] w w', fun _ w' hm => fin w' hm, ?_⟩⟩
  let st (bs : List UInt8) := (List.replicate 16 (none : Option (List UInt8))).set 0 (some bs)
  have st0 : ∀ bs, (st bs)[0]? = some (some bs) := fun bs => rfl
  have no0 : ∀ {bs : List UInt8}, ((((0 : Nat) : Int)) < 0 ∨ (16 : Int) ≤ ((0 : Nat) : Int) ∨ ∃ k : Nat, (((0 : Nat) : Int)) = k ∧ (st bs)[k]? = some none) → False := fun h => by
    rcases h with h | h | ⟨k, hk, hk'⟩
    · omega
    · omega
    · obtain rfl : k = 0 := by omega
      simp [st] at hk'
  refine ⟨fun n ins outs i w' => ∃ (k : Nat) (bs : List UInt8), i = k ∧ k ≤ l ∧ k ≤ 200 ∧ n = l - k ∧ PipesP w' p (st bs) F2 ∧ bs.length ≤ 8 ∧ ins.data.toList = outs.data.toList ++ bs ∧ ins.size ≤ k * 100 ∧ Mod [] w w', ⟨l, 0, [], rfl, by omega, by omega, rfl, hp2, by simp, rfl, by decide, m2⟩, ?_⟩
  rintro n ins outs i - w3 ⟨k, bs, rfl, hk, h200, rfl, hp3, hbs, hio, hin, hm3⟩
  refine ⟨fun hlt => ⟨fun hlt2 => ?_, fun _ => hm3⟩, fun _ => hm3⟩
  have hkl : k < l := by omega
  have hio' := congrArg List.length hio
  rw [List.length_append, size_tl, size_tl] at hio'
  obtain ⟨ad, cs, rfl, hadlt, ⟨dk, di, dn, ds, rfl, hwk, hwi, hwn, hws⟩, -, hcell⟩ := hl.at hkl
  have cell : ∀ {u : World}, Mod [] w u → ∀ j v, j < 4 → [Value.int .i64 dk, .int .i64 di, .int .i64 dn, .string ds][j]? = some v → u.cell? (Addr.add (Addr.add ad (k * 4)) j) = some v := fun hm j v hj hv => by
    rw [← hv, ← hcell j hj]
    exact hm.cell (by rw [add_block, add_block]; exact hadlt)
  have c0 := fun {u : World} (hm : Mod [] w u) => cell hm 0 _ (by decide) rfl
  simp only [Addr.add_zero'] at c0
  refine ⟨fun ins' outs' w' => ∃ bs' : List UInt8, PipesP w' p (st bs') F2 ∧ bs'.length ≤ 8 ∧ ins'.data.toList = outs'.data.toList ++ bs' ∧ ins'.size ≤ (k + 1) * 100 ∧ Mod [] w w', ?_, ?_⟩
  · rintro ins' outs' - w4 ⟨bs', hp4, hb4, hio4, hin4, hm4⟩
    exact ⟨l - (k + 1), by omega, k + 1, bs', by rw [w64 (by omega) (by omega)]; omega, by omega, by omega, rfl, hp4, hb4, hio4, hin4, hm4⟩
  simp only [nilK_some, Int.toNat_natCast]
  refine ⟨⟨by omega, by omega⟩, ds, cell hm3 3 _ (by decide) rfl, fun _ => ⟨bs, hp3, hbs, hio, by omega, hm3⟩, fun hsz => ?_⟩
  refine ⟨fun ins' outs' w' => ∃ bs' : List UInt8, PipesP w' p (st bs') F2 ∧ bs'.length ≤ 8 ∧ ins'.data.toList = outs'.data.toList ++ bs' ∧ ins'.size ≤ (k + 1) * 100 ∧ Mod [] w w', ?_, ?_⟩
  · rintro ins' outs' - w4 ⟨bs', hp4, hb4, hio4, hin4, hm4⟩
    have hl4 := congrArg List.length hio4
    rw [List.length_append, size_tl, size_tl] at hl4
    refine pipes_len hp4 _ (fun h => (no0 h).elim) (fun q bs6 hq hbq _ => ⟨_, rfl, ?_⟩)
    obtain rfl : q = 0 := by omega
    rw [st0] at hbq
    obtain rfl : bs' = bs6 := Option.some.inj (Option.some.inj hbq)
    refine ⟨fun h => by omega, fun _ => ⟨fun h => by omega, fun _ => ⟨fun h => absurd ?_ h, fun _ => ?_⟩⟩⟩
    · rw [w64 (by omega) (by omega)]; omega
    · refine ⟨?_, trivial, ?_⟩
      · simp only [sOK]; omega
      · simp only [sM, Int.toNat_natCast]
        refine spl_f ?_ ⟨bs', hp4, hb4, hio4, hin4, hm4⟩
        have e : ins'.extract 0 outs'.size = outs' := tl_of (by rw [ext_tl, List.drop_zero, hio4, ← size_tl, List.take_left])
        rw [e]
        simp
  refine ⟨⟨by omega, by omega⟩, dk, c0 hm3, fun _ => ?_, fun _ => ?_⟩
  · refine ⟨⟨by omega, by omega⟩, ds, cell hm3 3 _ (by decide) rfl, ?_⟩
    refine pipes_put hp3 _ ds (fun h => (no0 h).elim) (fun q bs4 w4 hq hb4 _ hp4 hm4 => ⟨_, rfl, ?_⟩)
    obtain rfl : q = 0 := by omega
    rw [st0] at hb4
    obtain rfl : bs = bs4 := Option.some.inj (Option.some.inj hb4)
    have m4 := kF hm3 hm4
    refine ⟨fun h => by omega, fun _ => ⟨⟨by omega, by omega⟩, ds, cell m4 3 _ (by decide) rfl, fun h => by unfold putN at h; omega, fun _ => ⟨⟨by omega, by omega⟩, ds, cell m4 3 _ (by decide) rfl, ?_⟩⟩⟩
    have hpn : putN bs ds ≤ ds.size ∧ bs.length + putN bs ds ≤ 8 := by unfold putN; omega
    refine ⟨?_, trivial, ?_⟩
    · simp only [sOK]; omega
    · simp only [sM, Int.toNat_natCast]
      have e : (ds.extract 0 (putN bs ds)).data.toList = ds.data.toList.take (putN bs ds) := by rw [ext_tl, List.drop_zero]
      have e2 : (ds.extract 0 (putN bs ds)).size = putN bs ds := by rw [← size_tl, e, List.length_take, size_tl]; omega
      refine ⟨?_, bs ++ ds.data.toList.take (putN bs ds), ?_, ?_, ?_, ?_, m4⟩
      · rw [e2]; simp [IntKind.max, IntKind.bits, IntKind.signed]; omega
      · have := hp4
        simp only [st, List.set_set] at this ⊢
        exact this
      · rw [List.length_append, List.length_take, size_tl]; omega
      · simp [hio]
      · rw [ByteArray.size_append, e2]; omega
  · refine ⟨⟨by omega, by omega⟩, dn, cell hm3 2 _ (by decide) rfl, ?_⟩
    refine pipes_take hp3 _ dn (fun h => (no0 h).elim) (fun q bs4 w4 hq hb4 _ hp4 hm4 => ⟨_, rfl, ?_⟩)
    obtain rfl : q = 0 := by omega
    rw [st0] at hb4
    obtain rfl : bs = bs4 := Option.some.inj (Option.some.inj hb4)
    have m4 := kF hm3 hm4
    have e2 : (bytesOf (bs.take (takeN bs dn))).size ≤ 8 := by rw [← size_tl]; simp [bytesOf]; omega
    refine ⟨?_, bs.drop (takeN bs dn), ?_, ?_, ?_, by omega, m4⟩
    · simp [IntKind.max, IntKind.bits, IntKind.signed]; omega
    · have := hp4
      simp only [st, List.set_set] at this ⊢
      exact this
    · rw [List.length_drop]; omega
    · simp [hio, bytesOf]

end Go.Proofs
