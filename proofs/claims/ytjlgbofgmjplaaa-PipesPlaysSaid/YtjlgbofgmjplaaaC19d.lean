/-
  Layer 19: contracts of 'Drop' and 'Make'.
-/
import Derived.Test.YtjlgbofgmjplaaaC19c
set_option linter.unusedSimpArgs false
namespace Go.Proofs
open Go Go.Den

theorem cells61 : Try.prog.cellsOf 61 ≠ 0 := by
  have : Try.prog.cellsOf 61 = 10 := by kernel_rfl
  omega

theorem clear8 {w : World} {r : Nat} {arr : Array Value} {T : TypeId} (hr : w.heap[r]? = some (.cells arr T (0, 0))) (hsz : 8 ≤ arr.size) :
    ∃ us : List Value, (Builtin.clear_ #[64] 0 #[.slice (some ⟨r, 0, none⟩) 8 8]).run Try.prog w = .ok (.tuple #[]) (w.upd r (.cells (splice arr 0 us) T (0, 0))) := by
  obtain ⟨hu, i, hi, hz, -⟩ := slT_u8
  obtain ⟨us, hus⟩ : ∃ us, us = (Builtin.zeroCells (Value.int .u8 0).cells 8).toList := ⟨_, rfl⟩
  have e : us = List.replicate 8 (.int .u8 0) := by rw [hus]; first | kernel_rfl | (simp [Builtin.zeroCells, Value.cells, List.replicate]; done) | decide
  have hst := run_storeCells_upd (P := Try.prog) (b := r) (off := 0) (T := T) (fr := (0, 0)) us 0 arr w hr (by rw [e]; simp; omega) (.inl (Nat.zero_le _)) (by intro u hu; rw [e] at hu; rw [List.eq_of_mem_replicate hu]; rfl)
  refine ⟨us, ?_⟩
  simp only [Nat.add_zero] at hst
  simp [Builtin.clear_, run_underlying hu, zeroValue, typeInfo, hi, hz, ← hus, hst]

/-- A pipe that is there: its ring's place in the pipes' block; what a drop leaves. -/
theorem pipes_at_drop {w : World} {p : Nat} {l : List (Option (List UInt8))} {F : List Nat} (h : PipesP w p l F) (id : Int) {K : Value → World → Prop} (h0 : (id < 0 ∨ 16 ≤ id ∨ ∃ k : Nat, id = k ∧ l[k]? = some none) → K (.pointer none) w)
    (h1 : ∀ (k r : Nat) (bs : List UInt8) (arr : Array Value) (T : TypeId), id = k → k < 16 → l[k]? = some (some bs) → RingP w r bs → r ∈ F → r ≠ p → p ∈ F → w.heap[p]? = some (.cells arr T (0, 0)) → arr.size = 16 →
      (∀ w' : World, w'.heap[p]? = some (.cells (arr.setIfInBounds k (.pointer none)) T (0, 0)) → (∀ b ∈ F, b ≠ p → b ≠ r → w'.heap[b]? = w.heap[b]?) → ∃ F', PipesP w' p (l.set k none) F' ∧ ∀ b ∈ F', b ∈ F) → K (.pointer (some ⟨r, 0, none⟩)) w) :
    CallsR Try.prog F_pipes_Pipes_at #[.pointer (some ⟨p, 0, none⟩), .int .i64 id] w K := by
  apply R_pipes_Pipes_at_ok
  obtain ⟨ps, T, hp, hl, hll, hr, hn, hd, hpp, rfl⟩ := h
  simp only [R_pipes_Pipes_at, Option.isNone_some, spl_false, spl_decide, nilK_some, addr_add, cell_get hp]
  refine ⟨fun h => h0 (.inl h), fun hge => ⟨fun h => h0 (.inr (.inl h)), fun hlt => ⟨⟨by omega, by omega⟩, ?_⟩⟩⟩
  obtain ⟨k, rfl⟩ := nat_of (by omega : 0 ≤ id)
  have hk : k < ps.length := by omega
  have hget : ps[k]? = some ps[k] := List.getElem?_eq_getElem hk
  cases hc : ps[k] with
  | none =>
    rw [hc] at hget
    exact ⟨none, by simp [hget, ptrOf], h0 (.inr (.inr ⟨k, rfl, hn k hget⟩))⟩
  | some r =>
    rw [hc] at hget
    obtain ⟨bs, hb, hring⟩ := hr k r hget
    have hrp : r ≠ p := fun h => hpp k (h ▸ hget)
    refine ⟨some ⟨r, 0, none⟩, by simp [hget, ptrOf], h1 k r bs _ T rfl (by omega) hb hring (by simp only [List.mem_cons]; exact .inr (mem_rings.2 ⟨k, hget⟩)) hrp (by simp) hp (by simpa using hl) fun w' hp' hk' => ⟨p :: (ps.set k none).filterMap _root_.id, ⟨ps.set k none, T, ?_, by simpa using hl, by simpa using hll, fun i q hi => ?_, fun i hi => ?_, fun i j q hi hj => ?_, fun i hi => ?_, rfl⟩, fun b hb => ?_⟩⟩
    · rw [hp', List.map_set]
      simp [ptrOf]
    · rw [List.getElem?_set] at hi ⊢
      by_cases hik : k = i
      · rw [if_pos hik] at hi; split at hi <;> cases hi
      · rw [if_neg hik] at hi ⊢
        obtain ⟨bq, hbq, hrq⟩ := hr i q hi
        exact ⟨bq, hbq, hrq.keep (hk' q (by simp only [List.mem_cons]; exact .inr (mem_rings.2 ⟨i, hi⟩)) (fun h => hpp i (h ▸ hi)) (by rintro rfl; exact hik (hd k i q hget hi)))⟩
    · rw [List.getElem?_set] at hi ⊢
      by_cases hik : k = i
      · rw [if_pos hik, if_pos (by omega)]
      · rw [if_neg hik] at hi ⊢
        exact hn i hi
    · rw [List.getElem?_set] at hi hj
      by_cases hik : k = i
      · rw [if_pos hik] at hi; split at hi <;> cases hi
      · by_cases hjk : k = j
        · rw [if_pos hjk] at hj; split at hj <;> cases hj
        · rw [if_neg hik] at hi; rw [if_neg hjk] at hj
          exact hd i j q hi hj
    · rw [List.getElem?_set] at hi
      by_cases hik : k = i
      · rw [if_pos hik] at hi; split at hi <;> cases hi
      · rw [if_neg hik] at hi
        exact hpp i hi
    · simp only [List.mem_cons] at hb ⊢
      rcases hb with rfl | hb
      · exact .inl rfl
      · obtain ⟨i, hi⟩ := mem_rings.1 hb
        rw [List.getElem?_set] at hi
        by_cases hik : k = i
        · rw [if_pos hik] at hi; split at hi <;> cases hi
        · rw [if_neg hik] at hi
          exact .inr (mem_rings.2 ⟨i, hi⟩)

theorem pipes_drop {w : World} {p : Nat} {l : List (Option (List UInt8))} {F : List Nat} (h : PipesP w p l F) (id : Int) {K : Value → World → Prop} (h0 : (id < 0 ∨ 16 ≤ id ∨ ∃ k : Nat, id = k ∧ l[k]? = some none) → K (.int .i64 106) w)
    (h1 : ∀ (k : Nat) (bs : List UInt8) (w' : World) (F' : List Nat), id = k → l[k]? = some (some bs) → PipesP w' p (l.set k none) F' → (∀ b ∈ F', b ∈ F) → Mod F w w' → K (.int .i64 0) w') :
    CallsR Try.prog F_pipes_Pipes_Drop #[.pointer (some ⟨p, 0, none⟩), .int .i64 id] w K := by
  apply R_pipes_Pipes_Drop_ok
  refine pipes_at_drop h id (fun hb => ⟨_, rfl, by simpa using h0 hb⟩) (fun k r bs parr pT hk hk16 hb hring hrF hrp hpF hp hps hset => ⟨_, rfl, ?_⟩)
  subst hk
  obtain ⟨arr, T, f, hr, hsz, -⟩ := hring
  simp only [Option.isNone_some, spl_false, nilK_some, slK, slA, sOK, sM]
  refine ⟨trivial, fun _ => rfl, trivial, trivial, ?_⟩
  simp only [show ¬ ((8 : Nat) = 0) by decide, if_false, Option.map_some, addr_add, Nat.zero_mul, Nat.add_zero, Nat.sub_zero]
  obtain ⟨us, hrun⟩ := clear8 hr (by omega)
  refine ⟨_, _, hrun, rfl, ⟨by omega, by omega⟩, ?_⟩
  have hp1 : (w.upd r (.cells (splice arr 0 us) T (0, 0))).heap[p]? = some (.cells parr pT (0, 0)) := by rw [upd_ne _ hrp]; exact hp
  rw [Int.toNat_natCast, Nat.zero_add]
  refine stK_of hp1 (by simp; omega) ?_
  simp only [splice_cons, splice_nil]
  obtain ⟨F', hP, hF'⟩ := hset _ (upd_same hp1) (fun b _ hbp hbr => by rw [upd_ne _ (Ne.symm hbp), upd_ne _ (Ne.symm hbr)])
  exact h1 k bs _ F' rfl hb hP hF' (((Mod.refl _ _).upd (.inl hrF) _).upd (.inl hpF) _)

end Go.Proofs
