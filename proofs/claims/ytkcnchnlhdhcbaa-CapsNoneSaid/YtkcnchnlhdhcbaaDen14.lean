/-
  'clear' of a row; 'slices.Clone'.
-/
import Derived.Test.YtkcnchnlhdhcbaaDen13
import Derived.Test.YtkcnchnlhdhcbaaDen12
set_option linter.unusedSimpArgs false
namespace Go.Den
open Go

theorem zrow_cells {z : Value} (n : Nat) : (Builtin.zeroCells z.cells n).toList = zrow z (n * z.cells.size) := by
  simp only [Builtin.zeroCells, Array.toList_map, Array.toList_range, zrow]
  apply List.map_congr_left
  intro i _
  simp [Array.getElem!_eq_getD]

theorem zrow_isCell {z : Value} (hz : ∀ c ∈ z.cells.toList, isCell c = true) (hd : 0 < z.cells.toList.length) (n : Nat) : ∀ u ∈ zrow z n, isCell u = true := by
  intro u hu
  simp only [zrow, List.mem_map] at hu
  obtain ⟨i, _, rfl⟩ := hu
  have hlt : i % z.cells.toList.length < z.cells.toList.length := Nat.mod_lt _ hd
  rw [List.getD_eq_getElem?_getD, List.getElem?_eq_getElem hlt]
  exact hz _ (List.getElem_mem _)

/-- **clear** of a row, the world written out. -/
theorem clear_at {P : Program} {t e sz bys : Nat} {z : Value} (hT : SlT P t e sz bys z) (hzc : ∀ c ∈ z.cells.toList, isCell c = true) (hsz : 0 < sz) {w : World} {b o : Nat} {arr : Array Value} {T : TypeId} (hbk : w.heap[b]? = some (.cells arr T (0, 0))) {l c : Nat} (hcap : o + l * sz ≤ arr.size) (ty : TypeId) :
    (Builtin.clear_ #[t] ty #[.slice (some ⟨b, o, none⟩) l c]).run P w = .ok (.tuple #[]) (w.upd b (.cells (splice arr o (zrow z (l * sz))) T (0, 0))) := by
  obtain ⟨hu, i, hi, hz, hsi, hby, hzs⟩ := hT
  have hzl : z.cells.toList.length = sz := by simpa using hzs
  cases l with
  | zero =>
    rw [Nat.zero_mul]
    have : zrow z 0 = [] := by simp [zrow]
    rw [this, splice_nil, upd_id hbk]
    simp [Builtin.clear_, run_underlying hu]
  | succ l =>
    have hst := run_storeCells_upd (P := P) (b := b) (off := o) (T := T) (fr := (0, 0)) (zrow z ((l + 1) * sz)) 0 arr w hbk (by simp [zrow]; omega) (.inl (Nat.zero_le _)) (zrow_isCell hzc (by omega) _)
    simp only [Nat.add_zero] at hst
    have e := zrow_cells (z := z) (l + 1)
    rw [hzs] at e
    simp [Builtin.clear_, run_underlying hu, zeroValue, typeInfo, hi, hz, e, hst]

/-- What 'slices.Clone' is, of a row that is only read: a row of one's own. -/
theorem clone_body {P : Program} {t e sz bys : Nat} {z : Value} (hT : SlT P t e sz bys z) (hsz : 0 < sz) {w : World} {a : Option Addr} {l c : Nat} {vs : List Value} {F : List Nat} (hs : Rd w a l sz vs F) (hc : ∀ u ∈ vs, isCell u = true) (hb : l * bys ≤ 140737488355328) (hb2 : l ≤ 4611686018427387904) {T ty : TypeId} {K : Value → World → Prop}
    (h : ∀ A C w' G, SlB w' A l C sz vs G → Beyond w.heap.size G → Mod [] w w' → K (.slice A l C) w') (h0 : a = none → l = 0 → K (.slice none 0 0) w) :
    spl a.isNone (K (.slice none 0 0) w) (newK w (.cells #[] T) fun b4 w5 => runK ((Builtin.append_ #[t, t] ty #[.slice (some ⟨b4, 0, none⟩) 0 0, .slice a l c]).run P w5) fun v6 w7 => ∃ xA8 : Option Addr, ∃ xL9 : Nat, ∃ xC10 : Nat, v6 = .slice xA8 xL9 xC10 ∧ (K (.slice xA8 xL9 xC10) w7)) := by
  cases a with
  | none =>
    refine spl_t rfl (h0 rfl ?_)
    rcases Nat.eq_zero_or_pos l with h | h
    · exact h
    · obtain ⟨ad, ha, _⟩ := hs.at h; cases ha
  | some ad =>
    refine spl_f rfl ?_
    rw [newK_eq]
    have hm : Mod [] w (w.alloc (.cells #[] T)) := (Mod.refl _ _).alloc _
    have hn : SlB (w.alloc (.cells #[] T)) (some ⟨w.heap.size, 0, none⟩) 0 0 sz [] [w.heap.size] := SlB.new w [] T (l := 0) (sz := sz) (by simp)
    refine push_rd_K (w0 := w) hT hsz hn (by intro x hx; simp only [List.mem_singleton] at hx; omega) hm (hs.mod0 hm) hc (by rw [Nat.zero_add]; exact hb) (by omega) fun A' C' w' G' hs' hG' hm' _ _ => ⟨_, _, _, rfl, ?_⟩
    rw [Nat.zero_add] at hs' ⊢
    rw [List.nil_append] at hs'
    exact h A' C' w' G' hs' hG' hm'

/-- 'clear(s[i:])'. -/
theorem clear_tail {P : Program} {t e sz bys : Nat} {z : Value} (hT : SlT P t e sz bys z) (hzc : ∀ c ∈ z.cells.toList, isCell c = true) (hsz : 0 < sz) {w : World} {a : Option Addr} {l c : Nat} {vs : List Value} {F : List Nat} (hs : SlB w a l c sz vs F) {i : Nat} (hi : i ≤ l) {ty : TypeId} {K : Value → World → Prop}
    (hK : ∀ w' us, SlB w' a l c sz (vs.take (i * sz) ++ us) F → Mod F w w' → K (.tuple #[]) w') :
    slK a l c sz (some (i : Int)) none none fun A L C => runK ((Builtin.clear_ #[t] ty #[.slice A L C]).run P w) K := by
  have hlen := hs.length
  have hle := hs.le
  have zero : ∀ {A : Option Addr} {C : Nat}, l - i = 0 → runK ((Builtin.clear_ #[t] ty #[.slice A (l - i) C]).run P w) K := fun {A C} h0 => by
    refine ⟨.tuple #[], w, ?_, hK w [] ?_ (Mod.refl _ _)⟩
    · obtain ⟨hu, _⟩ := hT
      rw [h0]
      cases A <;> simp [Builtin.clear_, run_underlying hu]
    · have : vs.take (i * sz) = vs := List.take_of_length_le (by rw [hlen, show i = l by omega]; exact Nat.le_refl _)
      rw [this, List.append_nil]
      exact hs
  refine ⟨trivial, fun _ => rfl, trivial, by simp [sOK, sM]; omega, ?_⟩
  simp only [sM, Int.toNat_natCast, Nat.sub_zero]
  rcases Nat.eq_zero_or_pos (l - i) with h0 | h0
  · exact zero h0
  · rcases hs with ⟨rfl, rfl, rfl, rfl, rfl⟩ | ⟨b, o, arr, T, rfl, rfl, hbk, hlc, hcap, hlen', hget⟩
    · omega
    · have m1 : l * sz ≤ c * sz := Nat.mul_le_mul_right _ hlc
      have m2 : i * sz ≤ l * sz := Nat.mul_le_mul_right _ hi
      have e : slA (some ⟨b, o, none⟩) c i sz = some ⟨b, o + i * sz, none⟩ := by
        unfold slA; rw [if_neg (by omega)]; simp
      rw [e]
      have m3 : (l - i) * sz = l * sz - i * sz := Nat.sub_mul _ _ _
      refine ⟨_, _, clear_at hT hzc hsz hbk (by omega) ty, ?_⟩
      have hs0 : SlB w (some ⟨b, o, none⟩) l c sz vs [b] := .inr ⟨b, o, arr, T, rfl, rfl, hbk, hlc, hcap, hlen', hget⟩
      have zl : (zrow z ((l - i) * sz)).length = (l - i) * sz := by simp [zrow]
      have := hs0.splice hbk (j := i * sz) (us := zrow z ((l - i) * sz)) (by rw [zl]; omega)
      rw [zl, List.drop_of_length_le (by omega), List.append_nil] at this
      exact hK _ _ this ((Mod.refl _ _).upd (.inl (by simp)) _)

end Go.Den
