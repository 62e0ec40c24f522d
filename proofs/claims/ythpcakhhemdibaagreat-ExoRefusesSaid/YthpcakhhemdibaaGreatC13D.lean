/-
  exo: a call that answers an error changes nothing that anybody sees.
-/
import Derived.Test.YthpcakhhemdibaaGreatC13S
set_option linter.unusedVariables false
set_option linter.unusedSimpArgs false
namespace Go.Proofs
open Go Go.Den

theorem app_get (l t : List Part) (i : Nat) : (l ++ t)[l.length + i]? = t[i]? := by
  rw [List.getElem?_append_right (by omega)]
  congr 1
  omega
theorem app_set (l t : List Part) (i : Nat) (x : Part) : (l ++ t).set (l.length + i) x = l ++ t.set i x := by
  rw [List.set_append_right _ _ (by omega)]
  congr 2
  omega

abbrev RowF := Nat → Option Addr × Nat × List Nat
def rowS (s : S13) (f : RowF) (j : Nat) : Part := sl (f j).1 (sees13 s j).length (f j).2.1 1 (u64s (sees13 s j)) (f j).2.2
def rowsL (s : S13) (f : RowF) : Nat → List Part
  | 0 => []
  | j + 1 => rowS s f j :: rowsL s f j
theorem rowsL_len (s : S13) (f : RowF) : ∀ j, (rowsL s f j).length = j
  | 0 => rfl
  | j + 1 => by rw [rowsL, List.length_cons, rowsL_len s f j]
theorem rowsL_congr {s : S13} {f f' : RowF} : ∀ {j}, (∀ i, i < j → f' i = f i) → rowsL s f' j = rowsL s f j
  | 0, _ => rfl
  | j + 1, h => by
    rw [rowsL, rowsL, rowsL_congr fun i hi => h i (by omega)]
    unfold rowS
    rw [h j (by omega)]
theorem rowsL_get (s : S13) (f : RowF) : ∀ {j e : Nat}, e < j → (rowsL s f j)[j - 1 - e]? = some (rowS s f e)
  | 0, _, h => by omega
  | j + 1, e, h => by
    rw [rowsL]
    by_cases he : e = j
    · subst he
      rw [show e + 1 - 1 - e = 0 by omega]
      rfl
    · rw [show j + 1 - 1 - e = (j - 1 - e) + 1 by omega, List.getElem?_cons_succ]
      exact rowsL_get s f (by omega)
def wasC (s : S13) (f : RowF) (j i : Nat) : Value := if i < j then .slice (f i).1 (sees13 s i).length (f i).2.1 else .slice none 0 0
def wasO (s : S13) (f : RowF) (j : Nat) : Obj := .cells #[wasC s f j 0, wasC s f j 1, wasC s f j 2, wasC s f j 3] 39 (0, 0)

/-- One row more of what was. -/
theorem was_step {w0 w : World} {s : S13} {f : RowF} {j b k : Nat} {F : List Nat} {PR PB : Part} (hj : j < 4) (h : Den.Sep w0 w (rowsL s f j ++ [blk b (wasO s f j), PR, kxPart k s F, PB])) {K : World → Prop} (hK : ∀ w' f' F', Den.Sep w0 w' (rowsL s f' (j + 1) ++ [blk b (wasO s f' (j + 1)), PR, kxPart k s F', PB]) → K w') :
    CallsR Tryz.prog F_exo_Kernel_Sees #[.pointer (some ⟨k, 0, none⟩), .int .i64 (j : Int)] w fun v w2 => ∃ rA26 : Option Addr, ∃ rL27 : Nat, ∃ rC28 : Nat, v = .slice rA26 rL27 rC28 ∧ stK ⟨b, j, none⟩ [.slice rA26 rL27 rC28] w2 K := by
  have hkx : (rowsL s f j ++ [blk b (wasO s f j), PR, kxPart k s F, PB])[(rowsL s f j).length + 2]? = some (kxPart k s F) := by rw [app_get]; rfl
  refine x_sees (h.nth _ hkx) _ fun w7 F7 a7 c7 G7 z1 z2 z3 hs7 hG7 hD7 => ⟨_, _, _, rfl, ?_⟩
  have s7 := sep_row h _ hkx (kxPart k s F7) z1 z2 z3 (sl a7 (sees13 s j).length c7 1 (u64s (sees13 s j)) G7) hs7 hG7 hD7
  rw [app_set] at s7
  obtain ⟨f', hf'⟩ : ∃ f' : RowF, ∀ i, f' i = if i = j then (a7, c7, G7) else f i := ⟨_, fun _ => rfl⟩
  have hfj : f' j = (a7, c7, G7) := by rw [hf', if_pos rfl]
  have hfn : ∀ i, i < j → f' i = f i := fun i hi => by rw [hf', if_neg (by omega)]
  have e1 : rowsL s f' (j + 1) = sl a7 (sees13 s j).length c7 1 (u64s (sees13 s j)) G7 :: rowsL s f j := by
    rw [rowsL, rowsL_congr hfn]
    unfold rowS
    rw [hfj]
  have s7 : Den.Sep w0 w7 (rowsL s f' (j + 1) ++ [blk b (wasO s f j), PR, kxPart k s F7, PB]) := by rw [e1]; exact s7
  have hb : (rowsL s f' (j + 1) ++ [blk b (wasO s f j), PR, kxPart k s F7, PB])[(rowsL s f' (j + 1)).length + 0]? = some (blk b (wasO s f j)) := by rw [app_get]; rfl
  refine s7.st _ hb (by simp; omega) fun w8 s8 m8 => hK w8 f' F7 ?_
  rw [app_set] at s8
  have e2 : (Obj.cells (splice #[wasC s f j 0, wasC s f j 1, wasC s f j 2, wasC s f j 3] j [.slice a7 (sees13 s j).length c7]) 39 (0, 0)) = wasO s f' (j + 1) := by
    simp only [splice_cons, splice_nil]
    unfold wasO
    have hc : ∀ i, i ≠ j → wasC s f' (j + 1) i = wasC s f j i := fun i hi => by
      unfold wasC
      by_cases h1 : i < j
      · rw [if_pos h1, if_pos (by omega), hfn i h1]
      · rw [if_neg h1, if_neg (by omega)]
    have hcj : wasC s f' (j + 1) j = .slice a7 (sees13 s j).length c7 := by
      unfold wasC
      rw [if_pos (by omega), hfj]
    rcases j with _ | _ | _ | _ | j
    · rw [hcj, hc 1 (by decide), hc 2 (by decide), hc 3 (by decide)]; rfl
    · rw [hcj, hc 0 (by decide), hc 2 (by decide), hc 3 (by decide)]; rfl
    · rw [hcj, hc 0 (by decide), hc 1 (by decide), hc 3 (by decide)]; rfl
    · rw [hcj, hc 0 (by decide), hc 1 (by decide), hc 2 (by decide)]; rfl
    · omega
  rw [← e2]
  exact s8

end Go.Proofs
