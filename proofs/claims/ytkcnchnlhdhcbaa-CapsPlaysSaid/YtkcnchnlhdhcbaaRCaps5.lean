/-
  janusref08: contracts of the reference's capabilities: all of one's go.
-/
import Derived.Test.YtkcnchnlhdhcbaaRCaps4
set_option linter.unusedSimpArgs false
namespace Go.Proofs
open Go Go.Den

theorem dropL_len (s : S8) (e sl : Int) : (dropS8 s e sl).L.length ≤ s.L.length := by
  unfold dropS8
  split
  · exact Nat.le_refl _
  · simp only [List.length_map]
    exact List.length_filter_le _ _
theorem goneL_len (s : S8) (e : Int) : ∀ n, (goneS8 s e n).L.length ≤ s.L.length
  | 0 => Nat.le_refl _
  | n + 1 => Nat.le_trans (dropL_len _ e _) (goneL_len s e n)

theorem gone8_run {w : World} {p : Nat} {s : S8} {F : List Nat} (h : CR w p s F) (hL : s.L.length ≤ 100000) (e : Int) {K : Value → World → Prop} (hK : ∀ w' F', CR w' p (goneS8 s e 64) F' → Mod F w w' → Own w F F' → K (.tuple #[]) w') :
    CallsR Try.prog F_janusref08_Caps_Gone #[.pointer (some ⟨p, 0, none⟩), .int .i64 e] w K := by
  apply R_janusref08_Caps_Gone_ok
  simp only [R_janusref08_Caps_Gone, spl_decide]
  refine ⟨fun n t w' => ∃ (j : Nat) (F' : List Nat), t = ((j + 1 : Nat) : Int) ∧ j ≤ 64 ∧ n = 64 - j ∧ CR w' p (goneS8 s e j) F' ∧ Mod F w w' ∧ Own w F F', ⟨64, 0, F, rfl, by omega, rfl, h, Mod.refl _ _, Own.refl _ _⟩, ?_⟩
  rintro n t - w1 ⟨j, F1, rfl, hj, rfl, h1, m1, o1⟩
  refine ⟨fun hle => ?_, fun hgt => ?_⟩
  · have := goneL_len s e j
    have hsz := m1.size
    refine drop8_run h1 (by omega) e ((j + 1 : Nat) : Int) fun w2 F2 h2 m2 o2 => ⟨_, _, rfl, 64 - (j + 1), by omega, j + 1, F2, by rw [w64 (by omega) (by omega)]; omega, by omega, rfl, h2, m1.trans m2 (fun b hb hlt => (o1 b hb).resolve_right (by omega)), fun b hb => ?_⟩
    rcases o2 b hb with z | z
    · exact o1 b z
    · exact .inr (by omega)
  · have hj64 : j = 64 := by omega
    subst hj64
    exact hK w1 F1 h1 m1 o1

end Go.Proofs
