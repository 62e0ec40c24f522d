/-
  Layer 19: 'awake' answers true; the walk of 'PipesNone'.
-/
import Derived.Test.YtjlgbofgmjplaaaC19e
import Derived.Test.YtjlgbofgmjplaaaDen9
set_option linter.unusedSimpArgs false
namespace Go.Proofs
open Go Go.Den

theorem tl_eq {a b : ByteArray} (h : a = b) : (a.toList == b.toList) = true := by rw [h]; exact beq_self_eq_true _

theorem awake_run (w : World) {K : Value → World → Prop} (h : ∀ w', Mod [] w w' → K (.bool true) w') : CallsR Try.prog F_januslaw19_awake #[] w K := by
  apply R_januslaw19_awake_ok
  simp only [R_januslaw19_awake]
  refine pipes_new w fun p F w1 hp1 hm1 hF => ⟨_, rfl, ?_⟩
  simp only [Option.isNone_some, spl_false]
  refine pipes_make hp1 (fun h => absurd rfl (h 0 (by decide))) (fun k w2 F2 hk hkn hbef hp2 hm2 ho2 => ⟨_, _, rfl, ?_⟩)
  have hk0 : k = 0 := by
    rcases Nat.eq_zero_or_pos k with h | h
    · exact h
    · exact absurd rfl (hbef 0 h)
  subst hk0
  have m2 : Mod [] w w2 := hm1.trans hm2 fun b hb hlt => absurd (hF b hb) (by omega)
  have hF2 : ∀ b ∈ F2, w.heap.size ≤ b := fun b hb => by
    rcases ho2 b hb with h | h
    · exact hF b h
    · have := hm1.size; omega
  have kF : ∀ {u u' : World}, Mod [] w u → Mod F2 u u' → Mod [] w u' := fun h h' => h.trans h' fun b hb hlt => absurd (hF2 b hb) (by omega)
  have no0 : ∀ {l : List (Option (List UInt8))} {bs : List UInt8}, l[0]? = some (some bs) → ((0 : Int) < 0 ∨ (16 : Int) ≤ 0 ∨ ∃ k : Nat, (0 : Int) = k ∧ l[k]? = some none) → False := fun hl h => by
    rcases h with h | h | ⟨k, hk, hk'⟩
    · omega
    · omega
    · obtain rfl : k = 0 := by omega
      rw [hl] at hk'
      cases hk'
  refine pipes_put hp2 0 _ (fun h => (no0 (bs := []) rfl h).elim) (fun k bs w3 hk hb _ hp3 hm3 => ⟨_, rfl, ?_⟩)
  obtain rfl : k = 0 := by omega
  obtain rfl : bs = [] := by simpa using hb.symm
  have m3 := kF m2 hm3
  refine pipes_take hp3 0 3 (fun h => (no0 rfl h).elim) (fun k bs w4 hk hb _ hp4 hm4 => ⟨_, rfl, ?_⟩)
  obtain rfl : k = 0 := by omega
  obtain rfl : [97, 98, 99, 100, 101, 102, 103, 104] = bs := by have h := Option.some.inj (Option.some.inj hb); rw [← h]; decide
  have m4 := kF m3 hm4
  refine pipes_put hp4 0 _ (fun h => (no0 rfl h).elim) (fun k bs w5 hk hb _ hp5 hm5 => ⟨_, rfl, ?_⟩)
  obtain rfl : k = 0 := by omega
  obtain rfl : [100, 101, 102, 103, 104] = bs := by simpa [takeN] using hb
  have m5 := kF m4 hm5
  refine pipes_take hp5 0 9 (fun h => (no0 rfl h).elim) (fun k bs w6 hk hb _ hp6 hm6 => ⟨_, rfl, ?_⟩)
  obtain rfl : k = 0 := by omega
  obtain rfl : [100, 101, 102, 103, 104, 120, 121] = bs := by have h := Option.some.inj (Option.some.inj hb); rw [← h]; decide
  have m6 := kF m5 hm6
  refine pipes_drop hp6 0 (fun h => (no0 rfl h).elim) (fun k bs w7 F7 hk hb hp7 hF7 hm7 => ⟨_, rfl, ?_⟩)
  obtain rfl : k = 0 := by omega
  have m7 := kF m6 hm7
  refine spl_t rfl (spl_t rfl (spl_t (by decide) (spl_t (tl_eq (by decide)) (spl_t (by decide) (spl_t (tl_eq (by decide)) (spl_t rfl ?_))))))
  refine pipes_drop hp7 0 (fun _ => ⟨_, rfl, spl_t rfl ?_⟩) (fun k bs w8 F8 hk hb hp8 hF8 hm8 => ?_)
  · refine pipes_put hp7 0 _ (fun _ => ⟨_, rfl, h _ m7⟩) (fun k bs w8 hk hb => ?_)
    obtain rfl : k = 0 := by omega
    simp at hb
  · obtain rfl : k = 0 := by omega
    simp at hb

theorem none_run (w : World) (k id n : Int) (s : ByteArray) (_ : (Lit.int .i64 k).wf = true) (_ : (Lit.int .i64 id).wf = true) (_ : (Lit.int .i64 n).wf = true) (_ : s.size ≤ maxLen) :
    CallsR Try.prog F_januslaw19_PipesNone #[.agg #[.int .i64 k, .int .i64 id, .int .i64 n, .string s]] w fun r w' => r = .bool true ∧ Mod [] w w' := by
  apply R_januslaw19_PipesNone_ok
  simp only [R_januslaw19_PipesNone, newK_eq]
  have hb := alloc_new w (.cells #[.int .i64 k, .int .i64 id, .int .i64 n, .string s] 29)
  have e1 : (w.alloc (.cells #[.int .i64 k, .int .i64 id, .int .i64 n, .string s] 29)).cell? ⟨w.heap.size, 1, none⟩ = some (.int .i64 id) := by rw [cell_get hb]; rfl
  have e2 : (w.alloc (.cells #[.int .i64 k, .int .i64 id, .int .i64 n, .string s] 29)).cell? ⟨w.heap.size, 2, none⟩ = some (.int .i64 n) := by rw [cell_get hb]; rfl
  have e3 : (w.alloc (.cells #[.int .i64 k, .int .i64 id, .int .i64 n, .string s] 29)).cell? ⟨w.heap.size, 3, none⟩ = some (.string s) := by rw [cell_get hb]; rfl
  refine nmake ⟨_, _, rfl, spl_t rfl ⟨id, e1, s, e3, nput id s ⟨_, rfl, spl_t rfl ⟨id, e1, n, e2, ntake id n ⟨_, rfl, spl_t (tl_eq rfl) ⟨id, e1, nlen id ⟨_, rfl, spl_t rfl ⟨id, e1, ndrop id ⟨_, rfl, spl_t rfl (nenc ⟨_, _, _, rfl, spl_t rfl ?_⟩)⟩⟩⟩⟩⟩⟩⟩⟩⟩
  exact awake_run _ fun w' hm => ⟨_, rfl, rfl, ((Mod.refl [] w).alloc _).trans' hm⟩

end Go.Proofs
