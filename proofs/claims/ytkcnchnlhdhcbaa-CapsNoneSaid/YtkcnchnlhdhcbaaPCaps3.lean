/-
  caps: contracts of the program's capabilities: a slot.
-/
import Derived.Test.YtkcnchnlhdhcbaaPCaps2
set_option linter.unusedSimpArgs false
namespace Go.Proofs
open Go Go.Den

theorem pat_run {w : World} {p : Nat} {s : S8} {ps : List (Option Nat)} {F : List Nat} (h : PT w p ps (ob8 s.L ps) [] F) (hl : ps.length = 780) (hw : W8 s) (e sl : Int) {K : Value → World → Prop} (h0 : look8 s.L e sl = none → K (.pointer none) w)
    (h1 : ∀ c q, look8 s.L e sl = some c → ps[ckp c]? = some (some q) → K (.pointer (some ⟨q, 0, none⟩)) w) : CallsR Try.prog F_caps_Caps_at #[.pointer (some ⟨p, 0, none⟩), .int .i64 e, .int .i64 sl] w K := by
  apply R_caps_Caps_at_ok
  simp only [R_caps_Caps_at, Option.isNone_some, spl_false, spl_decide, nilK_some, addr_add, Nat.zero_add]
  have out : (¬ env12 e ∨ sl < 1 ∨ 64 < sl) → look8 s.L e sl = none := fun hh => by
    cases hlk : look8 s.L e sl with
    | none => rfl
    | some c =>
      obtain ⟨hm, rfl, rfl⟩ := look8_some hlk
      obtain ⟨a1, a2, a3, -⟩ := hw.in_ c hm
      rcases hh with z | z | z
      · exact absurd a1 z
      · omega
      · omega
  refine pis_run e ⟨_, rfl, ?_⟩
  rw [spl_decide]
  refine ⟨fun he => ⟨fun hs => h0 (out (.inr (.inl hs))), fun hs => ⟨fun hs2 => h0 (out (.inr (.inr (by omega)))), fun hs2 => ⟨⟨he.1, he.2⟩, ⟨by omega, by omega⟩, ?_⟩⟩⟩, fun he => h0 (out (.inl he))⟩
  have hk := find_kp hw he (show 1 ≤ sl ∧ sl ≤ 64 by omega)
  have hlt : kp e sl < ps.length := by unfold kp; unfold env12 at he; omega
  obtain ⟨o, ho, hc⟩ := h.cell hlt
  rw [ptrTo_eq] at hc
  refine ⟨_, hc, ?_⟩
  cases o with
  | none =>
    refine h0 ?_
    have := h.no _ ho
    rw [ob8, hk] at this
    simpa using this
  | some q =>
    obtain ⟨arr, T, ha, hb⟩ := h.at_ _ q ho
    rw [ob8, hk] at ha
    cases hlk : look8 s.L e sl with
    | none => rw [hlk] at ha; cases ha
    | some c =>
      obtain ⟨hm, rfl, rfl⟩ := look8_some hlk
      exact h1 c q hlk ho

/-- What a slot's block holds. -/
theorem node_at {w : World} {p : Nat} {s : S8} {ps : List (Option Nat)} {F : List Nat} (h : PT w p ps (ob8 s.L ps) [] F) (hw : W8 s) {e sl : Int} {c : CE} {q : Nat} (hlk : look8 s.L e sl = some c) (hq : ps[ckp c]? = some (some q)) : ∃ T, w.heap[q]? = some (.cells (nodeC c (parV s.L ps c)) T (0, 0)) := by
  obtain ⟨hm, rfl, rfl⟩ := look8_some hlk
  obtain ⟨a1, a2, a3, -⟩ := hw.in_ c hm
  obtain ⟨arr, T, ha, hb⟩ := h.at_ _ q hq
  rw [ob8, show ckp c = kp c.env c.slot from rfl, find_kp hw a1 ⟨a2, a3⟩, hlk] at ha
  obtain rfl := Option.some.inj ha
  exact ⟨T, hb⟩

theorem pget_run {w : World} {p : Nat} {s : S8} {F : List Nat} (h : CP w p s F) (e sl : Int) {K : Value → World → Prop} (hK : ∀ w', Mod [] w w' → K (.tuple #[.agg #[.int .i64 (getV8 s.L e sl).1.k, .int .i64 (getV8 s.L e sl).1.i, .int .i64 (getV8 s.L e sl).1.n, .int .i64 (getV8 s.L e sl).1.r], .bool (getV8 s.L e sl).2]) w') :
    CallsR Try.prog F_caps_Caps_Get #[.pointer (some ⟨p, 0, none⟩), .int .i64 e, .int .i64 sl] w K := by
  apply R_caps_Caps_Get_ok
  simp only [R_caps_Caps_Get]
  refine (Sep.nil (Mod.refl [] w)).new fun b w1 s1 m1 hb => ?_
  obtain ⟨hw, ps, h1, hl⟩ := h.keep (m1.at0 h.lt)
  refine pat_run h1 hl hw e sl (fun hn => ⟨_, rfl, spl_t rfl ?_⟩) (fun c q hlk hq => ⟨_, rfl, spl_f rfl ?_⟩)
  · refine s1.st 0 rfl (by simp) fun w2 s2 m2 => ⟨_, _, _, _, ⟨s2.cell 0 rfl rfl, s2.cell 0 rfl rfl, s2.cell 0 rfl rfl, s2.cell 0 rfl rfl⟩, ?_⟩
    have := hK w2 s2.mod
    rwa [getV8, hn] at this
  · obtain ⟨T, hn⟩ := node_at h1 hw hlk hq
    simp only [nilK_some, addr_add, Nat.zero_add]
    refine ⟨c.x.k, c.x.i, c.x.n, c.x.r, ⟨by rw [cell_get hn]; rfl, by rw [cell_get hn]; rfl, by rw [cell_get hn]; rfl, by rw [cell_get hn]; rfl⟩, ?_⟩
    refine s1.st 0 rfl (by simp) fun w2 s2 m2 => ⟨_, _, _, _, ⟨s2.cell 0 rfl rfl, s2.cell 0 rfl rfl, s2.cell 0 rfl rfl, s2.cell 0 rfl rfl⟩, ?_⟩
    have := hK w2 s2.mod
    rwa [getV8, hlk] at this

end Go.Proofs
