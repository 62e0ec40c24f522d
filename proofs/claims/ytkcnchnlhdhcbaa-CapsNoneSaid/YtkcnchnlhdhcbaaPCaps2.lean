/-
  caps: the program's capabilities in the heap.
-/
import Derived.Test.YtkcnchnlhdhcbaaPCaps
import Derived.Test.YtkcnchnlhdhcbaaCaps3
import Derived.Test.YtkcnchnlhdhcbaaDen15
set_option linter.unusedSimpArgs false
namespace Go.Den
open Go

/-- A slot's place in the row of pointers. -/
def kp (e s : Int) : Nat := e.toNat * 65 + s.toNat
def ckp (c : CE) : Nat := kp c.env c.slot
/-- Where that lies which one was made of. -/
def parV (L : List CE) (ps : List (Option Nat)) (c : CE) : Value := match parent8 L c with
  | none => .pointer none
  | some d => ptrTo ((ps[ckp d]?).getD none)
def nodeC (c : CE) (up : Value) : Array Value := #[.int .i64 c.x.k, .int .i64 c.x.i, .int .i64 c.x.n, .int .i64 c.x.r, .int .i64 c.env, .int .i64 c.slot, up]
def ob8 (L : List CE) (ps : List (Option Nat)) (i : Nat) : Option (Array Value) := (L.find? fun c => ckp c == i).map fun c => nodeC c (parV L ps c)

theorem kp_inj {e s e' s' : Int} (h : 0 ≤ e) (h' : 0 ≤ e') (hs : 0 ≤ s ∧ s ≤ 64) (hs' : 0 ≤ s' ∧ s' ≤ 64) (hk : kp e s = kp e' s') : e = e' ∧ s = s' := by
  unfold kp at hk
  omega

theorem find_cong {L : List CE} {f g : CE → Bool} (h : ∀ c ∈ L, f c = g c) : L.find? f = L.find? g := by
  induction L with
  | nil => rfl
  | cons a L ih => rw [List.find?_cons, List.find?_cons, h a (by simp), ih fun c hc => h c (by simp [hc])]
theorem find_kp {s : S8} (hw : W8 s) {e sl : Int} (he : env12 e) (hs : 1 ≤ sl ∧ sl ≤ 64) : (s.L.find? fun c => ckp c == kp e sl) = look8 s.L e sl := by
  unfold look8
  refine find_cong fun c hc => ?_
  obtain ⟨h1, h2, h3, -⟩ := hw.in_ c hc
  unfold env12 at he h1
  rw [Bool.eq_iff_iff, isAt_iff, beq_iff_eq]
  constructor
  · intro hk; exact kp_inj (by omega) (by omega) (by omega) (by omega) hk
  · rintro ⟨rfl, rfl⟩; rfl

/-- The program's capabilities at block 'p'. -/
def CP (w : World) (p : Nat) (s : S8) (F : List Nat) : Prop :=
  W8 s ∧ ∃ ps, PT w p ps (ob8 s.L ps) [] F ∧ ps.length = 780
theorem CP.lt {w : World} {p : Nat} {s : S8} {F : List Nat} (h : CP w p s F) : ∀ b ∈ F, b < w.heap.size := by
  obtain ⟨_, ps, h1, _⟩ := h; exact h1.lt
theorem CP.keep {w w' : World} {p : Nat} {s : S8} {F : List Nat} (h : CP w p s F) (hk : ∀ b ∈ F, w'.heap[b]? = w.heap[b]?) : CP w' p s F := by
  obtain ⟨h0, ps, h1, h2⟩ := h; exact ⟨h0, ps, h1.keep hk, h2⟩
def cpPart (p : Nat) (s : S8) (F : List Nat) : Part := ⟨F, fun w => CP w p s F, fun h k => h.keep k, fun h => h.lt⟩

end Go.Den
