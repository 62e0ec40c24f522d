/-
  caps: contracts of the program's capabilities: what is asked of one alone.
  caps: the program's capabilities in the heap.
  caps: contracts of the program's capabilities: a slot.
  caps: contracts of the program's capabilities: put, Add, Give.
  caps: contracts of the program's capabilities: Has, Holders.
  caps: contracts of the program's capabilities: each, Drop, Gone.
  caps: contracts of the program's capabilities: Revoke.
  caps: contracts of the program's capabilities: New.
-/
import Derived.Test.YthpcakhhemdibaaGreatCapsA
import Derived.Test.YthpcakhhemdibaaGreatDenC
import Derived.Test.YthpcakhhemdibaaGreatRes
set_option linter.unusedVariables false
set_option linter.unusedSimpArgs false
namespace Go.Proofs
open Go Go.Den

theorem pis_run (n : Int) {w : World} {K : Value → World → Prop} (h : K (.bool (decide (env12 n))) w) : CallsR Tryz.prog F_caps_is #[.int .i64 n] w K := by
  apply R_caps_is_ok
  simp only [R_caps_is, spl_decide]
  refine ⟨fun h1 => ?_, fun h1 => ?_⟩
  · rw [show decide (n < 12) = decide (env12 n) from decide_eq_decide.2 (by unfold env12; omega)]; exact h
  · rw [show false = decide (env12 n) from (decide_eq_false (by unfold env12; omega)).symm]; exact h

theorem pcovers_run {x : Cap8} (hx : May8 x) (k i r : Int) (hi : (Lit.int .i64 i).wf = true) {w : World} {K : Value → World → Prop} (hK : ∀ w', Mod [] w w' → K (.bool (covers8 x k i r)) w') :
    CallsR Tryz.prog F_caps_covers #[.agg #[.int .i64 x.k, .int .i64 x.i, .int .i64 x.n, .int .i64 x.r], .int .i64 k, .int .i64 i, .int .i64 r] w K := by
  apply R_caps_covers_ok
  simp only [R_caps_covers, spl_decide, spl_beq]
  refine (Sep.nil (Mod.refl [] w)).new fun b w1 s1 m1 hb => ?_
  have c0 : w1.cell? ⟨b, 0, none⟩ = some (.int .i64 x.k) := s1.cell 0 rfl rfl
  have c1 : w1.cell? ⟨b, 1, none⟩ = some (.int .i64 x.i) := s1.cell 0 rfl rfl
  have c2 : w1.cell? ⟨b, 2, none⟩ = some (.int .i64 x.n) := s1.cell 0 rfl rfl
  have c3 : w1.cell? ⟨b, 3, none⟩ = some (.int .i64 x.r) := s1.cell 0 rfl rfl
  simp only [c0, c1, c2, c3, Option.some.injEq, Value.int.injEq, true_and, exists_eq_left']
  have hK := hK w1 m1
  obtain ⟨-, b2, b3, b4, b5, b6, b7⟩ := hx
  rw [w64 (by omega) (by omega)]
  have no : covers8 x k i r = false → K (.bool false) w1 := fun e => by rwa [e] at hK
  refine ⟨fun h0 => ⟨fun h1 => ⟨fun h2 => ?_, fun h2 => no ?_⟩, fun h1 => no ?_⟩, fun h0 => no ?_⟩
  · have e : covers8 x k i r = hasR x.r r := by
      unfold covers8
      rw [show (x.k == k) = true by simpa using h0, decide_eq_true h1, decide_eq_true h2]
      simp
    rw [e] at hK
    exact hK
  · unfold covers8; rw [decide_eq_false h2]; simp
  · unfold covers8; rw [decide_eq_false h1]; simp
  · unfold covers8; rw [show (x.k == k) = false by simpa using h0]; simp

theorem pmay_run (x : Cap8) {w : World} {K : Value → World → Prop} (hK : ∀ w', Mod [] w w' → K (.bool (decide (May8 x))) w') : CallsR Tryz.prog F_caps_may #[.agg #[.int .i64 x.k, .int .i64 x.i, .int .i64 x.n, .int .i64 x.r]] w K := by
  apply R_caps_may_ok
  simp only [R_caps_may, spl_decide, spl_beq]
  refine (Sep.nil (Mod.refl [] w)).new fun b w1 s1 m1 hb => ?_
  have c0 : w1.cell? ⟨b, 0, none⟩ = some (.int .i64 x.k) := s1.cell 0 rfl rfl
  have c1 : w1.cell? ⟨b, 1, none⟩ = some (.int .i64 x.i) := s1.cell 0 rfl rfl
  have c2 : w1.cell? ⟨b, 2, none⟩ = some (.int .i64 x.n) := s1.cell 0 rfl rfl
  have c3 : w1.cell? ⟨b, 3, none⟩ = some (.int .i64 x.r) := s1.cell 0 rfl rfl
  have ht : May8 x → K (.bool true) w1 := fun h => by have := hK w1 m1; rwa [decide_eq_true h] at this
  have hf : ¬ May8 x → K (.bool false) w1 := fun h => by have := hK w1 m1; rwa [decide_eq_false h] at this
  have hl : (x.r ≤ 7 ↔ May8 x) → K (.bool (decide (x.r ≤ 7))) w1 := fun h => by have := hK w1 m1; rwa [← decide_eq_decide.2 h] at this
  unfold May8 at ht hf hl
  refine ⟨fun kd w' => w' = w1 ∧ kd = decide (x.k = 2 ∨ x.k = 1 ∧ x.n = 1), ?_, ?_⟩
  · rintro kd - w' ⟨rfl, rfl⟩
    simp only [c0, c1, c2, c3, Option.some.injEq, Value.int.injEq, true_and, exists_eq_left', spl_decide]
    repeat' first | (refine ⟨?_, ?_⟩) | intro _
    all_goals first | exact hf (by omega) | exact hl (by omega)
  · simp only [c0, c1, c2, c3, Option.some.injEq, Value.int.injEq, true_and, exists_eq_left']
    refine ⟨fun h => (decide_eq_true (.inl h)).symm, fun h => ⟨fun h1 => ?_, fun h1 => ?_⟩⟩
    · rw [Bool.eq_iff_iff]; simp [h, h1]
    · exact (decide_eq_false (by omega)).symm

theorem pmeet_run {x y : Cap8} (hx : May8 x) (hy : May8 y) {w : World} {K : Value → World → Prop} (hK : ∀ w', Mod [] w w' → K (.bool (meet8 x y)) w') : CallsR Tryz.prog F_caps_meet #[.agg #[.int .i64 x.k, .int .i64 x.i, .int .i64 x.n, .int .i64 x.r], .agg #[.int .i64 y.k, .int .i64 y.i, .int .i64 y.n, .int .i64 y.r]] w K := by
  apply R_caps_meet_ok
  simp only [R_caps_meet, spl_decide]
  refine (Sep.nil (Mod.refl [] w)).new fun b w1 s1 m1 hb => ?_
  refine s1.new fun b2 w2 s2 m2 hb2 => ?_
  refine ⟨x.k, s2.cell 1 rfl rfl, x.i, s2.cell 1 rfl rfl, y.i, s2.cell 0 rfl rfl, ?_⟩
  refine s2.new fun b3 w3 s3 m3 hb3 => ?_
  refine s3.st 0 rfl (by simp) fun w4 s4 m4 => ?_
  refine ⟨x.k, (if y.i > x.i then y.i else x.i), 0, 0, ⟨s4.cell 0 rfl rfl, s4.cell 0 rfl rfl, s4.cell 0 rfl rfl, s4.cell 0 rfl rfl⟩, y.k, s4.cell 1 rfl rfl, x.i, s4.cell 2 rfl rfl, y.i, s4.cell 1 rfl rfl, ?_⟩
  obtain ⟨m, hm⟩ : ∃ m, m = (if y.i > x.i then y.i else x.i) := ⟨_, rfl⟩
  rw [← hm]
  refine eqAgg_K eqT_api_Cap (xs := [.int .i64 x.k, .int .i64 m, .int .i64 0, .int .i64 0]) (ys := [.int .i64 y.k, .int .i64 m, .int .i64 0, .int .i64 0]) (by simp [matchL, matchS]) (by simp [matchL, matchS]) ?_
  have e : cellsEq [.int .i64 x.k, .int .i64 m, .int .i64 0, .int .i64 0] [.int .i64 y.k, .int .i64 m, .int .i64 0, .int .i64 0] = (x.k == y.k) := by simp [cellsEq, cellEq]
  rw [e, spl_beq]
  have hK := hK w4 s4.mod
  unfold May8 at hx hy
  have f : ¬ (x.k = y.k ∧ y.i < x.i + x.n ∧ x.i < y.i + y.n) → K (.bool false) w4 := fun h => by
    have e : meet8 x y = false := by
      cases hh : meet8 x y with
      | false => rfl
      | true => exact absurd (by simpa [meet8, and_assoc] using hh) h
    rwa [e] at hK
  refine ⟨fun hk => ⟨m, s4.cell 0 rfl (by rw [hm]; rfl), x.i, s4.cell 2 rfl rfl, x.n, s4.cell 2 rfl rfl, ?_⟩, fun hk => f fun z => hk z.1⟩
  rw [w64 (by omega) (by omega)]
  refine ⟨fun h1 => ⟨m, s4.cell 0 rfl (by rw [hm]; rfl), y.i, s4.cell 1 rfl rfl, y.n, s4.cell 1 rfl rfl, ?_⟩, fun h1 => f fun z => ?_⟩
  · rw [w64 (by omega) (by omega)]
    have e : meet8 x y = decide (m < y.i + y.n) := by
      rw [Bool.eq_iff_iff]
      simp only [meet8, Bool.and_eq_true, beq_iff_eq, decide_eq_true_eq]
      split at hm <;> omega
    rwa [e] at hK
  · split at hm <;> omega

end Go.Proofs

set_option linter.unusedSimpArgs false
namespace Go.Den
open Go

/-- A slot's place in the row of pointers. -/
def kp (e s : Int) : Nat := e.toNat * 65 + s.toNat
def ckp (c : CE) : Nat := kp c.env c.slot
/-- Where that lies which one was made of. -/
def parV (L : List CE) (ps : List (Option Nat)) (c : CE) : Value := match parent8 L c with
  | none => .pointer none
  | some d => ptrTo ((ps[ckp d]?).getD none)
def nodeC (c : CE) (up : Value) : Array Value := #[.int .i64 c.x.k, .int .i64 c.x.i, .int .i64 c.x.n, .int .i64 c.x.r, .int .i64 c.env, .int .i64 c.slot, up]
def ob8 (L : List CE) (ps : List (Option Nat)) (i : Nat) : Option (Array Value) := (L.find? fun c => ckp c == i).map fun c => nodeC c (parV L ps c)

theorem kp_inj {e s e' s' : Int} (h : 0 ≤ e) (h' : 0 ≤ e') (hs : 0 ≤ s ∧ s ≤ 64) (hs' : 0 ≤ s' ∧ s' ≤ 64) (hk : kp e s = kp e' s') : e = e' ∧ s = s' := by
  unfold kp at hk
  omega

theorem find_cong {L : List CE} {f g : CE → Bool} (h : ∀ c ∈ L, f c = g c) : L.find? f = L.find? g := by
  induction L with
  | nil => rfl
  | cons a L ih => rw [List.find?_cons, List.find?_cons, h a (by simp), ih fun c hc => h c (by simp [hc])]
theorem find_kp {s : S8} (hw : W8 s) {e sl : Int} (he : env12 e) (hs : 1 ≤ sl ∧ sl ≤ 64) : (s.L.find? fun c => ckp c == kp e sl) = look8 s.L e sl := by
  unfold look8
  refine find_cong fun c hc => ?_
  obtain ⟨h1, h2, h3, -⟩ := hw.in_ c hc
  unfold env12 at he h1
  rw [Bool.eq_iff_iff, isAt_iff, beq_iff_eq]
  constructor
  · intro hk; exact kp_inj (by omega) (by omega) (by omega) (by omega) hk
  · rintro ⟨rfl, rfl⟩; rfl

/-- The program's capabilities at block 'p'. -/
def CP (w : World) (p : Nat) (s : S8) (F : List Nat) : Prop :=
  W8 s ∧ ∃ ps, PT w p ps (ob8 s.L ps) [] F ∧ ps.length = 780
theorem CP.lt {w : World} {p : Nat} {s : S8} {F : List Nat} (h : CP w p s F) : ∀ b ∈ F, b < w.heap.size := by
  obtain ⟨_, ps, h1, _⟩ := h; exact h1.lt
theorem CP.keep {w w' : World} {p : Nat} {s : S8} {F : List Nat} (h : CP w p s F) (hk : ∀ b ∈ F, w'.heap[b]? = w.heap[b]?) : CP w' p s F := by
  obtain ⟨h0, ps, h1, h2⟩ := h; exact ⟨h0, ps, h1.keep hk, h2⟩
def cpPart (p : Nat) (s : S8) (F : List Nat) : Part := ⟨F, fun w => CP w p s F, fun h k => h.keep k, fun h => h.lt⟩

end Go.Den

set_option linter.unusedSimpArgs false
namespace Go.Proofs
open Go Go.Den

theorem pat_run {w : World} {p : Nat} {s : S8} {ps : List (Option Nat)} {F : List Nat} (h : PT w p ps (ob8 s.L ps) [] F) (hl : ps.length = 780) (hw : W8 s) (e sl : Int) {K : Value → World → Prop} (h0 : look8 s.L e sl = none → K (.pointer none) w)
    (h1 : ∀ c q, look8 s.L e sl = some c → ps[ckp c]? = some (some q) → K (.pointer (some ⟨q, 0, none⟩)) w) : CallsR Tryz.prog F_caps_Caps_at #[.pointer (some ⟨p, 0, none⟩), .int .i64 e, .int .i64 sl] w K := by
  apply R_caps_Caps_at_ok
  simp only [R_caps_Caps_at, Option.isNone_some, spl_false, spl_decide, nilK_some, addr_add, Nat.zero_add]
  have out : (¬ env12 e ∨ sl < 1 ∨ 64 < sl) → look8 s.L e sl = none := fun hh => by
    cases hlk : look8 s.L e sl with
    | none => rfl
    | some c =>
      obtain ⟨hm, rfl, rfl⟩ := look8_some hlk
      obtain ⟨a1, a2, a3, -⟩ := hw.in_ c hm
      rcases hh with z | z | z
      · exact absurd a1 z
      · omega
      · omega
  refine pis_run e ⟨_, rfl, ?_⟩
  rw [spl_decide]
  refine ⟨fun he => ⟨fun hs => h0 (out (.inr (.inl hs))), fun hs => ⟨fun hs2 => h0 (out (.inr (.inr (by omega)))), fun hs2 => ⟨⟨he.1, he.2⟩, ⟨by omega, by omega⟩, ?_⟩⟩⟩, fun he => h0 (out (.inl he))⟩
  have hk := find_kp hw he (show 1 ≤ sl ∧ sl ≤ 64 by omega)
  have hlt : kp e sl < ps.length := by unfold kp; unfold env12 at he; omega
  obtain ⟨o, ho, hc⟩ := h.cell hlt
  rw [ptrTo_eq] at hc
  refine ⟨_, hc, ?_⟩
  cases o with
  | none =>
    refine h0 ?_
    have := h.no _ ho
    rw [ob8, hk] at this
    simpa using this
  | some q =>
    obtain ⟨arr, T, ha, hb⟩ := h.at_ _ q ho
    rw [ob8, hk] at ha
    cases hlk : look8 s.L e sl with
    | none => rw [hlk] at ha; cases ha
    | some c =>
      obtain ⟨hm, rfl, rfl⟩ := look8_some hlk
      exact h1 c q hlk ho

/-- What a slot's block holds. -/
theorem node_at {w : World} {p : Nat} {s : S8} {ps : List (Option Nat)} {F : List Nat} (h : PT w p ps (ob8 s.L ps) [] F) (hw : W8 s) {e sl : Int} {c : CE} {q : Nat} (hlk : look8 s.L e sl = some c) (hq : ps[ckp c]? = some (some q)) : ∃ T, w.heap[q]? = some (.cells (nodeC c (parV s.L ps c)) T (0, 0)) := by
  obtain ⟨hm, rfl, rfl⟩ := look8_some hlk
  obtain ⟨a1, a2, a3, -⟩ := hw.in_ c hm
  obtain ⟨arr, T, ha, hb⟩ := h.at_ _ q hq
  rw [ob8, show ckp c = kp c.env c.slot from rfl, find_kp hw a1 ⟨a2, a3⟩, hlk] at ha
  obtain rfl := Option.some.inj ha
  exact ⟨T, hb⟩

theorem pget_run {w : World} {p : Nat} {s : S8} {F : List Nat} (h : CP w p s F) (e sl : Int) {K : Value → World → Prop} (hK : ∀ w', Mod [] w w' → K (.tuple #[.agg #[.int .i64 (getV8 s.L e sl).1.k, .int .i64 (getV8 s.L e sl).1.i, .int .i64 (getV8 s.L e sl).1.n, .int .i64 (getV8 s.L e sl).1.r], .bool (getV8 s.L e sl).2]) w') :
    CallsR Tryz.prog F_caps_Caps_Get #[.pointer (some ⟨p, 0, none⟩), .int .i64 e, .int .i64 sl] w K := by
  apply R_caps_Caps_Get_ok
  simp only [R_caps_Caps_Get]
  refine (Sep.nil (Mod.refl [] w)).new fun b w1 s1 m1 hb => ?_
  obtain ⟨hw, ps, h1, hl⟩ := h.keep (m1.at0 h.lt)
  refine pat_run h1 hl hw e sl (fun hn => ⟨_, rfl, spl_t rfl ?_⟩) (fun c q hlk hq => ⟨_, rfl, spl_f rfl ?_⟩)
  · refine s1.st 0 rfl (by simp) fun w2 s2 m2 => ⟨_, _, _, _, ⟨s2.cell 0 rfl rfl, s2.cell 0 rfl rfl, s2.cell 0 rfl rfl, s2.cell 0 rfl rfl⟩, ?_⟩
    have := hK w2 s2.mod
    rwa [getV8, hn] at this
  · obtain ⟨T, hn⟩ := node_at h1 hw hlk hq
    simp only [nilK_some, addr_add, Nat.zero_add]
    refine ⟨c.x.k, c.x.i, c.x.n, c.x.r, ⟨by rw [cell_get hn]; rfl, by rw [cell_get hn]; rfl, by rw [cell_get hn]; rfl, by rw [cell_get hn]; rfl⟩, ?_⟩
    refine s1.st 0 rfl (by simp) fun w2 s2 m2 => ⟨_, _, _, _, ⟨s2.cell 0 rfl rfl, s2.cell 0 rfl rfl, s2.cell 0 rfl rfl, s2.cell 0 rfl rfl⟩, ?_⟩
    have := hK w2 s2.mod
    rwa [getV8, hlk] at this

end Go.Proofs

set_option linter.unusedSimpArgs false
namespace Go.Den
open Go

theorem find_ckp {s : S8} (hw : W8 s) {c : CE} (hc : c ∈ s.L) : (s.L.find? fun d => ckp d == ckp c) = some c := by
  obtain ⟨h1, h2, h3, -⟩ := hw.in_ c hc
  exact (find_kp hw h1 ⟨h2, h3⟩).trans (look8_of hw.key hc)
theorem ckp_lt {s : S8} (hw : W8 s) {c : CE} (hc : c ∈ s.L) : ckp c < 780 := by
  obtain ⟨h1, h2, h3, -⟩ := hw.in_ c hc
  unfold env12 at h1
  unfold ckp kp
  omega
theorem ckp_inj {s : S8} (hw : W8 s) {c d : CE} (hc : c ∈ s.L) (hd : d ∈ s.L) (h : ckp c = ckp d) : c = d := by
  have h1 := find_ckp hw hc
  rw [h, find_ckp hw hd] at h1
  exact (Option.some.inj h1).symm
theorem PT.has {w : World} {p : Nat} {s : S8} {ps : List (Option Nat)} {F : List Nat} (h : PT w p ps (ob8 s.L ps) [] F) (hl : ps.length = 780) (hw : W8 s) {c : CE} (hc : c ∈ s.L) : ∃ q T, ps[ckp c]? = some (some q) ∧ w.heap[q]? = some (.cells (nodeC c (parV s.L ps c)) T (0, 0)) := by
  have hlt := ckp_lt hw hc
  have ho : ob8 s.L ps (ckp c) = some (nodeC c (parV s.L ps c)) := by rw [ob8, find_ckp hw hc]; rfl
  obtain ⟨o, e⟩ : ∃ o, ps[ckp c]? = some o := ⟨_, List.getElem?_eq_getElem (by omega)⟩
  cases o with
  | none => have := h.no _ e; rw [ho] at this; cases this
  | some q =>
    obtain ⟨arr, T, h1, h2⟩ := h.at_ _ q e
    rw [ho] at h1
    obtain rfl := Option.some.inj h1
    exact ⟨q, T, e, h2⟩
theorem slot_cases {w : World} {p : Nat} {s : S8} {ps : List (Option Nat)} {F : List Nat} (h : PT w p ps (ob8 s.L ps) [] F) (hl : ps.length = 780) (hw : W8 s) {e sl : Int} (he : env12 e) (hs : 1 ≤ sl ∧ sl ≤ 64) :
    (look8 s.L e sl = none ∧ ps[kp e sl]? = some none ∧ w.cell? ⟨p, kp e sl, none⟩ = some (.pointer none)) ∨ (∃ c q, look8 s.L e sl = some c ∧ ps[kp e sl]? = some (some q) ∧ w.cell? ⟨p, kp e sl, none⟩ = some (.pointer (some ⟨q, 0, none⟩))) := by
  have hk := find_kp hw he hs
  have hlt : kp e sl < ps.length := by unfold kp; unfold env12 at he; omega
  obtain ⟨o, ho, hc⟩ := h.cell hlt
  cases o with
  | none =>
    have := h.no _ ho
    rw [ob8, hk] at this
    exact .inl ⟨by simpa using this, ho, hc⟩
  | some q =>
    obtain ⟨arr, T, ha, hb⟩ := h.at_ _ q ho
    rw [ob8, hk] at ha
    cases hlk : look8 s.L e sl with
    | none => rw [hlk] at ha; cases ha
    | some c => exact .inr ⟨c, q, rfl, ho, hc⟩

def parUp (L : List CE) (ps : List (Option Nat)) (o : Int) : Value := match L.find? fun d => d.no == o with
  | none => .pointer none
  | some d => ptrTo ((ps[ckp d]?).getD none)
theorem parV_eq (L : List CE) (ps : List (Option Nat)) (c : CE) : parV L ps c = parUp L ps c.of_ := rfl

theorem parUp_put {s : S8} (hw : W8 s) {e j : Int} (he : env12 e) (hj1 : 1 ≤ j ∧ j ≤ 64) (hj : look8 s.L e j = none) {o : Int} {x : Cap8} (ps : List (Option Nat)) (q : Option Nat) {o' : Int} (ho : o' = 0 ∨ ∃ d ∈ s.L, d.no = o') :
    parUp (s.L ++ [⟨s.last + 1, o, e, j, x⟩]) (ps.set (kp e j) q) o' = parUp s.L ps o' := by
  have hl := hw.last
  have hne : ((s.last + 1) == o') = false := by
    rcases ho with rfl | ⟨d, hd, rfl⟩
    · simp; omega
    · have := (hw.in_ d hd).2.2.2.2.2; simp; omega
  unfold parUp
  rw [List.find?_append, List.find?_cons, List.find?_nil]
  simp only [hne, Option.or_none]
  cases hf : s.L.find? fun d => d.no == o' with
  | none => rfl
  | some d =>
    have hd := List.mem_of_find?_eq_some hf
    simp only
    rw [List.getElem?_set, if_neg]
    intro hk
    have h1 := find_kp hw he hj1
    rw [hk, find_ckp hw hd, hj] at h1
    cases h1
theorem ob8_put {s : S8} (hw : W8 s) {e j : Int} (he : env12 e) (hj1 : 1 ≤ j ∧ j ≤ 64) (hj : look8 s.L e j = none) {o : Int} {x : Cap8} (ps : List (Option Nat)) (q : Option Nat) (ho : o = 0 ∨ ∃ d ∈ s.L, d.no = o) (i : Nat) :
    ob8 (s.L ++ [⟨s.last + 1, o, e, j, x⟩]) (ps.set (kp e j) q) i = if kp e j = i then some (nodeC ⟨s.last + 1, o, e, j, x⟩ (parUp s.L ps o)) else ob8 s.L ps i := by
  have h1 := find_kp hw he hj1
  rw [hj] at h1
  unfold ob8
  rw [List.find?_append, List.find?_cons, List.find?_nil]
  by_cases hk : kp e j = i
  · subst hk
    rw [if_pos rfl, h1]
    simp only [ckp, beq_self_eq_true, Option.none_or, Option.map_some, Option.some.injEq]
    rw [parV_eq, parUp_put hw he hj1 hj ps q ho]
  · rw [if_neg hk]
    have hne : (ckp ⟨s.last + 1, o, e, j, x⟩ == i) = false := by simp [ckp, hk]
    simp only [hne, Option.or_none]
    cases hf : s.L.find? fun c => ckp c == i with
    | none => rfl
    | some c =>
      have hc := List.mem_of_find?_eq_some hf
      simp only [Option.map_some, Option.some.injEq]
      rw [parV_eq, parV_eq, parUp_put hw he hj1 hj ps q]
      rcases hw.up c hc with h | ⟨d, hd, h, -⟩
      · exact .inl h
      · exact .inr ⟨d, hd, h⟩

end Go.Den
namespace Go.Proofs
open Go Go.Den

theorem pput_run {w : World} {p : Nat} {s : S8} {ps : List (Option Nat)} {F : List Nat} (h : PT w p ps (ob8 s.L ps) [] F) (hl : ps.length = 780) (hw : W8 s) {e : Int} (he : env12 e) {x : Cap8} (hx : May8 x) {o : Int} (ho : o = 0 ∨ ∃ d ∈ s.L, d.no = o) {up : Option Addr} (hup : parUp s.L ps o = .pointer up)
    {K : Value → World → Prop} (hK : ∀ w' F', CP w' p (putS8 s e o x) F' → Mod F w w' → Own w F F' → K (.tuple #[.int .i64 (putV8 s e).1, .int .i64 (putV8 s e).2]) w') :
    CallsR Tryz.prog F_caps_Caps_put #[.pointer (some ⟨p, 0, none⟩), .int .i64 e, .agg #[.int .i64 x.k, .int .i64 x.i, .int .i64 x.n, .int .i64 x.r], .pointer up] w K := by
  apply R_caps_Caps_put_ok
  simp only [R_caps_Caps_put, spl_decide, nilK_some, addr_add, Nat.zero_add]
  have hWp := hw.put he hx ho
  refine (Sep.nil (Mod.refl [] w)).new fun b w1 s1 m1 hb => ?_
  have h1 := h.keep (m1.at0 h.lt)
  refine ⟨fun n t w' => ∃ j : Nat, t = j ∧ 1 ≤ j ∧ j ≤ 65 ∧ n = 65 - j ∧ (∀ i : Nat, 1 ≤ i → i < j → look8 s.L e i ≠ none) ∧ w' = w1, ⟨64, 1, rfl, by omega, by omega, rfl, fun i _ _ => by omega, rfl⟩, ?_⟩
  rintro n t - w2 ⟨j, rfl, hj1, hj, rfl, hno, rfl⟩
  refine ⟨fun hlt => ⟨⟨he.1, he.2⟩, ⟨by omega, by omega⟩, ?_⟩, fun hge => ?_⟩
  · rcases slot_cases h1 hl hw he (sl := j) (by omega) with ⟨g1, g2, g3⟩ | ⟨c, q, g1, g2, g3⟩
    · refine ⟨none, g3, spl_t rfl ?_⟩
      rw [drK_eq]
      have s2 := s1.mod0 ((Mod.refl [] w2).drew)
      generalize w2.drew = w3 at s2 ⊢
      refine ⟨[b], by simp, _, _, _, _, ⟨s2.cell 0 rfl rfl, s2.cell 0 rfl rfl, s2.cell 0 rfl rfl, s2.cell 0 rfl rfl⟩, ⟨he.1, he.2⟩, ?_⟩
      refine s2.new fun q w4 s4 m4 hq => ⟨⟨by omega, by omega⟩, ?_⟩
      have h4 := h.keep (s4.mod.at0 h.lt)
      have hqF : q ∉ F := fun hh => by have := h.lt q hh; have := s2.mod.size; omega
      have hkl : kp e j < ps.length := by unfold kp; unfold env12 at he; omega
      obtain ⟨T, hrow⟩ := h4.row
      refine stK_of hrow (by unfold kp at hkl; simp; omega) ?_
      simp only [splice_cons, splice_nil]
      have er := ptrs_set ps [] hkl (some q)
      have hk4 : w4.heap[q]? = some _ := s4.nth 0 rfl
      have hpq : p ≠ q := fun hh => hqF (hh ▸ h.pmem)
      obtain ⟨F', hF', hF⟩ := h4.put (w' := w4.upd p (.cells ((ps.map ptrTo ++ []).toArray.setIfInBounds (kp e j) (ptrTo (some q))) T (0, 0))) g2 (by rw [er]; exact upd_same hrow) ((upd_ne _ hpq).trans hk4) hqF (fun z _ hz => upd_ne _ (Ne.symm hz))
      have hfree : free8 s.L e = j := by
        rcases free8_spec s.L e with ⟨z1, z2⟩ | ⟨i, z1, z2, z3, z4, z5⟩
        · exact absurd g1 (z2 j (by omega) (by omega))
        · rcases Nat.lt_trichotomy i j with z | z | z
          · exact absurd z4 (hno i z1 z)
          · rw [z3, z]
          · exact absurd g1 (z5 j (by omega) z)
      have hS : putS8 s e o x = ⟨s.L ++ [⟨s.last + 1, o, e, j, x⟩], s.last + 1⟩ := by
        unfold putS8; rw [hfree, if_neg (by omega)]
      have hV : putV8 s e = ((j : Int), 0) := by unfold putV8; rw [hfree, if_neg (by omega)]
      rw [hS] at hK hWp
      rw [hV] at hK
      refine hK _ F' ⟨hWp, _, hF'.say fun i _ => ?_, by simpa using hl⟩ (s4.mod.of0.upd (.inl h.pmem) _) (fun z hz => (hF z hz).imp id fun hh => ?_)
      · show ob8 (s.L ++ [⟨s.last + 1, o, e, j, x⟩]) (ps.set (kp e j) (some q)) i = _
        rw [ob8_put hw he (by omega) g1 ps (some q) ho, hup]
        rfl
      · have := s2.mod.size; omega
    · refine ⟨_, g3, spl_f rfl ⟨64 - j, by omega, j + 1, by rw [w64 (by omega) (by omega)]; omega, by omega, by omega, by omega, fun i hi hij => ?_, rfl⟩⟩
      rcases Nat.lt_or_ge i j with z | z
      · exact hno i hi z
      · obtain rfl : i = j := by omega
        rw [g1]; simp
  · have hfree : free8 s.L e = 0 := by
      rcases free8_spec s.L e with ⟨z1, z2⟩ | ⟨i, z1, z2, z3, z4, z5⟩
      · exact z1
      · exact absurd z4 (hno i z1 (by omega))
    have hS : putS8 s e o x = s := by unfold putS8; rw [if_pos hfree]
    have hV : putV8 s e = (0, 105) := by unfold putV8; rw [if_pos hfree]
    rw [hS, hV] at hK
    exact hK w2 F ⟨hw, ps, h1, hl⟩ m1.of0 (Own.refl _ _)

theorem padd_run {w : World} {p : Nat} {s : S8} {F : List Nat} (h : CP w p s F) (e : Int) (x : Cap8) {K : Value → World → Prop} (hK : ∀ w' F', CP w' p (addS8 s e x) F' → Mod F w w' → Own w F F' → K (.tuple #[.int .i64 (addV8 s e x).1, .int .i64 (addV8 s e x).2]) w') :
    CallsR Tryz.prog F_caps_Caps_Add #[.pointer (some ⟨p, 0, none⟩), .int .i64 e, .agg #[.int .i64 x.k, .int .i64 x.i, .int .i64 x.n, .int .i64 x.r]] w K := by
  apply R_caps_Caps_Add_ok
  simp only [R_caps_Caps_Add, Option.isNone_some, spl_false]
  refine (Sep.nil (Mod.refl [] w)).new fun b w1 s1 m1 hb => ?_
  have no : ∀ w2, Mod [] w1 w2 → ¬ (env12 e ∧ May8 x) → K (.tuple #[.int .i64 0, .int .i64 101]) w2 := fun w2 hm hn => by
    have := hK w2 F (by unfold addS8; rw [if_neg hn]; exact h.keep ((m1.trans' hm).at0 h.lt)) (m1.trans' hm).of0 (Own.refl _ _)
    rwa [addV8, if_neg hn] at this
  refine pis_run e ⟨_, rfl, ?_⟩
  rw [spl_decide]
  refine ⟨fun he => ⟨_, _, _, _, ⟨s1.cell 0 rfl rfl, s1.cell 0 rfl rfl, s1.cell 0 rfl rfl, s1.cell 0 rfl rfl⟩, ?_⟩, fun he => no w1 (Mod.refl _ _) fun h => he h.1⟩
  refine pmay_run x fun w2 m2 => ⟨_, rfl, ?_⟩
  rw [spl_decide]
  have s2 := s1.mod0 m2
  refine ⟨fun hm => ⟨_, _, _, _, ⟨s2.cell 0 rfl rfl, s2.cell 0 rfl rfl, s2.cell 0 rfl rfl, s2.cell 0 rfl rfl⟩, ?_⟩, fun hm => no w2 m2 fun h => hm h.2⟩
  have hS : addS8 s e x = putS8 s e 0 x := by unfold addS8; rw [if_pos ⟨he, hm⟩]
  have hV : addV8 s e x = putV8 s e := by unfold addV8; rw [if_pos ⟨he, hm⟩]
  rw [hS, hV] at hK
  have hlt := h.lt
  obtain ⟨hw, ps, h1, hl⟩ := h.keep (s2.mod.at0 hlt)
  have hup : parUp s.L ps 0 = .pointer none := by
    unfold parUp
    rw [List.find?_eq_none.2 fun d hd => by have := (hw.in_ d hd).2.2.2.2.1; simp; omega]
  refine pput_run h1 hl hw he hm (.inl rfl) hup fun w3 F3 h3 m3 o3 => ⟨_, _, rfl, hK w3 F3 h3 (s2.mod.of0.trans' m3) fun z hz => (o3 z hz).imp id fun hh => by have := s2.mod.size; omega⟩

theorem pgive_run {w : World} {p : Nat} {s : S8} {F : List Nat} (h : CP w p s F) (e sl to r : Int) {K : Value → World → Prop} (hK : ∀ w' F', CP w' p (giveS8 s e sl to r) F' → Mod F w w' → Own w F F' → K (.tuple #[.int .i64 (giveV8 s e sl to r).1, .int .i64 (giveV8 s e sl to r).2]) w') :
    CallsR Tryz.prog F_caps_Caps_Give #[.pointer (some ⟨p, 0, none⟩), .int .i64 e, .int .i64 sl, .int .i64 to, .int .i64 r] w K := by
  apply R_caps_Caps_Give_ok
  simp only [R_caps_Caps_Give, Option.isNone_some, spl_false]
  have h0 := h
  obtain ⟨hw, ps, h1, hl⟩ := h
  refine pat_run h1 hl hw e sl (fun hn => ⟨_, rfl, spl_t rfl ?_⟩) (fun c q hlk hq => ⟨_, rfl, spl_f rfl ?_⟩)
  · have := hK w F (by unfold giveS8; rw [hn]; exact h0) (Mod.refl _ _) (Own.refl _ _)
    rwa [giveV8, hn] at this
  obtain ⟨T, hn⟩ := node_at h1 hw hlk hq
  obtain ⟨hm, hce, hcs⟩ := look8_some hlk
  have hcx := (hw.in_ c hm).2.2.2.1
  have d0 : w.cell? ⟨q, 0, none⟩ = some (.int .i64 c.x.k) := by rw [cell_get hn]; rfl
  have d1 : w.cell? ⟨q, 1, none⟩ = some (.int .i64 c.x.i) := by rw [cell_get hn]; rfl
  have d2 : w.cell? ⟨q, 2, none⟩ = some (.int .i64 c.x.n) := by rw [cell_get hn]; rfl
  have d3 : w.cell? ⟨q, 3, none⟩ = some (.int .i64 c.x.r) := by rw [cell_get hn]; rfl
  simp only [nilK_some, addr_add, Nat.zero_add, spl_decide, spl_beq]
  have no : ¬ mayGive c r → K (.tuple #[.int .i64 0, .int .i64 104]) w := fun hng => by
    have := hK w F (by unfold giveS8; rw [hlk]; simp only; rw [if_neg fun z => hng z.1]; exact h0) (Mod.refl _ _) (Own.refl _ _)
    rw [giveV8, hlk] at this
    simp only at this
    rwa [if_neg hng] at this
  unfold mayGive at no
  refine ⟨_, d3, fun g1 => no fun z => z.1 g1, fun g1 => ⟨fun g2 => no fun z => by omega, fun g2 => ⟨fun g3 => no fun z => by omega, fun g3 => ⟨_, d3, spl_of (fun g4 => no fun z => ?_) (fun g4 => ?_)⟩⟩⟩⟩
  · have := z.2.2.2
    simp [this] at g4
  have hmg : mayGive c r := ⟨g1, by omega, by omega, by simpa using g4⟩
  refine pis_run to ⟨_, rfl, ?_⟩
  rw [spl_decide]
  refine ⟨fun hto => ?_, fun hto => ?_⟩
  · refine ⟨_, _, _, _, ⟨d0, d1, d2, d3⟩, ?_⟩
    refine (Sep.nil (Mod.refl [] w)).new fun b w1 s1 m1 hb => ?_
    refine s1.st0 0 rfl rfl fun w2 s2 m2 => ?_
    refine s2.st 0 rfl (by simp) fun w3 s3 m3 => ?_
    refine ⟨_, _, _, _, ⟨s3.cell 0 rfl rfl, s3.cell 0 rfl rfl, s3.cell 0 rfl rfl, s3.cell 0 rfl rfl⟩, ?_⟩
    have hS : giveS8 s e sl to r = putS8 s to c.no ⟨c.x.k, c.x.i, c.x.n, r⟩ := by
      unfold giveS8; rw [hlk]; simp only; rw [if_pos ⟨hmg, hto⟩]
    have hV : giveV8 s e sl to r = putV8 s to := by
      unfold giveV8; rw [hlk]; simp only; rw [if_pos hmg, if_pos hto]
    rw [hS, hV] at hK
    have h3 := h1.keep (s3.mod.at0 h1.lt)
    have hup : parUp s.L ps c.no = .pointer (some ⟨q, 0, none⟩) := by
      unfold parUp
      cases hf : s.L.find? fun d => d.no == c.no with
      | none => exact absurd (List.find?_eq_none.1 hf c hm) (by simp)
      | some d =>
        have e1 := List.find?_some hf
        obtain rfl := no_same hw.no (List.mem_of_find?_eq_some hf) hm (by simpa using e1)
        simp only [hq]
        rfl
    refine pput_run h3 hl hw hto (x := ⟨c.x.k, c.x.i, c.x.n, r⟩) ?_ (.inr ⟨c, hm, rfl⟩) hup fun w4 F4 h4 m4 o4 => ⟨_, _, rfl, hK w4 F4 h4 (s3.mod.of0.trans' m4) fun z hz => (o4 z hz).imp id fun hh => by have := s3.mod.size; omega⟩
    obtain ⟨b1, b2, b3, b4, b5, b6, b7⟩ := hcx
    exact ⟨b1, b2, b3, b4, b5, hmg.2.1, hmg.2.2.1⟩
  · have := hK w F (by unfold giveS8; rw [hlk]; simp only; rw [if_neg fun z => hto z.2]; exact h0) (Mod.refl _ _) (Own.refl _ _)
    rw [giveV8, hlk] at this
    simp only at this
    rwa [if_pos hmg, if_neg hto] at this

end Go.Proofs

set_option linter.unusedSimpArgs false
namespace Go.Den
open Go

theorem place_cases {w : World} {p : Nat} {s : S8} {ps : List (Option Nat)} {F : List Nat} (h : PT w p ps (ob8 s.L ps) [] F) (hl : ps.length = 780) (hw : W8 s) {i : Nat} (hi : i < 780) :
    (ps[i]? = some none ∧ ∀ c ∈ s.L, ckp c ≠ i) ∨ (∃ c q T, c ∈ s.L ∧ ckp c = i ∧ ps[i]? = some (some q) ∧ w.heap[q]? = some (.cells (nodeC c (parV s.L ps c)) T (0, 0))) := by
  obtain ⟨o, ho⟩ : ∃ o, ps[i]? = some o := ⟨_, List.getElem?_eq_getElem (by omega)⟩
  cases o with
  | none =>
    refine .inl ⟨ho, fun c hc he => ?_⟩
    obtain ⟨q, T, h1, -⟩ := h.has hl hw hc
    rw [he, ho] at h1
    cases h1
  | some q =>
    obtain ⟨arr, T, ha, hb⟩ := h.at_ _ q ho
    unfold ob8 at ha
    cases hf : s.L.find? fun c => ckp c == i with
    | none => rw [hf] at ha; cases ha
    | some c =>
      rw [hf] at ha
      obtain rfl := Option.some.inj ha
      have e1 := List.find?_some hf
      exact .inr ⟨c, q, T, List.mem_of_find?_eq_some hf, by simpa using e1, ho, hb⟩

end Go.Den
namespace Go.Proofs
open Go Go.Den

theorem pnode_run {c : CE} (hx : May8 c.x) {up : Value} {w : World} {q : Nat} {T : TypeId} (hq : w.heap[q]? = some (.cells (nodeC c up) T (0, 0))) (k i r : Int) (hi : (Lit.int .i64 i).wf = true) {b1 b2 b3 : Nat} (h1 : w.cell? ⟨b1, 0, none⟩ = some (.int .i64 k)) (h2 : w.cell? ⟨b2, 0, none⟩ = some (.int .i64 i)) (h3 : w.cell? ⟨b3, 0, none⟩ = some (.int .i64 r)) {K : Value → World → Prop}
    (hK : ∀ w', Mod [] w w' → K (.bool (covers8 c.x k i r)) w') : CallsR Tryz.prog F_caps_Caps_Has_1 #[.pointer (some ⟨q, 0, none⟩), .pointer (some ⟨b1, 0, none⟩), .pointer (some ⟨b2, 0, none⟩), .pointer (some ⟨b3, 0, none⟩)] w K := by
  apply R_caps_Caps_Has_1_ok
  simp only [R_caps_Caps_Has_1, Option.isNone_some, Bool.not_false, spl_true, nilK_some, addr_add, Nat.zero_add]
  rw [drK_eq]
  have m1 : Mod [] w w.drew := (Mod.refl [] w).drew
  have hq : w.drew.heap[q]? = some (.cells (nodeC c up) T (0, 0)) := hq
  have h1 : w.drew.cell? ⟨b1, 0, none⟩ = some (.int .i64 k) := h1
  have h2 : w.drew.cell? ⟨b2, 0, none⟩ = some (.int .i64 i) := h2
  have h3 : w.drew.cell? ⟨b3, 0, none⟩ = some (.int .i64 r) := h3
  generalize w.drew = w1 at m1 hq h1 h2 h3 ⊢
  refine ⟨c.x.k, c.x.i, c.x.n, c.x.r, ⟨by rw [cell_get hq]; rfl, by rw [cell_get hq]; rfl, by rw [cell_get hq]; rfl, by rw [cell_get hq]; rfl⟩, k, h1, i, h2, r, h3, ?_⟩
  exact pcovers_run hx k i r hi fun w2 m2 => ⟨_, rfl, hK w2 (m1.trans' m2)⟩

theorem phas_run {w : World} {p : Nat} {s : S8} {F : List Nat} (h : CP w p s F) (e k i r : Int) (hi : (Lit.int .i64 i).wf = true) {K : Value → World → Prop} (hK : ∀ w', Mod [] w w' → K (.bool (has8 s.L e k i r)) w') :
    CallsR Tryz.prog F_caps_Caps_Has #[.pointer (some ⟨p, 0, none⟩), .int .i64 e, .int .i64 k, .int .i64 i, .int .i64 r] w K := by
  apply R_caps_Caps_Has_ok
  simp only [R_caps_Caps_Has, Option.isNone_some, spl_false, nilK_some, addr_add, Nat.zero_add]
  have hlt := h.lt
  refine (Sep.nil (Mod.refl [] w)).new fun b1 w1 s1 m1 hb1 => s1.new fun b2 w2 s2 m2 hb2 => s2.new fun b3 w3 s3 m3 hb3 => ?_
  obtain ⟨hw, ps, h3, hl⟩ := h.keep (s3.mod.at0 hlt)
  refine pis_run e ⟨_, rfl, ?_⟩
  rw [spl_decide]
  refine ⟨fun he => ⟨⟨he.1, he.2⟩, ?_⟩, fun he => ?_⟩
  · simp only [slK, sOK, sM, slA, true_and, Nat.reduceSub, Nat.reduceEqDiff, if_false, Option.map_some, Nat.zero_mul, addr_add, Nat.add_zero, Option.isNone_none, implies_true]
    apply R_slices_ContainsFunc_caps_node_caps_node_ok
    simp only [R_slices_ContainsFunc_caps_node_caps_node]
    apply R_slices_IndexFunc_caps_node_caps_node_ok
    simp only [R_slices_IndexFunc_caps_node_caps_node, nilK_some, addr_add, spl_decide]
    refine ⟨fun n t w' => ∃ j : Nat, t = j ∧ j ≤ 65 ∧ n = 65 - j ∧ (∀ c ∈ s.L, c.env = e → ckp c < e.toNat * 65 + j → covers8 c.x k i r = false) ∧ Mod [] w3 w', ⟨65, 0, rfl, by omega, rfl, fun c hc h1 h2 => ?_, Mod.refl _ _⟩, ?_⟩
    · unfold ckp kp at h2; rw [h1] at h2; omega
    rintro n t - w4 ⟨j, rfl, hj, rfl, hno, hm4⟩
    have h4 := h3.keep (hm4.at0 h3.lt)
    have s4 := s3.mod0 hm4
    refine ⟨fun hlt => ⟨⟨by omega, by omega⟩, ?_⟩, fun hge => ⟨_, rfl, ?_⟩⟩
    · have hb : e.toNat * 65 + j < 780 := by unfold env12 at he; omega
      obtain ⟨o, ho, hcell⟩ := h4.cell (i := e.toNat * 65 + j) (by omega)
      rw [Int.toNat_natCast]
      rcases place_cases h4 hl hw hb with ⟨g1, g2⟩ | ⟨c, q, T, g1, g2, g3, g4⟩
      · rw [ho] at g1
        obtain rfl := Option.some.inj g1
        refine ⟨none, hcell, ?_⟩
        apply R_caps_Caps_Has_1_ok
        simp only [R_caps_Caps_Has_1, Option.isNone_none, Bool.not_true, spl_false]
        rw [drK_eq]
        refine ⟨_, rfl, spl_f rfl ⟨65 - (j + 1), by omega, j + 1, by rw [w64 (by omega) (by omega)]; omega, by omega, rfl, fun c hc h1 h2 => ?_, hm4.drew⟩⟩
        have := g2 c hc
        exact hno c hc h1 (by omega)
      · rw [ho] at g3
        obtain rfl := Option.some.inj g3
        refine ⟨_, hcell, pnode_run (hw.in_ c g1).2.2.2.1 g4 k i r hi (s4.cell 2 rfl rfl) (s4.cell 1 rfl rfl) (s4.cell 0 rfl rfl) fun w5 m5 => ⟨_, rfl, spl_of (fun hcv => ⟨_, rfl, ?_⟩) (fun hcv => ?_)⟩⟩
        · have hce : c.env = e := by
            obtain ⟨a1, a2, a3, -⟩ := hw.in_ c g1
            unfold ckp kp at g2
            unfold env12 at a1 he
            omega
          have e1 : has8 s.L e k i r = true := List.any_eq_true.2 ⟨c, g1, by simp [hce, hcv]⟩
          have := hK w5 (s4.mod.trans' m5)
          rw [decide_eq_true (by omega)]
          rw [e1] at this
          exact ⟨_, rfl, this⟩
        · refine ⟨65 - (j + 1), by omega, j + 1, by rw [w64 (by omega) (by omega)]; omega, by omega, rfl, fun d hd h1 h2 => ?_, hm4.trans' m5⟩
          by_cases hdk : ckp d = e.toNat * 65 + j
          · rw [ckp_inj hw hd g1 (hdk.trans g2.symm)]; exact hcv
          · exact hno d hd h1 (by omega)
    · have e1 : has8 s.L e k i r = false := List.any_eq_false.2 fun c hc => by
        obtain ⟨a1, a2, a3, -⟩ := hw.in_ c hc
        by_cases hce : c.env = e
        · rw [hno c hc hce (by unfold ckp kp; rw [hce]; omega)]; simp
        · simp [hce]
      have := hK w4 s4.mod
      rw [e1] at this
      exact ⟨_, rfl, by simpa using this⟩
  · have e1 : has8 s.L e k i r = false := List.any_eq_false.2 fun c hc => by
      obtain ⟨a1, a2, a3, -⟩ := hw.in_ c hc
      have : c.env ≠ e := fun h => he (h ▸ a1)
      simp [this]
    have := hK w3 s3.mod
    rwa [e1] at this

theorem pholders_run {w : World} {p : Nat} {s : S8} {F : List Nat} (h : CP w p s F) (k i : Int) (hi : (Lit.int .i64 i).wf = true) {K : Value → World → Prop} (hK : ∀ w' a c G, SlB w' a (holders8 s.L k i).length c 1 (i64s (holders8 s.L k i)) G → Beyond w.heap.size G → Mod [] w w' → K (.slice a (holders8 s.L k i).length c) w') :
    CallsR Tryz.prog F_caps_Caps_Holders #[.pointer (some ⟨p, 0, none⟩), .int .i64 k, .int .i64 i] w K := by
  apply R_caps_Caps_Holders_ok
  simp only [R_caps_Caps_Holders, spl_decide]
  refine ⟨fun n a l c t w' => ∃ (j : Nat) (G : List Nat), t = j ∧ j ≤ 12 ∧ n = 12 - j ∧ l = ((ups j).filter fun e => has8 s.L e k i 0).length ∧ SlB w' a l c 1 (i64s ((ups j).filter fun e => has8 s.L e k i 0)) G ∧ Beyond w.heap.size G ∧ Mod [] w w', ⟨12, 0, [], rfl, by omega, rfl, rfl, SlB.nil w 1, by simp [Beyond], Mod.refl _ _⟩, ?_⟩
  rintro n a l c t - w1 ⟨j, G, rfl, hj, rfl, rfl, hs, hG, hm⟩
  refine ⟨fun hlt => ?_, fun hge => ?_⟩
  · refine ⟨fun a l c w' => ∃ G, l = ((ups (j + 1)).filter fun e => has8 s.L e k i 0).length ∧ SlB w' a l c 1 (i64s ((ups (j + 1)).filter fun e => has8 s.L e k i 0)) G ∧ Beyond w.heap.size G ∧ Mod [] w w', ?_, ?_⟩
    · rintro a l c - w2 ⟨G2, rfl, z1, z2, z3⟩
      exact ⟨12 - (j + 1), by omega, j + 1, G2, by rw [w64 (by omega) (by omega)]; omega, by omega, rfl, rfl, z1, z2, z3⟩
    have eu : ups (j + 1) = ups j ++ [(j : Int)] := ups_succ j
    refine phas_run (h.keep (hm.at0 h.lt)) j k i 0 hi fun w2 m2 => ⟨_, rfl, spl_of (fun hh => ?_) (fun hh => ?_)⟩
    · have ef : (ups (j + 1)).filter (fun e => has8 s.L e k i 0) = (ups j).filter (fun e => has8 s.L e k i 0) ++ [(j : Int)] := by
        rw [eu, List.filter_append]
        simp [hh]
      rw [ef]
      have hs2 := hs.keep (m2.at0 hs.lt)
      have hm2 := hm.trans' m2
      rw [newK_eq]
      have hle : ((ups j).filter fun e => has8 s.L e k i 0).length ≤ 12 := by
        have := List.length_filter_le (fun e => has8 s.L e k i 0) (ups j)
        rw [show (ups j).length = j by simp [ups]] at this
        omega
      refine push_K (w0 := w) slT_int (by decide) hs2 hG hm2 (us := [.int .i64 j]) rfl (by simp [isCell]) (by omega) (by omega) fun A C w3 G3 z1 z2 z3 z4 z5 => ⟨_, _, _, rfl, G3, by simp, by simpa [i64s] using z1, z2, z3⟩
    · have ef : (ups (j + 1)).filter (fun e => has8 s.L e k i 0) = (ups j).filter (fun e => has8 s.L e k i 0) := by
        rw [eu, List.filter_append]
        simp [hh]
      rw [ef]
      exact ⟨G, rfl, hs.keep (m2.at0 hs.lt), hG, hm.trans' m2⟩
  · obtain rfl : j = 12 := by omega
    exact hK w1 a c G hs hG hm

end Go.Proofs

set_option linter.unusedSimpArgs false
namespace Go.Den
open Go

def pv (L : List CE) (ps : List (Option Nat)) (o : Int) : Option Addr := match L.find? fun d => d.no == o with
  | none => none
  | some d => ((ps[ckp d]?).getD none).map fun r => ⟨r, 0, none⟩
theorem parUp_pv (L : List CE) (ps : List (Option Nat)) (o : Int) : parUp L ps o = .pointer (pv L ps o) := by
  unfold parUp pv
  cases L.find? fun d => d.no == o with
  | none => rfl
  | some d => exact ptrTo_eq _
theorem parV_pv (L : List CE) (ps : List (Option Nat)) (c : CE) : parV L ps c = .pointer (pv L ps c.of_) := parUp_pv L ps c.of_

theorem pv_some {L : List CE} {ps : List (Option Nat)} {o : Int} {a : Addr} (h : pv L ps o = some a) : ∃ d r, d ∈ L ∧ d.no = o ∧ ps[ckp d]? = some (some r) ∧ a = ⟨r, 0, none⟩ := by
  unfold pv at h
  cases hf : L.find? fun d => d.no == o with
  | none => rw [hf] at h; cases h
  | some d =>
    rw [hf] at h
    simp only [Option.map_eq_some_iff] at h
    obtain ⟨r, h1, h2⟩ := h
    cases hp : ps[ckp d]? with
    | none => rw [hp] at h1; cases h1
    | some x =>
      rw [hp] at h1
      simp only [Option.getD_some] at h1
      subst h1
      exact ⟨d, r, List.mem_of_find?_eq_some hf, by simpa using List.find?_some hf, hp, h2.symm⟩
theorem pv_of {s : S8} (hw : W8 s) {ps : List (Option Nat)} {d : CE} (hd : d ∈ s.L) {r : Nat} (hr : ps[ckp d]? = some (some r)) : pv s.L ps d.no = some ⟨r, 0, none⟩ := by
  unfold pv
  cases hf : s.L.find? fun c => c.no == d.no with
  | none => exact absurd (List.find?_eq_none.1 hf d hd) (by simp)
  | some c =>
    have e1 := List.find?_some hf
    obtain rfl := no_same hw.no (List.mem_of_find?_eq_some hf) hd (by simpa using e1)
    simp only [hr]
    rfl

/-- The blocks while one goes: those behind 'j' are as they were. -/
def obD (L : List CE) (ps : List (Option Nat)) (g : CE) (j i : Nat) : Option (Array Value) :=
  if ckp g = i then none else (L.find? fun c => ckp c == i).map fun c => nodeC c (.pointer (if i < j ∧ c.of_ = g.no then pv L ps g.of_ else pv L ps c.of_))

theorem ob8_0 (L : List CE) (ps : List (Option Nat)) (g : CE) (i : Nat) : obD L ps g 0 i = if ckp g = i then none else ob8 L ps i := by
  unfold obD ob8
  simp only [Nat.not_lt_zero, false_and, if_false, ← parV_pv]
theorem pv_drop (L : List CE) (ps : List (Option Nat)) {g : CE} (hg : ∀ c ∈ L, ckp c = ckp g → c = g) {e sl : Int} (hW : without L e sl = L.filter fun c => ckp c != ckp g) {o : Int} (ho : o ≠ g.no) :
    pv ((without L e sl).map (reparent g)) (ps.set (ckp g) none) o = pv L ps o := by
  unfold pv
  rw [List.find?_map, hW, List.find?_filter]
  have e1 : (L.find? fun a => decide ((ckp a != ckp g) = true ∧ ((fun d : CE => d.no == o) ∘ reparent g) a = true)) = L.find? fun d => d.no == o := find_cong fun c hc => by
    simp only [Function.comp, (reparent_same g c).1]
    rw [Bool.eq_iff_iff]
    simp only [bne_iff_ne, ne_eq, beq_iff_eq, decide_eq_true_eq, and_iff_right_iff_imp]
    intro h1 h2
    rw [hg c hc h2] at h1
    exact ho h1.symm
  rw [e1]
  cases hf : L.find? fun d => d.no == o with
  | none => rfl
  | some d =>
    simp only [Option.map_some]
    have h1 : ckp (reparent g d) = ckp d := by unfold ckp; rw [(reparent_same g d).2.1, (reparent_same g d).2.2.1]
    rw [h1, List.getElem?_set, if_neg]
    intro hk
    have h2 := hg d (List.mem_of_find?_eq_some hf) hk.symm
    have h3 := List.find?_some hf
    rw [h2] at h3
    exact ho (by simpa using h3 : g.no = o).symm
theorem ob8_drop {s : S8} (hw : W8 s) (ps : List (Option Nat)) {g : CE} (hg : g ∈ s.L) {i : Nat} (hi : i < 780) :
    ob8 ((without s.L g.env g.slot).map (reparent g)) (ps.set (ckp g) none) i = obD s.L ps g 780 i := by
  have hW : without s.L g.env g.slot = s.L.filter fun c => ckp c != ckp g := by
    unfold without
    refine List.filter_congr fun c hc => ?_
    rw [Bool.eq_iff_iff]
    simp only [Bool.not_eq_true', bne_iff_ne, ne_eq]
    rw [← Bool.not_eq_true, isAt_iff]
    refine not_congr ⟨fun h => by unfold ckp; rw [h.1, h.2], fun h => ?_⟩
    rw [ckp_inj hw hc hg h]
    exact ⟨rfl, rfl⟩
  have hu : ∀ c ∈ s.L, ckp c = ckp g → c = g := fun c hc h => ckp_inj hw hc hg h
  have hgo : g.of_ ≠ g.no := by
    have h1 := (hw.in_ g hg).2.2.2.2.1
    rcases hw.up g hg with h | ⟨d, _, h, h2⟩ <;> omega
  unfold ob8 obD
  rw [List.find?_map]
  have e0 : ((fun c : CE => ckp c == i) ∘ reparent g) = fun c => ckp c == i := by
    funext c
    simp only [Function.comp, ckp, (reparent_same g c).2.1, (reparent_same g c).2.2.1]
  rw [e0, hW, List.find?_filter, ← hW]
  by_cases hk : ckp g = i
  · subst hk
    rw [if_pos rfl]
    have : (s.L.find? fun a => decide ((ckp a != ckp g) = true ∧ (ckp a == ckp g) = true)) = none := List.find?_eq_none.2 fun c _ => by simp
    rw [this]
    rfl
  · rw [if_neg hk]
    have e1 : (s.L.find? fun a => decide ((ckp a != ckp g) = true ∧ (ckp a == i) = true)) = s.L.find? fun c => ckp c == i := find_cong fun c hc => by
      rw [Bool.eq_iff_iff]
      simp only [bne_iff_ne, ne_eq, beq_iff_eq, decide_eq_true_eq, and_iff_right_iff_imp]
      intro h1 h2
      exact hk (h2.symm.trans h1)
    rw [e1]
    cases hf : s.L.find? fun c => ckp c == i with
    | none => rfl
    | some c =>
      simp only [Option.map_some, Option.some.injEq]
      rw [parV_pv]
      by_cases hp : c.of_ = g.no
      · have e2 : reparent g c = { c with of_ := g.of_ } := by unfold reparent; rw [if_pos hp]
        rw [e2, if_pos ⟨hi, hp⟩, pv_drop s.L ps hu hW hgo]
        rfl
      · have e2 : reparent g c = c := by unfold reparent; rw [if_neg hp]
        rw [e2, if_neg fun h => hp h.2, pv_drop s.L ps hu hW hp]

theorem each_K {p : Nat} {ps : List (Option Nat)} (hps : ps.length = 780) {St : Nat → World → Prop} (hrow : ∀ j w, St j w → ∃ T, w.heap[p]? = some (.cells (ps.map ptrTo ++ []).toArray T (0, 0)))
    {C : Option Addr → World → (Value → World → Prop) → Prop} (hC : ∀ j w q, j < 780 → ps[j]? = some (some q) → St j w → C (some ⟨q, 0, none⟩) w (fun v w' => v = .tuple #[] ∧ St (j + 1) w')) (hN : ∀ j w, j < 780 → ps[j]? = some none → St j w → St (j + 1) w)
    {w : World} {K : World → Prop} (h0 : St 0 w) (hK : ∀ w', St 780 w' → K w') :
    ∃ I5 : Nat → Int → World → Prop, (∃ n22, I5 n22 0 w) ∧ ∀ n6 : Nat, ∀ t4 : Int, ∀ (_ : Nat → Value) (w7 : World), I5 n6 t4 w7 → spl (decide (t4 < (12 : Int))) (nilK (some ⟨p, 0, none⟩) fun a9 => (0 ≤ t4 ∧ t4 < (12 : Int)) ∧ ((∃ x10 : Array Value, rowIs w7 (Addr.add a9 (t4.toNat * 65)) 65 x10 ∧ (∃ I12 : Nat → Int → World → Prop, (∃ n21, I12 n21 0 w7) ∧ ∀ n13 : Nat, ∀ t11 : Int, ∀ (_ : Nat → Value) (w14 : World), I12 n13 t11 w14 → spl (decide (t11 < (65 : Int))) (∃ J16 : World → Prop, (∀ (_ : Nat → Value) (w17 : World), J16 w17 → ∃ m15, m15 < n13 ∧ I12 m15 (IntKind.i64.wrap (t11 + (1 : Int))) w17) ∧ ((0 ≤ t11 ∧ t11 < (65 : Int)) ∧ (∃ x18 : Option Addr, x10[(t11 : Int).toNat]? = some (.pointer x18) ∧ (spl (!x18.isNone) (C x18 w14 fun v19 w20 => v19 = .tuple #[] ∧ (J16 w20)) (J16 w14))))) (∃ m8, m8 < n6 ∧ I5 m8 (IntKind.i64.wrap (t4 + (1 : Int))) w14))))) (K w7) := by
  refine ⟨fun n t w' => ∃ j : Nat, t = j ∧ j ≤ 12 ∧ n = 12 - j ∧ St (j * 65) w', ⟨12, 0, rfl, by omega, rfl, h0⟩, ?_⟩
  rintro n t - w1 ⟨j, rfl, hj, rfl, hS⟩
  rw [spl_decide]
  refine ⟨fun hlt => ?_, fun hge => ?_⟩
  · rw [nilK_some]
    refine ⟨⟨by omega, by omega⟩, ((ps.map ptrTo).drop (j * 65)).take 65 |>.toArray, ⟨by simp; omega, fun i hi => ?_⟩, ?_⟩
    · obtain ⟨T, hT⟩ := hrow _ _ hS
      rw [Int.toNat_natCast, addr_add, addr_add, cell_get hT, Nat.zero_add]
      simp [hi]
    · refine ⟨fun n t w' => ∃ i : Nat, t = i ∧ i ≤ 65 ∧ n = 65 - i ∧ St (j * 65 + i) w', ⟨65, 0, rfl, by omega, rfl, hS⟩, ?_⟩
      rintro n t - w2 ⟨i, rfl, hi, rfl, hS2⟩
      rw [spl_decide]
      refine ⟨fun hlt2 => ?_, fun hge2 => ⟨12 - (j + 1), by omega, j + 1, by rw [w64 (by omega) (by omega)]; omega, by omega, rfl, ?_⟩⟩
      · have hb : j * 65 + i < 780 := by omega
        refine ⟨fun w' => St (j * 65 + i + 1) w', fun _ w' hw' => ⟨65 - (i + 1), by omega, i + 1, by rw [w64 (by omega) (by omega)]; omega, by omega, rfl, hw'⟩, ⟨by omega, by omega⟩, ?_⟩
        obtain ⟨o, ho⟩ : ∃ o, ps[j * 65 + i]? = some o := ⟨_, List.getElem?_eq_getElem (by omega)⟩
        refine ⟨o.map fun r => ⟨r, 0, none⟩, ?_, ?_⟩
        · rw [← ptrTo_eq]
          simp [ho, show i < 65 by omega]
        · cases o with
          | none => exact spl_f rfl (hN _ _ hb ho hS2)
          | some q => exact spl_t rfl (hC _ _ q hb ho hS2)
      · obtain rfl : i = 65 := by omega
        rw [show (j + 1) * 65 = j * 65 + 65 by omega]
        exact hS2
  · obtain rfl : j = 12 := by omega
    exact hK w1 hS

end Go.Den
namespace Go.Proofs
open Go Go.Den

theorem pdrop1_run {c g : CE} (mc : May8 c.x) (mg : May8 g.x) {w : World} {q q0 b7 b13 : Nat} {T T0 T7 T13 : TypeId} {x xg : Option Addr} {last : Bool} (hq : w.heap[q]? = some (.cells (nodeC c (.pointer x)) T (0, 0))) (hq0 : w.heap[q0]? = some (.cells (nodeC g (.pointer xg)) T0 (0, 0)))
    (h7 : w.heap[b7]? = some (.cells #[.pointer (some ⟨q0, 0, none⟩)] T7 (0, 0))) (h13 : w.heap[b13]? = some (.cells #[.bool last] T13 (0, 0))) (n1 : q ≠ q0) (n2 : q ≠ b7) (n3 : q ≠ b13) (hpe : ∀ a, x = some a → a.block = q0 ∨ ∃ cs T, w.heap[a.block]? = some (.cells cs T (0, 0)))
    {K : Value → World → Prop} (hK : ∀ w', Mod [q, b13] w w' → w'.heap[q]? = some (.cells (nodeC c (.pointer (if x = some ⟨q0, 0, none⟩ then xg else x))) T (0, 0)) → w'.heap[b13]? = some (.cells #[.bool (last && !meet8 c.x g.x)] T13 (0, 0)) → K (.tuple #[]) w') :
    CallsR Tryz.prog F_caps_Caps_Drop_1 #[.pointer (some ⟨q, 0, none⟩), .pointer (some ⟨b7, 0, none⟩), .pointer (some ⟨b13, 0, none⟩)] w K := by
  apply R_caps_Caps_Drop_1_ok
  simp only [R_caps_Caps_Drop_1, nilK_some, addr_add, Nat.zero_add]
  refine ⟨fun w' => Mod [q] w w' ∧ w'.heap[q]? = some (.cells (nodeC c (.pointer (if x = some ⟨q0, 0, none⟩ then xg else x))) T (0, 0)), ?_, ?_⟩
  · rintro - w1 ⟨m1, g1⟩
    rw [drK_eq]
    have m2 := m1.drew
    have g1 : w1.drew.heap[q]? = some (.cells (nodeC c (.pointer (if x = some ⟨q0, 0, none⟩ then xg else x))) T (0, 0)) := g1
    generalize w1.drew = w2 at m2 g1 ⊢
    have k13 := m2.get h13 (by simp [Ne.symm n3])
    have k7 := m2.get h7 (by simp [Ne.symm n2])
    have k0 := m2.get hq0 (by simp [Ne.symm n1])
    refine ⟨last, by rw [cell_get k13]; rfl, spl_of (fun hl => ?_) (fun hl => ?_)⟩
    · refine ⟨c.x.k, c.x.i, c.x.n, c.x.r, ⟨by rw [cell_get g1]; rfl, by rw [cell_get g1]; rfl, by rw [cell_get g1]; rfl, by rw [cell_get g1]; rfl⟩, some ⟨q0, 0, none⟩, by rw [cell_get k7]; rfl, ?_⟩
      simp only [nilK_some, addr_add, Nat.zero_add]
      refine ⟨g.x.k, g.x.i, g.x.n, g.x.r, ⟨by rw [cell_get k0]; rfl, by rw [cell_get k0]; rfl, by rw [cell_get k0]; rfl, by rw [cell_get k0]; rfl⟩, ?_⟩
      refine pmeet_run mc mg fun w3 m3 => ⟨_, rfl, ?_⟩
      have k13' := m3.get k13 (by simp)
      have g1' := m3.get g1 (by simp)
      refine stK_of k13' (by simp) ?_
      refine hK _ ((((m2.mono (by simp)).trans' (m3.of0 (S := [q, b13])))).upd (.inl (by simp)) _) ((upd_ne _ n3.symm).trans g1') ?_
      rw [upd_same k13', hl]
      simp [splice_cons, splice_nil]
    · refine stK_of k13 (by simp) ?_
      refine hK _ ((m2.mono (by simp)).upd (.inl (by simp)) _) ((upd_ne _ n3.symm).trans g1) ?_
      rw [upd_same k13, hl]
      simp [splice_cons, splice_nil]
  · rw [drK_eq]
    have m2 : Mod [q] w w.drew := (Mod.refl [q] w).drew
    have hq : w.drew.heap[q]? = some (.cells (nodeC c (.pointer x)) T (0, 0)) := hq
    have hq0 : w.drew.heap[q0]? = some (.cells (nodeC g (.pointer xg)) T0 (0, 0)) := hq0
    have h7 : w.drew.heap[b7]? = some (.cells #[.pointer (some ⟨q0, 0, none⟩)] T7 (0, 0)) := h7
    have hpe : ∀ a, x = some a → a.block = q0 ∨ ∃ cs T, w.drew.heap[a.block]? = some (.cells cs T (0, 0)) := hpe
    generalize w.drew = w2 at m2 hq hq0 h7 hpe ⊢
    refine ⟨x, by rw [cell_get hq]; rfl, some ⟨q0, 0, none⟩, by rw [cell_get h7]; rfl, by decide +kernel, ?_, spl_of (fun he => ?_) (fun he => ?_)⟩
    · unfold peqOK
      cases x with
      | none => trivial
      | some a =>
        rcases hpe a rfl with h | h
        · exact .inl h
        · exact .inr ⟨h, _, _, hq0⟩
    · have he : x = some ⟨q0, 0, none⟩ := by simpa using he
      refine ⟨some ⟨q0, 0, none⟩, by rw [cell_get h7]; rfl, ?_⟩
      simp only [nilK_some, addr_add, Nat.zero_add]
      refine ⟨xg, by rw [cell_get hq0]; rfl, stK_of hq (by simp [nodeC]) ?_⟩
      refine ⟨m2.upd (.inl (by simp)) _, ?_⟩
      rw [upd_same hq, if_pos he]
      rfl
    · have he : x ≠ some ⟨q0, 0, none⟩ := by simpa using he
      rw [if_neg he]
      exact ⟨m2, hq⟩

/-- Do all that lie ahead of place 'j' and are left meet none of it? -/
def lastJ (L : List CE) (g : CE) (j : Nat) : Bool := L.all fun c => decide (ckp c = ckp g) || decide (j ≤ ckp c) || !meet8 c.x g.x
theorem lastJ_0 (L : List CE) (g : CE) : lastJ L g 0 = true := by simp [lastJ]
theorem lastJ_succ {s : S8} (hw : W8 s) {g c : CE} (hc : c ∈ s.L) (hne : ckp c ≠ ckp g) : lastJ s.L g (ckp c + 1) = (lastJ s.L g (ckp c) && !meet8 c.x g.x) := by
  rw [Bool.eq_iff_iff]
  simp only [lastJ, Bool.and_eq_true, List.all_eq_true, Bool.or_eq_true, decide_eq_true_eq]
  constructor
  · intro h
    refine ⟨fun d hd => ?_, ?_⟩
    · rcases h d hd with (h1 | h1) | h1
      · exact .inl (.inl h1)
      · exact .inl (.inr (by omega))
      · exact .inr h1
    · rcases h c hc with (h1 | h1) | h1
      · exact absurd h1 hne
      · omega
      · exact h1
  · rintro ⟨h1, h2⟩ d hd
    rcases h1 d hd with (h3 | h3) | h3
    · exact .inl (.inl h3)
    · by_cases hdc : ckp d = ckp c
      · rw [ckp_inj hw hd hc hdc]; exact .inr h2
      · exact .inl (.inr (by omega))
    · exact .inr h3
theorem lastJ_skip {L : List CE} {g : CE} {j : Nat} (h : ∀ c ∈ L, ckp c = j → ckp c = ckp g) : lastJ L g (j + 1) = lastJ L g j := by
  rw [Bool.eq_iff_iff]
  simp only [lastJ, List.all_eq_true, Bool.or_eq_true, decide_eq_true_eq]
  constructor
  · intro h1 d hd
    rcases h1 d hd with (h3 | h3) | h3
    · exact .inl (.inl h3)
    · exact .inl (.inr (by omega))
    · exact .inr h3
  · intro h1 d hd
    rcases h1 d hd with (h3 | h3) | h3
    · exact .inl (.inl h3)
    · by_cases hdj : ckp d = j
      · exact .inl (.inl (h d hd hdj))
      · exact .inl (.inr (by omega))
    · exact .inr h3
theorem lastJ_end {s : S8} (hw : W8 s) {g : CE} (hg : g ∈ s.L) : lastJ s.L g 780 = (without s.L g.env g.slot).all fun c => !meet8 c.x g.x := by
  rw [Bool.eq_iff_iff]
  simp only [lastJ, List.all_eq_true, Bool.or_eq_true, decide_eq_true_eq]
  constructor
  · intro h c hc
    obtain ⟨h1, h2⟩ := mem_without.1 hc
    rcases h c h1 with (h3 | h3) | h3
    · rw [ckp_inj hw h1 hg h3] at h2; exact absurd ⟨rfl, rfl⟩ h2
    · have := ckp_lt hw h1; omega
    · exact h3
  · intro h c hc
    by_cases hk : ckp c = ckp g
    · exact .inl (.inl hk)
    · exact .inr (h c (mem_without.2 ⟨hc, fun z => hk (by unfold ckp; rw [z.1, z.2])⟩))

set_option maxHeartbeats 1000000 in
theorem pdrop_run {w : World} {p : Nat} {s : S8} {F : List Nat} (h : CP w p s F) (e sl : Int) {K : Value → World → Prop} (hK : ∀ w' F', CP w' p (dropS8 s e sl) F' → Mod F w w' → Own w F F' → K (.tuple #[.bool (dropV8 s e sl).1, .int .i64 (dropV8 s e sl).2]) w') :
    CallsR Tryz.prog F_caps_Caps_Drop #[.pointer (some ⟨p, 0, none⟩), .int .i64 e, .int .i64 sl] w K := by
  apply R_caps_Caps_Drop_ok
  simp only [R_caps_Caps_Drop, Option.isNone_some, spl_false, nilK_some, addr_add, Nat.zero_add]
  have h0 := h
  obtain ⟨hw, ps, h1, hl⟩ := h
  refine pat_run h1 hl hw e sl (fun hn => ⟨_, rfl, ?_⟩) (fun g q0 hlk hq => ⟨_, rfl, ?_⟩)
  · refine (Sep.nil (Mod.refl [] w)).new fun b w1 s1 m1 hb => s1.st0 0 rfl rfl fun w2 s2 m2 => ⟨_, s2.cell 0 rfl rfl, spl_t rfl ?_⟩
    have := hK w2 F (by unfold dropS8; rw [hn]; exact h0.keep (s2.mod.at0 h0.lt)) s2.mod.of0 (Own.refl _ _)
    rwa [dropV8, hn] at this
  obtain ⟨hm, rfl, rfl⟩ := look8_some hlk
  obtain ⟨a1, a2, a3, mg, -⟩ := hw.in_ g hm
  refine (Sep.nil (Mod.refl [] w)).new fun b7 w1 s1 m1 hb7 => s1.st0 0 rfl rfl fun w2 s2 m2 => ⟨_, s2.cell 0 rfl rfl, spl_f rfl ⟨⟨a1.1, a1.2⟩, ⟨by omega, by omega⟩, ?_⟩⟩
  have h2 := h1.keep (s2.mod.at0 h1.lt)
  have hkl : ckp g < ps.length := by have := ckp_lt hw hm; omega
  obtain ⟨T, hrow⟩ := h2.row
  refine stK_of hrow (by unfold ckp kp at hkl; simp; omega) ?_
  simp only [splice_cons, splice_nil]
  have er := ptrs_set ps [] hkl none
  obtain ⟨q0', T0, e1, hq0⟩ := h2.has hl hw hm
  rw [hq] at e1
  obtain rfl : q0 = q0' := Option.some.inj (Option.some.inj e1)
  have hb7lt : ∀ z ∈ F, z ≠ b7 := fun z hz hh => by have := h1.lt z hz; omega
  have hq0F : q0 ∈ F := h2.mem hq
  have hpq0 : p ≠ q0 := fun hh => h2.np _ (hh ▸ hq)
  obtain ⟨F1, hF1, hFF, hq0F1⟩ := h2.del (k := ckp g) (w' := w2.upd p (.cells ((ps.map ptrTo ++ []).toArray.setIfInBounds (ckp g) (ptrTo none)) T (0, 0))) (T := T) (by rw [er]; exact upd_same hrow) (fun z _ hz => upd_ne _ (Ne.symm hz))
  have hq0F1 := hq0F1 q0 hq
  have hqg := hq
  have hpF : p ∈ F := h2.pmem
  have k0 : (w2.upd p (.cells ((ps.map ptrTo ++ []).toArray.setIfInBounds (ckp g) (ptrTo none)) T (0, 0))).heap[q0]? = some (.cells (nodeC g (parV s.L ps g)) T0 (0, 0)) := (upd_ne _ hpq0).trans hq0
  have k7 : (w2.upd p (.cells ((ps.map ptrTo ++ []).toArray.setIfInBounds (ckp g) (ptrTo none)) T (0, 0))).heap[b7]? = some _ := (upd_ne _ (hb7lt p hpF)).trans (s2.nth 0 rfl)
  have m3 : Mod F w (w2.upd p (.cells ((ps.map ptrTo ++ []).toArray.setIfInBounds (ckp g) (ptrTo none)) T (0, 0))) := s2.mod.of0.upd (.inl hpF) _
  have hsz3 : (w2.upd p (.cells ((ps.map ptrTo ++ []).toArray.setIfInBounds (ckp g) (ptrTo none)) T (0, 0))).heap.size = w2.heap.size := upd_size _ _ _
  show newK (w2.upd p (.cells ((ps.map ptrTo ++ []).toArray.setIfInBounds (ckp g) (ptrTo none)) T (0, 0))) _ _
  generalize w2.upd p _ = w3 at hF1 k0 k7 m3 hsz3 ⊢
  refine (Sep.nil (Mod.refl [] w3)).new fun b13 w4 s4 m4 hb13 => s4.st0 0 rfl rfl fun w5 s5 m5 => ?_
  have hsz2 := s2.mod.size
  have k0 := s5.mod.get k0 (by simp)
  have k7 := s5.mod.get k7 (by simp)
  have hF1 := hF1.keep (s5.mod.at0 hF1.lt)
  have m5' : Mod F w w5 := m3.trans' s5.mod.of0
  have k13 : w5.heap[b13]? = some _ := s5.nth 0 rfl
  have hb13F : ∀ z ∈ F, z ≠ b13 := fun z hz hh => by have := h1.lt z hz; omega
  have hb713 : b7 ≠ b13 := by have := lt_of_get (show w2.heap[b7]? = some _ from s2.nth 0 rfl); omega
  rw [parV_pv] at k0
  apply R_caps_Caps_each_Drop_ok
  unfold R_caps_Caps_each_Drop
  refine each_K (C := fun x w K => CallsR Tryz.prog F_caps_Caps_Drop_1 #[.pointer x, .pointer (some ⟨b7, 0, none⟩), .pointer (some ⟨b13, 0, none⟩)] w K) (ps := ps.set (ckp g) none) (by simpa using hl)
    (St := fun j w' => PT w' p (ps.set (ckp g) none) (obD s.L ps g j) [] F1 ∧ w'.heap[b13]? = some (.cells #[.bool (lastJ s.L g j)] _ (0, 0)) ∧ Mod (b13 :: F1) w5 w') (fun j w' hS => hS.1.row) ?_ ?_ ⟨hF1.say fun i _ => ?_, by rw [lastJ_0]; exact k13, Mod.refl _ _⟩ ?_
  · rintro j w6 q hj hq ⟨z1, z2, z3⟩
    obtain ⟨arr, Tq, g1, g2⟩ := z1.at_ j q hq
    have hqF1 := z1.mem hq
    unfold obD at g1
    by_cases hgj : ckp g = j
    · rw [if_pos hgj] at g1; cases g1
    rw [if_neg hgj] at g1
    cases hf : s.L.find? fun c => ckp c == j with
    | none => rw [hf] at g1; cases g1
    | some c =>
      rw [hf] at g1
      obtain rfl := Option.some.inj g1
      have hc := List.mem_of_find?_eq_some hf
      have hcj : ckp c = j := by simpa using List.find?_some hf
      simp only [Nat.lt_irrefl, false_and, if_false] at g2
      have kk0 := z3.get k0 (by simp only [List.mem_cons, not_or]; exact ⟨hb13F q0 hq0F, hq0F1⟩)
      have kk7 := z3.get k7 (by simp only [List.mem_cons, not_or]; exact ⟨hb713, fun hh => hb7lt b7 (hFF _ hh) rfl⟩)
      have hqF := hFF q hqF1
      have key : pv s.L ps c.of_ = some ⟨q0, 0, none⟩ ↔ c.of_ = g.no := by
        constructor
        · intro hh
          obtain ⟨d, r, d1, d2, d3, d4⟩ := pv_some hh
          obtain rfl : q0 = r := by simpa using congrArg Addr.block d4
          have := h1.inj _ _ _ hqg d3
          rw [← d2, ckp_inj hw hm d1 this]
        · intro hh
          rw [hh]
          exact pv_of hw hm hqg
      refine pdrop1_run (hw.in_ c hc).2.2.2.1 mg g2 kk0 kk7 z2 (fun hh => hq0F1 (hh ▸ hqF1)) (hb7lt q hqF) (hb13F q hqF) (fun a ha => ?_) fun w7 m7 y1 y2 => ⟨rfl, ?_, ?_, ?_⟩
      · obtain ⟨d, r, d1, d2, d3, rfl⟩ := pv_some ha
        by_cases hdg : ckp g = ckp d
        · rw [ckp_inj hw d1 hm hdg.symm] at d3
          left
          have := d3.symm.trans hqg
          exact Option.some.inj (Option.some.inj this)
        · right
          obtain ⟨arr, Tr, u1, u2⟩ := z1.at_ (ckp d) r (by rw [List.getElem?_set, if_neg hdg]; exact d3)
          exact ⟨arr, Tr, u2⟩
      · refine (z1.mod1 hq y1 fun z hz hne => m7.keep z (z1.lt z hz) ?_).say fun i hi => ?_
        · simp only [List.mem_cons, List.not_mem_nil, or_false, not_or]
          exact ⟨hne, hb13F z (hFF z hz)⟩
        · unfold obD
          by_cases hji : j = i
          · subst hji
            rw [if_pos rfl, if_neg hgj, hf]
            simp only [Option.map_some, key, Nat.lt_succ_self, true_and]
          · rw [if_neg hji]
            by_cases hgi : ckp g = i
            · rw [if_pos hgi, if_pos hgi]
            · rw [if_neg hgi, if_neg hgi]
              have : (i < j + 1) ↔ (i < j) := by omega
              simp only [this]
      · rw [y2, ← hcj, lastJ_succ hw hc (by omega)]
      · refine z3.trans m7 fun z hz _ => ?_
        simp only [List.mem_cons, List.not_mem_nil, or_false] at hz
        rcases hz with rfl | rfl
        · exact List.mem_cons_of_mem _ hqF1
        · simp
  · rintro j w6 hj hnone ⟨z1, z2, z3⟩
    have hno : ∀ c ∈ s.L, ckp c = j → ckp c = ckp g := fun c hc hcj => by
      by_cases hgj : ckp g = j
      · omega
      · have := z1.no j hnone
        unfold obD at this
        rw [if_neg hgj, ← hcj, find_ckp hw hc] at this
        cases this
    refine ⟨z1.say fun i hi => ?_, by rw [lastJ_skip hno]; exact z2, z3⟩
    unfold obD
    by_cases hgi : ckp g = i
    · rw [if_pos hgi, if_pos hgi]
    · rw [if_neg hgi, if_neg hgi]
      by_cases hji : i = j
      · subst hji
        cases hf : s.L.find? fun c => ckp c == i with
        | none => rfl
        | some c =>
          have hcj : ckp c = i := by simpa using List.find?_some hf
          have := hno c (List.mem_of_find?_eq_some hf) hcj
          omega
      · have : (i < j + 1) ↔ (i < j) := by omega
        simp only [this]
  · rw [ob8_0]
  · rintro w6 ⟨z1, z2, z3⟩
    refine ⟨rfl, _, by rw [cell_get z2]; rfl, ?_⟩
    have hS : dropS8 s g.env g.slot = ⟨(without s.L g.env g.slot).map (reparent g), s.last⟩ := by unfold dropS8; rw [hlk]
    have hV : dropV8 s g.env g.slot = ((without s.L g.env g.slot).all fun c => !meet8 c.x g.x, 0) := by unfold dropV8; rw [hlk]
    have hWd := hw.drop g.env g.slot
    rw [hS] at hK hWd
    rw [hV, ← lastJ_end hw hm] at hK
    refine hK w6 F1 ⟨hWd, _, z1.say fun i hi => ?_, by simpa using hl⟩ (m5'.trans z3 fun z hz hlt => ?_) (fun z hz => .inl (hFF z hz))
    · rw [List.length_set, hl] at hi
      exact ob8_drop hw ps hm hi
    · rcases List.mem_cons.1 hz with rfl | hz
      · omega
      · exact hFF z hz

end Go.Proofs

set_option linter.unusedSimpArgs false
namespace Go.Den
open Go

/-- Those ahead of place 'j' that were made of 'g'. -/
def badL (L : List CE) (g : CE) : Nat → List CE
  | 0 => []
  | j + 1 => badL L g j ++ ((L.find? fun c => ckp c == j).toList.filter fun c => isUnder L g.no c)

theorem badL_mem {s : S8} (hw : W8 s) (g : CE) {c : CE} : ∀ {j : Nat}, c ∈ badL s.L g j ↔ c ∈ s.L ∧ ckp c < j ∧ isUnder s.L g.no c = true
  | 0 => by simp [badL]
  | j + 1 => by
    unfold badL
    rw [List.mem_append, badL_mem hw g, List.mem_filter, Option.mem_toList]
    constructor
    · rintro (⟨h1, h2, h3⟩ | ⟨h1, h2⟩)
      · exact ⟨h1, by omega, h3⟩
      · have e : ckp c = j := by simpa using List.find?_some h1
        exact ⟨List.mem_of_find?_eq_some h1, by omega, h2⟩
    · rintro ⟨h1, h2, h3⟩
      by_cases e : ckp c = j
      · exact .inr ⟨e ▸ find_ckp hw h1, h3⟩
      · exact .inl ⟨h1, by omega, h3⟩
theorem badL_nodup {s : S8} (hw : W8 s) (g : CE) : ∀ j : Nat, (badL s.L g j).Nodup
  | 0 => by simp [badL]
  | j + 1 => by
    unfold badL
    refine List.nodup_append.2 ⟨badL_nodup hw g j, ?_, fun a ha b hb hab => ?_⟩
    · refine List.Pairwise.filter _ ?_
      cases s.L.find? fun c => ckp c == j <;> simp
    · subst hab
      have h1 := (badL_mem hw g).1 ha
      rw [List.mem_filter, Option.mem_toList] at hb
      have e : ckp a = j := by simpa using List.find?_some hb.1
      omega
theorem badL_len {s : S8} (hw : W8 s) (g : CE) : (badL s.L g 780).length = (s.L.filter fun c => isUnder s.L g.no c).length := by
  refine List.Perm.length_eq ((List.perm_ext_iff_of_nodup (badL_nodup hw g 780) (List.Pairwise.filter _ ?_)).2 fun c => ?_)
  · exact List.Pairwise.imp (fun {a b} (h : a.no < b.no) (e : a = b) => by rw [e] at h; omega) hw.no
  · rw [badL_mem hw g, List.mem_filter]
    exact ⟨fun h => ⟨h.1, h.2.2⟩, fun h => ⟨h.1, ckp_lt hw h.1, h.2⟩⟩
theorem badL_le (L : List CE) (g : CE) : ∀ j : Nat, (badL L g j).length ≤ j
  | 0 => by simp [badL]
  | j + 1 => by
    unfold badL
    rw [List.length_append]
    have h1 := badL_le L g j
    have h2 := List.length_filter_le (fun c => isUnder L g.no c) (L.find? fun c => ckp c == j).toList
    have h3 : (L.find? fun c => ckp c == j).toList.length ≤ 1 := by cases L.find? fun c => ckp c == j <;> simp
    omega

def psD (ps : List (Option Nat)) (cs : List CE) : List (Option Nat) := cs.foldl (fun ps c => ps.set (ckp c) none) ps
theorem psD_len (ps : List (Option Nat)) (cs : List CE) : (psD ps cs).length = ps.length := by
  induction cs generalizing ps with
  | nil => rfl
  | cons c cs ih => exact (ih _).trans (by simp)
theorem psD_snoc (ps : List (Option Nat)) (cs : List CE) (c : CE) : psD ps (cs ++ [c]) = (psD ps cs).set (ckp c) none := by simp [psD]
theorem psD_get (ps : List (Option Nat)) : ∀ (cs : List CE) {i : Nat}, (∀ c ∈ cs, ckp c ≠ i) → (psD ps cs)[i]? = ps[i]?
  | [], _, _ => rfl
  | c :: cs, i, h => by
    have := psD_get (ps.set (ckp c) none) cs (i := i) fun d hd => h d (by simp [hd])
    refine this.trans ?_
    rw [List.getElem?_set, if_neg (h c (by simp))]
def obR (L : List CE) (ps : List (Option Nat)) (cs : List CE) (i : Nat) : Option (Array Value) := if cs.any fun c => ckp c == i then none else ob8 L ps i

theorem pv_none {w : World} {p : Nat} {s : S8} {ps : List (Option Nat)} {F : List Nat} (h : PT w p ps (ob8 s.L ps) [] F) (hl : ps.length = 780) (hw : W8 s) {o : Int} (hn : pv s.L ps o = none) : (s.L.find? fun d => d.no == o) = none := by
  cases hf : s.L.find? fun d => d.no == o with
  | none => rfl
  | some d =>
    obtain ⟨q, T, h1, -⟩ := h.has hl hw (List.mem_of_find?_eq_some hf)
    unfold pv at hn
    rw [hf] at hn
    simp only [h1] at hn
    cases hn
theorem pv_revoke {s : S8} (hw : W8 s) {ps : List (Option Nat)} {g c : CE} (hc : c ∈ s.L) (hu : isUnder s.L g.no c = false) :
    pv (s.L.filter fun c => !isUnder s.L g.no c) (psD ps (badL s.L g 780)) c.of_ = pv s.L ps c.of_ := by
  unfold pv
  rw [List.find?_filter]
  have key : ∀ d ∈ s.L, d.no = c.of_ → isUnder s.L g.no d = false := fun d hd he => by
    cases hh : isUnder s.L g.no d with
    | false => rfl
    | true =>
      have := (isUnder_iff hw hc).2 (.step hd he ((isUnder_iff hw hd).1 hh))
      rw [this] at hu
      cases hu
  have e1 : (s.L.find? fun a => decide ((!isUnder s.L g.no a) = true ∧ (a.no == c.of_) = true)) = s.L.find? fun d => d.no == c.of_ := find_cong fun d hd => by
    rw [Bool.eq_iff_iff]
    simp only [beq_iff_eq, decide_eq_true_eq, Bool.not_eq_true', and_iff_right_iff_imp]
    exact key d hd
  rw [e1]
  cases hf : s.L.find? fun d => d.no == c.of_ with
  | none => rfl
  | some d =>
    have hd := List.mem_of_find?_eq_some hf
    have hn : d.no = c.of_ := by simpa using List.find?_some hf
    simp only
    rw [psD_get]
    intro b hb hk
    obtain ⟨h1, h2, h3⟩ := (badL_mem hw g).1 hb
    rw [ckp_inj hw h1 hd hk, key d hd hn] at h3
    cases h3
theorem ob8_revoke {s : S8} (hw : W8 s) (ps : List (Option Nat)) (g : CE) {i : Nat} (hi : i < 780) :
    ob8 (s.L.filter fun c => !isUnder s.L g.no c) (psD ps (badL s.L g 780)) i = obR s.L ps (badL s.L g 780) i := by
  unfold obR
  cases hb : (badL s.L g 780).any fun c => ckp c == i with
  | true =>
    obtain ⟨b, h1, h2⟩ := List.any_eq_true.1 hb
    obtain ⟨h3, h4, h5⟩ := (badL_mem hw g).1 h1
    have h2 : ckp b = i := by simpa using h2
    rw [if_pos rfl]
    unfold ob8
    rw [List.find?_filter]
    have : (s.L.find? fun a => decide ((!isUnder s.L g.no a) = true ∧ (ckp a == i) = true)) = none := List.find?_eq_none.2 fun c hc => by
      simp only [beq_iff_eq, decide_eq_true_eq, Bool.not_eq_true', not_and]
      intro h6 h7
      rw [ckp_inj hw hc h3 (h7.trans h2.symm), h5] at h6
      cases h6
    rw [this]
    rfl
  | false =>
    rw [if_neg (by simp)]
    have hb := List.any_eq_false.1 hb
    unfold ob8
    rw [List.find?_filter]
    have key : ∀ c ∈ s.L, ckp c = i → isUnder s.L g.no c = false := fun c hc hk => by
      cases hh : isUnder s.L g.no c with
      | false => rfl
      | true => exact absurd (by simpa using hk) (hb c ((badL_mem hw g).2 ⟨hc, by omega, hh⟩))
    have e1 : (s.L.find? fun a => decide ((!isUnder s.L g.no a) = true ∧ (ckp a == i) = true)) = s.L.find? fun c => ckp c == i := find_cong fun c hc => by
      rw [Bool.eq_iff_iff]
      simp only [beq_iff_eq, decide_eq_true_eq, Bool.not_eq_true', and_iff_right_iff_imp]
      exact key c hc
    rw [e1]
    cases hf : s.L.find? fun c => ckp c == i with
    | none => rfl
    | some c =>
      have hc := List.mem_of_find?_eq_some hf
      simp only [Option.map_some, Option.some.injEq]
      rw [parV_pv, parV_pv, pv_revoke hw hc (key c hc (by simpa using List.find?_some hf))]

def badV (ps : List (Option Nat)) (cs : List CE) : List Value := cs.map fun c => ptrTo ((ps[ckp c]?).getD none)

end Go.Den
namespace Go.Proofs
open Go Go.Den

theorem prev1_run {w0 w : World} {p : Nat} {s : S8} {ps : List (Option Nat)} {F : List Nat} (h0 : PT w0 p ps (ob8 s.L ps) [] F) (hl : ps.length = 780) (hw : W8 s) {c g : CE} (hc : c ∈ s.L) (hg : g ∈ s.L) {q q0 : Nat} (hq : ps[ckp c]? = some (some q)) (hq0 : ps[ckp g]? = some (some q0))
    {b7 b11 : Nat} {T7 T11 : TypeId} {A : Option Addr} {l C : Nat} {vs : List Value} {G : List Nat} (hs : Sep w0 w [blk b11 (.cells #[.slice A l C] T11 (0, 0)), sl A l C 1 vs G, blk b7 (.cells #[.pointer (some ⟨q0, 0, none⟩)] T7 (0, 0))]) (hll : l ≤ 1000)
    {K : Value → World → Prop} (hK0 : isUnder s.L g.no c = false → K (.tuple #[]) w)
    (hK1 : isUnder s.L g.no c = true → ∀ w' A' C' G', Sep w0 w' [blk b11 (.cells #[.slice A' (l + 1) C'] T11 (0, 0)), sl A' (l + 1) C' 1 (vs ++ [.pointer (some ⟨q, 0, none⟩)]) G', blk b7 (.cells #[.pointer (some ⟨q0, 0, none⟩)] T7 (0, 0))] → K (.tuple #[]) w') :
    CallsR Tryz.prog F_caps_Caps_Revoke_1 #[.pointer (some ⟨q, 0, none⟩), .pointer (some ⟨b7, 0, none⟩), .pointer (some ⟨b11, 0, none⟩)] w K := by
  apply R_caps_Caps_Revoke_1_ok
  simp only [R_caps_Caps_Revoke_1, nilK_some, addr_add, Nat.zero_add]
  have h := h0.keep (hs.mod.at0 h0.lt)
  have cell6 : ∀ {d : CE} {r : Nat}, d ∈ s.L → ps[ckp d]? = some (some r) → w.cell? ⟨r, 6, none⟩ = some (.pointer (pv s.L ps d.of_)) := fun {d r} hd hr => by
    obtain ⟨r', T, e1, e2⟩ := h.has hl hw hd
    rw [hr] at e1
    obtain rfl : r = r' := Option.some.inj (Option.some.inj e1)
    rw [cell_get e2, parV_pv]
    rfl
  refine ⟨_, cell6 hc hq, fun n up w' => w' = w ∧ ∃ cur, cur ∈ s.L ∧ up = pv s.L ps cur.of_ ∧ n = cur.no.toNat ∧ isUnder s.L g.no c = isUnder s.L g.no cur, ⟨_, rfl, c, hc, rfl, rfl, rfl⟩, ?_⟩
  rintro n up - w' ⟨rfl, cur, hcur, rfl, rfl, hiu⟩
  refine spl_of (fun hsome => ?_) (fun hnone => ?_)
  · cases hup : pv s.L ps cur.of_ with
    | none => rw [hup] at hsome; cases hsome
    | some a =>
      obtain ⟨d, r, d1, d2, d3, rfl⟩ := pv_some hup
      obtain ⟨r', Td, e1, e2⟩ := h.has hl hw d1
      obtain ⟨r0', Tg, e3, e4⟩ := h.has hl hw hg
      rw [d3] at e1
      obtain rfl : r = r' := Option.some.inj (Option.some.inj e1)
      rw [hq0] at e3
      obtain rfl : q0 = r0' := Option.some.inj (Option.some.inj e3)
      refine ⟨_, hs.cell 2 rfl rfl, by decide +kernel, .inr ⟨⟨_, _, e2⟩, ⟨_, _, e4⟩⟩, spl_of (fun he => ?_) (fun he => ?_)⟩
      · have he : r = q0 := by
          have : (some (⟨r, 0, none⟩ : Addr)) = some ⟨q0, 0, none⟩ := by simpa using he
          exact congrArg Addr.block (Option.some.inj this)
        subst he
        have hdg : d = g := ckp_inj hw d1 hg (h.inj _ _ _ d3 hq0)
        have ht : isUnder s.L g.no c = true := by
          rw [hiu]
          exact (isUnder_iff hw hcur).2 (.here d1 d2 (by rw [hdg]))
        refine ⟨A, l, C, hs.cell 0 rfl rfl, ?_⟩
        rw [newK_eq]
        refine push_K (w0 := w0) slT_P_caps_node (by decide) (hs.nth 1 rfl) (hs.bey 1 rfl) hs.mod (us := [.pointer (some ⟨q, 0, none⟩)]) rfl (by simp [isCell]) (by omega) (by omega) fun A' C' w1 G' z1 z2 z3 z4 z5 => ⟨_, _, _, rfl, ?_⟩
        have s1 := hs.step (w' := w1) 1 rfl (sl A' (l + 1) C' 1 (vs ++ [Value.pointer (some ⟨q, 0, none⟩)]) G') z1 z4 z5
        exact s1.st0 0 rfl rfl fun w2 s2 m2 => hK1 ht w2 A' C' G' s2
      · have hne : d.no ≠ g.no := fun hh => by
          have hdg : d = g := no_same hw.no d1 hg hh
          subst hdg
          rw [hq0] at d3
          obtain rfl := Option.some.inj (Option.some.inj d3)
          simp at he
        rw [nilK_some]
        refine ⟨pv s.L ps d.of_, by rw [addr_add]; exact cell6 d1 d3, d.no.toNat, ?_, rfl, d, d1, rfl, rfl, ?_⟩
        · have h1 := (hw.in_ d d1).2.2.2.2.1
          rcases hw.up cur hcur with h2 | ⟨d', hd', h2, h3⟩ <;> omega
        · rw [hiu, Bool.eq_iff_iff, isUnder_iff hw hcur, isUnder_iff hw d1]
          refine ⟨fun hh => ?_, fun hh => .step d1 d2 hh⟩
          cases hh with
          | here x1 x2 x3 =>
            have := no_same hw.no x1 d1 (by omega)
            subst this
            exact absurd x3 hne
          | step x1 x2 x3 =>
            have := no_same hw.no x1 d1 (by omega)
            subst this
            exact x3
  · refine hK0 ?_
    have hn : pv s.L ps cur.of_ = none := by
      cases hh : pv s.L ps cur.of_ with
      | none => rfl
      | some a => rw [hh] at hnone; cases hnone
    have hf := pv_none h hl hw hn
    rw [hiu]
    unfold isUnder under8 parent8
    rw [hf]

set_option maxHeartbeats 1000000 in
theorem prevoke_run {w : World} {p : Nat} {s : S8} {F : List Nat} (h : CP w p s F) (e sl' : Int) {K : Value → World → Prop} (hK : ∀ w' F', CP w' p (revokeS8 s e sl') F' → Mod F w w' → Own w F F' → K (.tuple #[.int .i64 (revokeV8 s e sl').1, .int .i64 (revokeV8 s e sl').2]) w') :
    CallsR Tryz.prog F_caps_Caps_Revoke #[.pointer (some ⟨p, 0, none⟩), .int .i64 e, .int .i64 sl'] w K := by
  apply R_caps_Caps_Revoke_ok
  simp only [R_caps_Caps_Revoke, Option.isNone_some, spl_false, nilK_some, addr_add, Nat.zero_add, spl_decide]
  have h0 := h
  obtain ⟨hw, ps, h1, hl⟩ := h
  refine pat_run h1 hl hw e sl' (fun hn => ⟨_, rfl, ?_⟩) (fun g q0 hlk hq0 => ⟨_, rfl, ?_⟩)
  · refine (Sep.nil (Mod.refl [] w)).new fun b w1 s1 m1 hb => s1.st0 0 rfl rfl fun w2 s2 m2 => ⟨_, s2.cell 0 rfl rfl, spl_t rfl ?_⟩
    have := hK w2 F (by unfold revokeS8; rw [hn]; exact h0.keep (s2.mod.at0 h0.lt)) s2.mod.of0 (Own.refl _ _)
    rwa [revokeV8, hn] at this
  obtain ⟨hm, rfl, rfl⟩ := look8_some hlk
  refine (Sep.nil (Mod.refl [] w)).new fun b7 w1 s1 m1 hb7 => s1.st0 0 rfl rfl fun w2 s2 m2 => ⟨_, s2.cell 0 rfl rfl, spl_f rfl ?_⟩
  have s2 := s2.push (sl none 0 0 1 [] []) (Mod.refl [] w2) (SlB.nil w2 1) (by simp [sl, Beyond])
  refine s2.new fun b11 w3 s3 m3 hb11 => ?_
  apply R_caps_Caps_each_Revoke_ok
  unfold R_caps_Caps_each_Revoke
  refine each_K (C := fun x w K => CallsR Tryz.prog F_caps_Caps_Revoke_1 #[.pointer x, .pointer (some ⟨b7, 0, none⟩), .pointer (some ⟨b11, 0, none⟩)] w K) (ps := ps) hl
    (St := fun j w' => ∃ A l C G, l = (badL s.L g j).length ∧ Sep w w' [blk b11 (.cells #[.slice A l C] _ (0, 0)), sl A l C 1 (badV ps (badL s.L g j)) G, blk b7 (.cells #[.pointer (some ⟨q0, 0, none⟩)] _ (0, 0))]) (fun j w' hS => ?_) ?_ ?_ ⟨none, 0, 0, [], rfl, s3⟩ ?_
  · obtain ⟨A, l, C, G, -, hS⟩ := hS
    exact (h1.keep (hS.mod.at0 h1.lt)).row
  · rintro j w4 q hj hq ⟨A, l, C, G, rfl, hS⟩
    have h4 := h1.keep (hS.mod.at0 h1.lt)
    obtain ⟨hn, -⟩ | ⟨c, q', T, c1, c2, c3, c4⟩ := place_cases h4 hl hw hj
    · rw [hq] at hn; cases hn
    rw [hq] at c3
    obtain rfl : q = q' := Option.some.inj (Option.some.inj c3)
    have hle := badL_le s.L g j
    have hfc : (s.L.find? fun c => ckp c == j) = some c := by rw [← c2]; exact find_ckp hw c1
    refine prev1_run h1 hl hw c1 hm (by rw [c2]; exact hq) hq0 hS (by omega) (fun hu => ⟨rfl, A, (badL s.L g j).length, C, G, ?_, ?_⟩) (fun hu w5 A' C' G' hS' => ⟨rfl, A', (badL s.L g j).length + 1, C', G', ?_, ?_⟩)
    · rw [badL, hfc]; simp [hu]
    · rw [badL, hfc]; simpa [hu] using hS
    · rw [badL, hfc]; simp [hu]
    · rw [badL, hfc]
      have ev : badV ps (badL s.L g j ++ (some c).toList.filter fun c => isUnder s.L g.no c) = badV ps (badL s.L g j) ++ [.pointer (some ⟨q, 0, none⟩)] := by
        simp [badV, hu, c2, hq, ptrTo]
      rw [ev]
      exact hS'
  · rintro j w4 hj hn ⟨A, l, C, G, rfl, hS⟩
    have h4 := h1.keep (hS.mod.at0 h1.lt)
    have hf : (s.L.find? fun c => ckp c == j) = none := by
      have := h4.no j hn
      unfold ob8 at this
      simpa using this
    refine ⟨A, (badL s.L g j).length, C, G, ?_, ?_⟩
    · rw [badL, hf]; simp
    · rw [badL, hf]; simpa using hS
  · rintro w4 ⟨A, l, C, G, hlen, hS⟩
    refine ⟨rfl, A, l, C, hS.cell 0 rfl rfl, ?_⟩
    have h4 := h1.keep (hS.mod.at0 h1.lt)
    have hSl : SlB w4 A l C 1 (badV ps (badL s.L g 780)) G := hS.nth 1 rfl
    have hle := badL_le s.L g 780
    refine ⟨fun n t w' => ∃ (j : Nat) (F' : List Nat), t = j ∧ j ≤ l ∧ n = l - j ∧ PT w' p (psD ps ((badL s.L g 780).take j)) (obR s.L ps ((badL s.L g 780).take j)) [] F' ∧ (∀ z ∈ F', z ∈ F) ∧ Mod [p] w4 w', ⟨l, 0, F, rfl, by omega, rfl, h4.say fun i _ => by simp [obR], fun z hz => hz, Mod.refl _ _⟩, ?_⟩
    rintro n t - w5 ⟨j, F', rfl, hj, rfl, hp5, hF', hm5⟩
    have hpout : ∀ (i : Nat) (q : Part), _ → p ∉ q.F := fun i q hi => hS.out (h1.lt p h1.pmem) i hi
    have hb11 : w5.heap[b11]? = some _ := hm5.get (show w4.heap[b11]? = some _ from hS.nth 0 rfl) (fun hh => hpout 0 _ rfl (by simp only [List.mem_singleton] at hh; subst hh; simp [blk]))
    have hSl5 := hSl.mod hm5 (fun z hz hh => hpout 1 _ rfl (by simp only [List.mem_singleton] at hh; subst hh; exact hz))
    refine ⟨fun hlt => ?_, fun hge => ⟨A, l, C, by rw [cell_get hb11]; rfl, ?_⟩⟩
    · have hjl : j < (badL s.L g 780).length := by omega
      obtain ⟨c, hc⟩ : ∃ c, (badL s.L g 780)[j]? = some c := ⟨_, List.getElem?_eq_getElem hjl⟩
      obtain ⟨c1, c2, c3⟩ := (badL_mem hw g).1 (List.mem_of_getElem? hc)
      obtain ⟨q, T, c4, -⟩ := h4.has hl hw c1
      have hnot : ∀ d ∈ (badL s.L g 780).take j, ckp d ≠ ckp c := fun d hd hk => by
        have hdL := (badL_mem hw g).1 (List.mem_of_mem_take hd)
        have := ckp_inj hw hdL.1 c1 hk
        subst this
        obtain ⟨i, hi⟩ := List.getElem?_of_mem hd
        have hij : i < j := by
          have := (List.getElem?_eq_some_iff.1 hi).1
          simp at this; omega
        rw [List.getElem?_take, if_pos hij] at hi
        have := (List.getElem?_inj (by omega : i < (badL s.L g 780).length) (badL_nodup hw g 780)).1 (hi.trans hc.symm)
        omega
      have hpq : (psD ps ((badL s.L g 780).take j))[ckp c]? = some (some q) := by rw [psD_get _ _ hnot]; exact c4
      obtain ⟨arr, Tq, u1, u2⟩ := hp5.at_ _ q hpq
      have eob : obR s.L ps ((badL s.L g 780).take j) (ckp c) = ob8 s.L ps (ckp c) := by
        unfold obR
        rw [if_neg]
        intro hh
        obtain ⟨d, d1, d2⟩ := List.any_eq_true.1 hh
        exact hnot d d1 (by simpa using d2)
      rw [eob, ob8, find_ckp hw c1] at u1
      obtain rfl := Option.some.inj u1
      obtain ⟨ad, rfl⟩ : ∃ ad, A = some ad := by
        obtain ⟨b, o, e1, -⟩ := hSl5.isNone (by omega)
        exact ⟨_, e1⟩
      have hcell := hSl5.cell (i := j) (by simp [badV]; omega)
      rw [nilK_some, Int.toNat_natCast]
      refine ⟨⟨by omega, by omega⟩, some ⟨q, 0, none⟩, ?_, ?_⟩
      · rw [hcell]
        simp [badV, hc, c4, ptrTo]
      rw [drK_eq]
      have hm6 := hm5.drew
      have hp6 : PT w5.drew p (psD ps ((badL s.L g 780).take j)) (obR s.L ps ((badL s.L g 780).take j)) [] F' := hp5.keep fun _ _ => rfl
      have u2 : w5.drew.heap[q]? = some (.cells (nodeC c (parV s.L ps c)) Tq (0, 0)) := u2
      generalize w5.drew = w6 at hm6 hp6 u2 ⊢
      simp only [nilK_some, addr_add, Nat.zero_add]
      obtain ⟨a1, a2, a3, -⟩ := hw.in_ c c1
      refine ⟨c.env, by rw [cell_get u2]; rfl, c.slot, by rw [cell_get u2]; rfl, ⟨a1.1, a1.2⟩, ⟨by omega, by omega⟩, ?_⟩
      obtain ⟨Tr, hrow⟩ := hp6.row
      have hkl : ckp c < (psD ps ((badL s.L g 780).take j)).length := by rw [psD_len]; omega
      refine stK_of hrow (by unfold ckp kp at hkl; simp; omega) ?_
      simp only [splice_cons, splice_nil]
      have er := ptrs_set (psD ps ((badL s.L g 780).take j)) [] hkl none
      obtain ⟨F'', hF'', hFF, -⟩ := hp6.del (k := ckp c) (w' := w6.upd p (.cells (((psD ps ((badL s.L g 780).take j)).map ptrTo ++ []).toArray.setIfInBounds (ckp c) (ptrTo none)) Tr (0, 0))) (T := Tr) (by rw [er]; exact upd_same hrow) (fun z _ hz => upd_ne _ (Ne.symm hz))
      have et : (badL s.L g 780).take (j + 1) = (badL s.L g 780).take j ++ [c] := by rw [List.take_add_one, hc]; rfl
      refine ⟨l - (j + 1), by omega, j + 1, F'', by rw [w64 (by omega) (by omega)]; omega, by omega, rfl, ?_, fun z hz => hF' z (hFF z hz), hm6.upd (.inl (by simp)) _⟩
      rw [et, psD_snoc]
      refine hF''.say fun i _ => ?_
      unfold obR
      rw [List.any_append]
      by_cases hi : ckp c = i
      · simp [hi]
      · simp [hi]
    · have hjl : j = l := by omega
      rw [hjl, hlen, List.take_length] at hp5
      have hS' : revokeS8 s g.env g.slot = ⟨s.L.filter fun c => !isUnder s.L g.no c, s.last⟩ := by unfold revokeS8; rw [hlk]
      have hV : revokeV8 s g.env g.slot = (((s.L.filter fun c => isUnder s.L g.no c).length : Int), 0) := by unfold revokeV8; rw [hlk]
      have hWr := hw.revoke g.env g.slot
      rw [hS'] at hK hWr
      rw [hV, ← badL_len hw g, ← hlen] at hK
      refine hK w5 F' ⟨hWr, _, hp5.say fun i hi => ?_, by rw [psD_len]; exact hl⟩ (hS.mod.of0.trans' (hm5.mono fun z hz => by simp only [List.mem_singleton] at hz; subst hz; exact h1.pmem)) (fun z hz => .inl (hF' z hz))
      rw [psD_len, hl] at hi
      exact ob8_revoke hw ps g hi

end Go.Proofs

set_option linter.unusedSimpArgs false
namespace Go.Proofs
open Go Go.Den

theorem pnew_gen {T : TypeId} {arr : Array Value} (he : arr = (((List.replicate 780 (none : Option Nat)).map ptrTo ++ []).toArray)) {w : World} {K : Value → World → Prop} (hK : ∀ p F w', CP w' p ⟨[], 0⟩ F → Mod [] w w' → Beyond w.heap.size F → K (.pointer (some ⟨p, 0, none⟩)) w') :
    newK w (.cells arr T) fun b w2 => K (.pointer (some ⟨b, 0, none⟩)) w2 := by
  refine (Sep.nil (Mod.refl [] w)).new fun b w1 s1 m1 hb => ?_
  have h1 : w1.heap[b]? = some _ := s1.nth 0 rfl
  have hno : ∀ i q : Nat, (List.replicate 780 (none : Option Nat))[i]? ≠ some (some q) := fun i q h => by
    have := List.eq_of_mem_replicate (List.mem_of_getElem? h)
    cases this
  refine hK b [b] w1 ⟨W8.nil, List.replicate 780 none, ⟨⟨T, by rw [h1, he]⟩, fun i q hi => absurd hi (hno i q), fun i _ => rfl, fun i j q hi => absurd hi (hno i q), fun i => hno i b, ?_⟩, List.length_replicate⟩ m1 (by intro z hz; simp only [List.mem_singleton] at hz; omega)
  rw [List.filterMap_eq_nil_iff.2 fun a ha => by rw [List.eq_of_mem_replicate ha]; rfl]
theorem pnew_run {w : World} {K : Value → World → Prop} (hK : ∀ p F w', CP w' p ⟨[], 0⟩ F → Mod [] w w' → Beyond w.heap.size F → K (.pointer (some ⟨p, 0, none⟩)) w') : CallsR Tryz.prog F_caps_New #[] w K := by
  apply R_caps_New_ok
  unfold R_caps_New
  exact pnew_gen (by kernel_rfl) hK

end Go.Proofs
