/-
  Rows that are only read: an argument's, or an own one's; own parts of a world side by side.
-/
import Derived.Test.YtkcnchnlhdhcbaaDen9
import Derived.DataElems
set_option linter.unusedSimpArgs false
namespace Go.Den
open Go

@[simp] theorem add_zero (a : Addr) : Addr.add a 0 = a := Addr.add_zero' a
theorem add_add (a : Addr) (m n : Nat) : Addr.add (Addr.add a m) n = Addr.add a (m + n) := Addr.add_add a m n

/-- The slice (a, l) of elements of 'sz' cells reads as the cells 'vs'; they lie in the blocks 'F' (none or one). -/
def Rd (w : World) (a : Option Addr) (l sz : Nat) (vs : List Value) (F : List Nat) : Prop :=
  vs.length = l * sz ∧ ((l = 0 ∧ F = []) ∨ ∃ ad, a = some ad ∧ F = [ad.block] ∧ ad.block < w.heap.size ∧ ∀ j, j < vs.length → w.cell? (Addr.add ad j) = vs[j]?)

theorem Rd.length {w : World} {a : Option Addr} {l sz : Nat} {vs : List Value} {F : List Nat} (h : Rd w a l sz vs F) : vs.length = l * sz := h.1
theorem Rd.lt {w : World} {a : Option Addr} {l sz : Nat} {vs : List Value} {F : List Nat} (h : Rd w a l sz vs F) : ∀ b ∈ F, b < w.heap.size := by
  rcases h.2 with ⟨_, rfl⟩ | ⟨ad, _, rfl, hb, _⟩
  · simp
  · intro b hb'; simp at hb'; subst hb'; exact hb
theorem Rd.keep {w w' : World} {a : Option Addr} {l sz : Nat} {vs : List Value} {F : List Nat} (h : Rd w a l sz vs F) (hk : ∀ b ∈ F, w'.heap[b]? = w.heap[b]?) : Rd w' a l sz vs F := by
  refine ⟨h.1, ?_⟩
  rcases h.2 with h | ⟨ad, ha, rfl, hb, hc⟩
  · exact .inl h
  · have hk' := hk ad.block (by simp)
    refine .inr ⟨ad, ha, rfl, ?_, fun j hj => ?_⟩
    · have h2 : w'.heap[ad.block]? = some w.heap[ad.block] := hk'.trans (Array.getElem?_eq_getElem hb)
      exact lt_of_get h2
    · rw [← hc j hj]
      exact same_cell (by rw [add_block]; exact hk')
theorem Rd.mod {S : List Nat} {w w' : World} {a : Option Addr} {l sz : Nat} {vs : List Value} {F : List Nat} (h : Rd w a l sz vs F) (hm : Mod S w w') (hd : ∀ b ∈ F, b ∉ S) : Rd w' a l sz vs F :=
  h.keep fun b hb => hm.keep b (h.lt b hb) (hd b hb)
theorem Rd.mod0 {w w' : World} {a : Option Addr} {l sz : Nat} {vs : List Value} {F : List Nat} (h : Rd w a l sz vs F) (hm : Mod [] w w') : Rd w' a l sz vs F := h.mod hm (by simp)
theorem Rd.nil (w : World) (a : Option Addr) (sz : Nat) : Rd w a 0 sz [] [] := ⟨by simp, .inl ⟨rfl, rfl⟩⟩
theorem Rd.empty {w : World} {a : Option Addr} {sz : Nat} {vs : List Value} {F : List Nat} (h : Rd w a 0 sz vs F) : vs = [] := List.eq_nil_of_length_eq_zero (by simpa using h.1)
theorem Rd.at {w : World} {a : Option Addr} {l sz : Nat} {vs : List Value} {F : List Nat} (h : Rd w a l sz vs F) (hl : 0 < l) : ∃ ad, a = some ad ∧ F = [ad.block] ∧ ad.block < w.heap.size ∧ ∀ j, j < vs.length → w.cell? (Addr.add ad j) = vs[j]? := by
  rcases h.2 with h | h
  · omega
  · exact h
theorem Rd.cell {w : World} {a : Addr} {l sz : Nat} {vs : List Value} {F : List Nat} (h : Rd w (some a) l sz vs F) {j : Nat} (hj : j < vs.length) : w.cell? (Addr.add a j) = vs[j]? := by
  rcases h.2 with ⟨h0, _⟩ | ⟨ad, ha, _, _, hc⟩
  · have := h.1; subst h0; omega
  · cases ha; exact hc j hj

theorem SlB.rd {w : World} {a : Option Addr} {l c sz : Nat} {vs : List Value} {F : List Nat} (h : SlB w a l c sz vs F) : Rd w a l sz vs F := by
  refine ⟨h.length, ?_⟩
  rcases h with ⟨rfl, rfl, rfl, rfl, rfl⟩ | ⟨b, o, arr, T, rfl, rfl, hb, hl, hc, hlen, hv⟩
  · exact .inl ⟨rfl, rfl⟩
  · exact .inr ⟨_, rfl, rfl, lt_of_get hb, fun j hj => by rw [addr_add, cell_get hb]; exact hv j hj⟩

/-- An argument's row. -/
theorem SlIn.rd {w : World} {k : Nat} {q : List Value → Prop} {a : Option Addr} {l c : Nat} (h : SlIn w k q a l c) : ∃ (vss : List (List Value)) (F : List Nat), vss.length = l ∧ (∀ vs ∈ vss, q vs ∧ vs.length = k) ∧ Rd w a l k vss.flatten F := by
  rcases h with ⟨rfl, rfl, rfl⟩ | ⟨ad, rfl, hl, hc, hb, hx⟩
  · exact ⟨[], [], rfl, by simp, Rd.nil _ _ _⟩
  · rcases Nat.eq_zero_or_pos l with h0 | h0
    · subst h0
      exact ⟨[], [], rfl, by simp, Rd.nil _ _ _⟩
    · suffices H : ∀ m ≤ l, ∃ vss : List (List Value), vss.length = m ∧ (∀ vs ∈ vss, q vs ∧ vs.length = k) ∧ vss.flatten.length = m * k ∧ ∀ j, j < vss.flatten.length → w.cell? (Addr.add ad j) = vss.flatten[j]? by
        obtain ⟨vss, h1, h2, h3, h4⟩ := H l (Nat.le_refl _)
        exact ⟨vss, [ad.block], h1, h2, h3, .inr ⟨ad, rfl, rfl, hb.resolve_left (by omega), h4⟩⟩
      intro m
      induction m with
      | zero => intro _; exact ⟨[], rfl, by simp, by simp, by simp⟩
      | succ m ih =>
        intro hm
        obtain ⟨vss, h1, h2, h3, h4⟩ := ih (by omega)
        obtain ⟨cs, hq, hcl, hcc⟩ := hx m (by omega)
        refine ⟨vss ++ [cs], by simp [h1], ?_, by simp [h3, hcl, Nat.succ_mul], ?_⟩
        · intro vs hv
          simp only [List.mem_append, List.mem_singleton] at hv
          rcases hv with hv | rfl
          · exact h2 vs hv
          · exact ⟨hq, hcl⟩
        · intro j hj
          rw [List.flatten_append, List.flatten_singleton]
          by_cases hj1 : j < m * k
          · rw [List.getElem?_append_left (by omega)]
            exact h4 j (by omega)
          · rw [List.getElem?_append_right (by omega), h3]
            have hjl : j - m * k < k := by simp [h3, hcl] at hj; omega
            rw [← hcc _ hjl, add_add]
            congr 2
            omega

theorem flatten_at {α : Type} {k : Nat} : ∀ {vss : List (List α)}, (∀ vs ∈ vss, vs.length = k) → ∀ {i j : Nat} {vs : List α}, vss[i]? = some vs → j < k → vss.flatten[i * k + j]? = vs[j]?
  | [], _, i, j, vs, h, _ => by simp at h
  | x :: vss, hk, 0, j, vs, h, hj => by
    simp only [List.getElem?_cons_zero, Option.some.injEq] at h
    subst h
    have := hk x (by simp)
    rw [List.flatten_cons, Nat.zero_mul, Nat.zero_add, List.getElem?_append_left (by omega)]
  | x :: vss, hk, i + 1, j, vs, h, hj => by
    have hx := hk x (by simp)
    rw [List.flatten_cons, List.getElem?_append_right (by rw [hx, Nat.succ_mul]; omega), hx, show (i + 1) * k + j - k = i * k + j by rw [Nat.succ_mul]; omega]
    exact flatten_at (fun v hv => hk v (by simp [hv])) (by simpa using h) hj

/-- The cells of an element of an argument's row. -/
theorem Rd.elem {w : World} {a : Option Addr} {l k : Nat} {vss : List (List Value)} {F : List Nat} (h : Rd w a l k vss.flatten F) (hl : vss.length = l) (hk : ∀ vs ∈ vss, vs.length = k) {i : Nat} (hi : i < l) :
    ∃ ad vs, a = some ad ∧ vss[i]? = some vs ∧ vs ∈ vss ∧ ad.block < w.heap.size ∧ F = [ad.block] ∧ ∀ j, j < k → w.cell? (Addr.add (Addr.add ad (i * k)) j) = vs[j]? := by
  obtain ⟨ad, ha, hF, hb, hc⟩ := h.at (by omega)
  refine ⟨ad, vss[i]'(by omega), ha, List.getElem?_eq_getElem _, List.getElem_mem _, hb, hF, fun j hj => ?_⟩
  have e := flatten_at hk (List.getElem?_eq_getElem (show i < vss.length by omega)) hj
  rw [add_add, hc, e]
  rw [h.1]
  have : (i + 1) * k ≤ l * k := Nat.mul_le_mul_right _ (by omega)
  rw [Nat.succ_mul] at this
  omega

/-- A slice expression on a row. -/
theorem Rd.sub {w : World} {a : Option Addr} {l sz : Nat} {vs : List Value} {F : List Nat} (h : Rd w a l sz vs F) {L H M : Nat} (h1 : L ≤ H) (h2 : H ≤ l) (h3 : H ≤ M) : ∃ G, Rd w (slA a M L sz) (H - L) sz ((vs.drop (L * sz)).take ((H - L) * sz)) G ∧ (∀ b ∈ G, b ∈ F) := by
  have m3 : H * sz ≤ l * sz := Nat.mul_le_mul_right _ h2
  have m4 : L * sz ≤ H * sz := Nat.mul_le_mul_right _ h1
  have hlen := h.1
  have hln : ((vs.drop (L * sz)).take ((H - L) * sz)).length = (H - L) * sz := by
    rw [List.length_take, List.length_drop, hlen, Nat.sub_mul]; omega
  rcases Nat.eq_zero_or_pos (H - L) with h0 | h0
  · exact ⟨[], ⟨hln, .inl ⟨h0, rfl⟩⟩, by simp⟩
  · obtain ⟨ad, rfl, rfl, hb, hc⟩ := h.at (by omega)
    refine ⟨[ad.block], ⟨hln, .inr ⟨ad.add (L * sz), ?_, by rw [add_block], by rw [add_block]; exact hb, fun j hj => ?_⟩⟩, fun _ h => h⟩
    · unfold slA; rw [if_neg (by omega)]; rfl
    · rw [hln, Nat.sub_mul] at hj
      rw [List.getElem?_take, if_pos (by rw [Nat.sub_mul]; exact hj), List.getElem?_drop, add_add]
      exact hc _ (by omega)

theorem slK_rd {w : World} {a : Option Addr} {l c sz : Nat} {vs : List Value} {F : List Nat} (hs : Rd w a l sz vs F) (hc : l ≤ c) {lo hi : Option Int} {L H : Nat} {K : Option Addr → Nat → Nat → Prop}
    (hlo : lo = some (L : Int) ∨ (lo = none ∧ L = 0)) (hhi : hi = some (H : Int) ∨ (hi = none ∧ H = l)) (h1 : L ≤ H) (h2 : H ≤ l)
    (hK : ∀ a' G, Rd w a' (H - L) sz ((vs.drop (L * sz)).take ((H - L) * sz)) G → (∀ b ∈ G, b ∈ F) → K a' (H - L) (c - L)) : slK a l c sz lo hi none K := by
  have eL : sM lo 0 = L := by rcases hlo with rfl | ⟨rfl, rfl⟩ <;> simp [sM]
  have eH : sM hi l = H := by rcases hhi with rfl | ⟨rfl, rfl⟩ <;> simp [sM]
  refine ⟨trivial, fun _ => rfl, ?_, ?_, ?_⟩
  · simp only [sM]; rcases hhi with rfl | ⟨rfl, rfl⟩ <;> simp [sOK]; omega
  · rw [eH]; rcases hlo with rfl | ⟨rfl, rfl⟩ <;> simp [sOK]; omega
  · simp only [eL, eH]
    obtain ⟨G, hG, hGF⟩ := hs.sub (M := c) h1 h2 (by omega)
    exact hK _ G hG hGF

/-- **append** of a row that is only read. -/
theorem append_rd {P : Program} {t e sz bys : Nat} {z : Value} (hT : SlT P t e sz bys z) (hsz : 0 < sz) {w : World} {a : Option Addr} {l c : Nat} {vs : List Value} {F : List Nat} (hs : SlB w a l c sz vs F)
    {a2 : Option Addr} {l2 c2 : Nat} {us : List Value} {G : List Nat} (hx : Rd w a2 l2 sz us G) (hc : ∀ u ∈ us, isCell u = true) (hb : (l + l2) * bys ≤ 140737488355328) (hb2 : l + l2 ≤ 4611686018427387904) (ty : TypeId) :
    ∃ a' c' w' F', (Builtin.append_ #[t, t] ty #[.slice a l c, .slice a2 l2 c2]).run P w = .ok (.slice a' (l + l2) c') w' ∧ SlB w' a' (l + l2) c' sz (vs ++ us) F' ∧ Mod F w w' ∧ Own w F F' := by
  have hus := hx.length
  have src : ∀ w' : World, (∀ b ∈ G, w'.heap[b]? = w.heap[b]?) → (Builtin.firstCells sz l2 (.slice a2 l2 c2)).run P w' = .ok us.toArray w' := fun w' hk => by
    have hx' := hx.keep hk
    rcases Nat.eq_zero_or_pos l2 with h0 | h0
    · subst h0
      obtain rfl := hx.empty
      cases a2 with
      | none => simp [Builtin.firstCells]
      | some ad => exact run_firstCells_some (P := P) w' sz 0 ad 0 c2 [] (by simp) (fun j v hj => by simp at hj)
    · obtain ⟨ad, rfl, hG, _, hcell⟩ := hx'.at h0
      exact run_firstCells_some (P := P) w' sz l2 ad l2 c2 us hus (fun j v hj => by rw [hcell j (List.getElem?_eq_some_iff.1 hj).1, hj])
  exact append_core hT hsz hT.1 (.inl ⟨e, rfl⟩) hs hus (fun w' => by simp [Builtin.lenOf]) (src w fun _ _ => rfl) (src w.drew fun _ _ => rfl) hc hb hb2 ty

/-! ### Own parts side by side -/

/-- What a call on the part 'F' leaves of another part. -/
theorem side {S F F' G : List Nat} {w w' : World} (hm : Mod S w w') (hSF : ∀ b ∈ S, b ∈ F) (ho : Own w F F') (hG : ∀ b ∈ G, b < w.heap.size) (hd : ∀ b ∈ F, b ∉ G) : (∀ b ∈ G, w'.heap[b]? = w.heap[b]?) ∧ ∀ b ∈ F', b ∉ G := by
  refine ⟨fun b hb => hm.keep b (hG b hb) fun h => hd b (hSF b h) hb, fun b hb hbG => ?_⟩
  rcases ho b hb with h | h
  · exact hd b h hbG
  · exact absurd (hG b hbG) (by omega)

theorem Mod.at0 {F : List Nat} {w w' : World} (hm : Mod [] w w') (hl : ∀ b ∈ F, b < w.heap.size) : ∀ b ∈ F, w'.heap[b]? = w.heap[b]? := fun b hb => hm.keep b (hl b hb) (by simp)
theorem Mod.at {S F : List Nat} {w w' : World} (hm : Mod S w w') (hl : ∀ b ∈ F, b < w.heap.size) (hd : ∀ b ∈ F, b ∉ S) : ∀ b ∈ F, w'.heap[b]? = w.heap[b]? := fun b hb => hm.keep b (hl b hb) (hd b hb)
theorem Mod.of0 {S : List Nat} {w w' : World} (hm : Mod [] w w') : Mod S w w' := hm.mono (by simp)
theorem Mod.new {w w' : World} (hm : Mod [] w w') {b : Nat} (hb : w.heap.size ≤ b) {w'' : World} (h : Mod [b] w' w'') : Mod [] w w'' := hm.trans h fun x hx hlt => by simp only [List.mem_singleton] at hx; subst hx; omega

/-- All of a part lies beyond 'n'. -/
def Beyond (n : Nat) (F : List Nat) : Prop := ∀ b ∈ F, n ≤ b
theorem Beyond.own {n : Nat} {w : World} {F F' : List Nat} (h : Beyond n F) (ho : Own w F F') (hn : n ≤ w.heap.size) : Beyond n F' := fun b hb => by
  rcases ho b hb with h' | h'
  · exact h b h'
  · omega
theorem Beyond.mod {w0 w w' : World} {F : List Nat} (h : Beyond w0.heap.size F) (hm : Mod [] w0 w) (hm' : Mod F w w') : Mod [] w0 w' := hm.trans hm' fun b hb hlt => absurd (h b hb) (by omega)


/-- 'append(x, ..)' of values that are laid just ahead: the row is an own one. -/
theorem push_run {P : Program} {t e sz bys : Nat} {z : Value} (hT : SlT P t e sz bys z) (hsz : 0 < sz) {w0 w : World} {A : Option Addr} {L C : Nat} {vs : List Value} {G : List Nat} (hs : SlB w A L C sz vs G) (hG : Beyond w0.heap.size G) (hm : Mod [] w0 w)
    {us : List Value} {n : Nat} (hus : us.length = n * sz) (hc : ∀ u ∈ us, isCell u = true) (hb : (L + n) * bys ≤ 140737488355328) (hb2 : L + n ≤ 4611686018427387904) (T ty : TypeId) :
    ∃ A' C' w' G', (Builtin.append_ #[t, t] ty #[.slice A L C, .slice (some ⟨w.heap.size, 0, none⟩) n n]).run P (w.alloc (.cells us.toArray T)) = .ok (.slice A' (L + n) C') w' ∧ SlB w' A' (L + n) C' sz (vs ++ us) G' ∧ Beyond w0.heap.size G' ∧ Mod [] w0 w' ∧ Mod G w w' ∧ Own w G G' := by
  have hx := SlB.new w us T (l := n) (sz := sz) hus
  obtain ⟨A', C', w', G', hrun, hs', hm', ho'⟩ := append_run hT hsz (hs.alloc (.cells us.toArray T)) hx hc hb hb2 ty
  have ho : Own w G G' := fun b hb => by
    rcases ho' b hb with h | h
    · exact .inl h
    · rw [alloc_size] at h; exact .inr (by omega)
  have hm2 : Mod G w w' := ((Mod.refl G w).alloc _).trans' hm'
  exact ⟨A', C', w', G', hrun, hs', hG.own ho hm.size, hG.mod hm hm2, hm2, ho⟩

/-- 'append(x, y...)' of a row that is only read: the row that it grows is an own one. -/
theorem push_rd {P : Program} {t e sz bys : Nat} {z : Value} (hT : SlT P t e sz bys z) (hsz : 0 < sz) {w0 w : World} {A : Option Addr} {L C : Nat} {vs : List Value} {G : List Nat} (hs : SlB w A L C sz vs G) (hG : Beyond w0.heap.size G) (hm : Mod [] w0 w)
    {a2 : Option Addr} {l2 c2 : Nat} {us : List Value} {H : List Nat} (hx : Rd w a2 l2 sz us H) (hc : ∀ u ∈ us, isCell u = true) (hb : (L + l2) * bys ≤ 140737488355328) (hb2 : L + l2 ≤ 4611686018427387904) (ty : TypeId) :
    ∃ A' C' w' G', (Builtin.append_ #[t, t] ty #[.slice A L C, .slice a2 l2 c2]).run P w = .ok (.slice A' (L + l2) C') w' ∧ SlB w' A' (L + l2) C' sz (vs ++ us) G' ∧ Beyond w0.heap.size G' ∧ Mod [] w0 w' ∧ Mod G w w' ∧ Own w G G' := by
  obtain ⟨A', C', w', G', hrun, hs', hm', ho'⟩ := append_rd hT hsz hs hx hc hb hb2 ty (c2 := c2)
  exact ⟨A', C', w', G', hrun, hs', hG.own ho' hm.size, hG.mod hm hm', hm', ho'⟩

/-! ### The same, as the printed forms ask for them -/

theorem push_K {P : Program} {t e sz bys : Nat} {z : Value} (hT : SlT P t e sz bys z) (hsz : 0 < sz) {w0 w : World} {A : Option Addr} {L C : Nat} {vs : List Value} {G : List Nat} (hs : SlB w A L C sz vs G) (hG : Beyond w0.heap.size G) (hm : Mod [] w0 w)
    {us : List Value} {n : Nat} (hus : us.length = n * sz) (hc : ∀ u ∈ us, isCell u = true) (hb : (L + n) * bys ≤ 140737488355328) (hb2 : L + n ≤ 4611686018427387904) {T ty : TypeId} {K : Value → World → Prop}
    (h : ∀ A' C' w' G', SlB w' A' (L + n) C' sz (vs ++ us) G' → Beyond w0.heap.size G' → Mod [] w0 w' → Mod G w w' → Own w G G' → K (.slice A' (L + n) C') w') :
    runK ((Builtin.append_ #[t, t] ty #[.slice A L C, .slice (some ⟨w.heap.size, 0, none⟩) n n]).run P (w.alloc (.cells us.toArray T))) K := by
  obtain ⟨A', C', w', G', hrun, h1, h2, h3, h4, h5⟩ := push_run hT hsz hs hG hm hus hc hb hb2 T ty
  exact ⟨_, _, hrun, h A' C' w' G' h1 h2 h3 h4 h5⟩

theorem push_rd_K {P : Program} {t e sz bys : Nat} {z : Value} (hT : SlT P t e sz bys z) (hsz : 0 < sz) {w0 w : World} {A : Option Addr} {L C : Nat} {vs : List Value} {G : List Nat} (hs : SlB w A L C sz vs G) (hG : Beyond w0.heap.size G) (hm : Mod [] w0 w)
    {a2 : Option Addr} {l2 c2 : Nat} {us : List Value} {H : List Nat} (hx : Rd w a2 l2 sz us H) (hc : ∀ u ∈ us, isCell u = true) (hb : (L + l2) * bys ≤ 140737488355328) (hb2 : L + l2 ≤ 4611686018427387904) {ty : TypeId} {K : Value → World → Prop}
    (h : ∀ A' C' w' G', SlB w' A' (L + l2) C' sz (vs ++ us) G' → Beyond w0.heap.size G' → Mod [] w0 w' → Mod G w w' → Own w G G' → K (.slice A' (L + l2) C') w') :
    runK ((Builtin.append_ #[t, t] ty #[.slice A L C, .slice a2 l2 c2]).run P w) K := by
  obtain ⟨A', C', w', G', hrun, h1, h2, h3, h4, h5⟩ := push_rd hT hsz hs hG hm hx hc hb hb2 ty (c2 := c2)
  exact ⟨_, _, hrun, h A' C' w' G' h1 h2 h3 h4 h5⟩

/-- 'append' of a row to a row of one's own, whatever else there is. -/
theorem grow_K {P : Program} {t e sz bys : Nat} {z : Value} (hT : SlT P t e sz bys z) (hsz : 0 < sz) {w : World} {A : Option Addr} {L C : Nat} {vs : List Value} {G : List Nat} (hs : SlB w A L C sz vs G)
    {us : List Value} {n : Nat} (hus : us.length = n * sz) (hc : ∀ u ∈ us, isCell u = true) (hb : (L + n) * bys ≤ 140737488355328) (hb2 : L + n ≤ 4611686018427387904) {T ty : TypeId} {K : Value → World → Prop}
    (h : ∀ A' C' w' G', SlB w' A' (L + n) C' sz (vs ++ us) G' → Mod G w w' → Own w G G' → K (.slice A' (L + n) C') w') :
    runK ((Builtin.append_ #[t, t] ty #[.slice A L C, .slice (some ⟨w.heap.size, 0, none⟩) n n]).run P (w.alloc (.cells us.toArray T))) K := by
  have hx := SlB.new w us T (l := n) (sz := sz) hus
  obtain ⟨A', C', w', G', hrun, hs', hm', ho'⟩ := append_run hT hsz (hs.alloc (.cells us.toArray T)) hx hc hb hb2 ty
  exact ⟨_, _, hrun, h A' C' w' G' hs' (((Mod.refl G w).alloc _).trans' hm') fun b hb => by
    rcases ho' b hb with h | h
    · exact .inl h
    · rw [alloc_size] at h; exact .inr (by omega)⟩

theorem grow_rd_K {P : Program} {t e sz bys : Nat} {z : Value} (hT : SlT P t e sz bys z) (hsz : 0 < sz) {w : World} {A : Option Addr} {L C : Nat} {vs : List Value} {G : List Nat} (hs : SlB w A L C sz vs G)
    {a2 : Option Addr} {l2 c2 : Nat} {us : List Value} {H : List Nat} (hx : Rd w a2 l2 sz us H) (hc : ∀ u ∈ us, isCell u = true) (hb : (L + l2) * bys ≤ 140737488355328) (hb2 : L + l2 ≤ 4611686018427387904) {ty : TypeId} {K : Value → World → Prop}
    (h : ∀ A' C' w' G', SlB w' A' (L + l2) C' sz (vs ++ us) G' → Mod G w w' → Own w G G' → K (.slice A' (L + l2) C') w') :
    runK ((Builtin.append_ #[t, t] ty #[.slice A L C, .slice a2 l2 c2]).run P w) K := by
  obtain ⟨A', C', w', G', hrun, hs', hm', ho'⟩ := append_rd hT hsz hs hx hc hb hb2 ty (c2 := c2)
  exact ⟨_, _, hrun, h A' C' w' G' hs' hm' ho'⟩

theorem makeSlice_K {P : Program} {t e sz bys : Nat} {z : Value} (hT : SlT P t e sz bys z) {w : World} {k k' : IntKind} {l c : Nat} (hlc : l ≤ c) (hb : c * bys ≤ 281474976710656) (hc : c ≤ 4611686018427387904) {K : Value → World → Prop}
    (h : ∀ w', SlB w' (some ⟨w.heap.size, 0, none⟩) l c sz (zrow z (l * sz)) [w.heap.size] → Mod [] w w' → K (.slice (some ⟨w.heap.size, 0, none⟩) l c) w') :
    runK ((Instr.makeSlice t (.int k (l : Int)) (.int k' (c : Int))).run P w) K := by
  obtain ⟨w', hrun, h1, h2⟩ := makeSlice_run hT w (k := k) (k' := k') hlc hb hc
  exact ⟨_, _, hrun, h w' h1 h2⟩

theorem copy_K {P : Program} {t t2 e sz bys : Nat} {z : Value} (hT : SlT P t e sz bys z) {w : World} {a : Option Addr} {l c : Nat} {vs : List Value} {F : List Nat} (hs : SlB w a l c sz vs F)
    {a2 : Option Addr} {l2 c2 : Nat} {us : List Value} {G : List Nat} (hx : SlB w a2 l2 c2 sz us G) (hc : ∀ u ∈ us, isCell u = true) {ty : TypeId} {K : Value → World → Prop}
    (h : ∀ w', SlB w' a l c sz (us.take (Nat.min l2 l * sz) ++ vs.drop (Nat.min l2 l * sz)) F → Mod F w w' → K (.int .i64 ((Nat.min l2 l : Nat) : Int)) w') :
    runK ((Builtin.copy_ #[t, t2] ty #[.slice a l c, .slice a2 l2 c2]).run P w) K := by
  obtain ⟨w', hrun, h1, h2⟩ := copy_run hT hs hx hc ty
  exact ⟨_, _, hrun, h w' h1 h2⟩

end Go.Den
