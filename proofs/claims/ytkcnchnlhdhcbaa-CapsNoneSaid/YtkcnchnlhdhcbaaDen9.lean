/-
  Own engine, the join: an argument's cells as its reading has them; the row's step for a law that answers true and leaves all that was.
-/
import Derived.Test.YtkcnchnlhdhcbaaDen8
import Derived.WalkKit
import Derived.ProofKit
import Derived.OpenShut
import Derived.Carry
import Derived.Deep.Slices
namespace Go.Den
open Go Go.ChangeShapes Go.WideShapes Go.RowKit

/-- What a cell of an argument is. -/
inductive Ck where
  | bool | int (k : IntKind) | str | sl (e : TypeId)

/-- The elements of a slice, as the reading has them. -/
def SlCells (_ : Program) (w : World) (k : Nat) (ok : List Value → Prop) (a : Option Addr) (l c : Nat) : Prop :=
  (a = none ∧ l = 0 ∧ c = 0) ∨ ∃ ad, a = some ad ∧ l ≤ c ∧ c ≤ maxLen ∧ ∀ i, i < c → ∃ cs, w.cells? 0 (ad.add (i * k)) k = some cs ∧ ok cs

def Ck.ok {H : Type} (enc : TypeId × Value → H) (P : Program) (w : World) : Ck → Value → Prop
  | .bool, v => ∃ b, v = .bool b
  | .int k, v => ∃ n, v = .int k n ∧ (Lit.int k n).wf = true
  | .str, v => ∃ s, v = .string s ∧ s.size ≤ maxLen
  | .sl e, v => ∃ a l c, v = .slice a l c ∧ SlCells P w (P.cellsOf e) (fun cs => ∃ n x, DataW.trod enc P w 0 (fun _ => true) true n e cs = some x) a l c

/-- The cells 'cs' are what 'ks' names. -/
def OkAll {H : Type} (enc : TypeId × Value → H) (P : Program) (w : World) : List Ck → List Value → Prop
  | [], [] => True
  | k :: ks, v :: vs => k.ok enc P w v ∧ OkAll enc P w ks vs
  | _, _ => False

def cksF (f : TypeId → Option (List Ck)) : Nat → List Field → Option (List Ck)
  | _, [] => some []
  | o, fd :: r => if fd.offset = o then (f fd.type).bind fun a => (cksF f (o + a.length) r).map fun b => a ++ b else none

def cks (P : Program) : Nat → TypeId → Option (List Ck)
  | 0, _ => none
  | n + 1, t => match P.underlying t with
    | some .bool => some [.bool]
    | some (.int k) => some [.int k]
    | some .string => some [.str]
    | some (.slice e) => some [.sl e]
    | some (.struct fs) => (cksF (fun u => (cks P n u).bind fun a => if a.length = P.cellsOf u then some a else none) 0 fs.toList).bind fun a => if a.length = P.cellsOf t then some a else none
    | some (.array m e) => (cks P n e).bind fun a => if a.length = P.cellsOf e ∧ m * a.length = P.cellsOf t then some (List.replicate m a).flatten else none
    | _ => none

theorem u64_bounds {n : Int} (h : (Lit.int .u64 n).wf = true) : 0 ≤ n ∧ n < 18446744073709551616 := by
  simp [Lit.wf, IntKind.min, IntKind.max, IntKind.bits, IntKind.signed] at h
  omega
theorem i64_bounds {n : Int} (h : (Lit.int .i64 n).wf = true) : -9223372036854775808 ≤ n ∧ n ≤ 9223372036854775807 := by
  simp [Lit.wf, IntKind.min, IntKind.max, IntKind.bits, IntKind.signed] at h
  omega

section
variable {H : Type} {enc : TypeId × Value → H} {P : Program} {w : World}

theorem OkAll.append : ∀ {ks ks' : List Ck} {vs vs' : List Value}, OkAll enc P w ks vs → OkAll enc P w ks' vs' → OkAll enc P w (ks ++ ks') (vs ++ vs')
  | [], _, [], _, _, h => h
  | _ :: _, _, _ :: _, _, ⟨h1, h2⟩, h => ⟨h1, h2.append h⟩
theorem OkAll.length : ∀ {ks : List Ck} {vs : List Value}, OkAll enc P w ks vs → vs.length = ks.length
  | [], [], _ => rfl
  | _ :: _, _ :: _, ⟨_, h⟩ => by simp [h.length]

theorem okF {f : TypeId → Option (List Ck)} {cs : List Value} {g : TypeId → List Value → Prop} (hf : ∀ u a, f u = some a → a.length = P.cellsOf u ∧ ∀ vs, g u vs → OkAll enc P w a vs) :
    ∀ (fs : List Field) (o : Nat) (ks : List Ck), cksF f o fs = some ks → (∀ fd ∈ fs, g fd.type ((cs.drop fd.offset).take (P.cellsOf fd.type))) → OkAll enc P w ks ((cs.drop o).take ks.length)
  | [], _, ks, h, _ => by
    simp only [cksF, Option.some.injEq] at h
    subst h
    simp [OkAll]
  | fd :: r, o, ks, h, hg => by
    simp only [cksF] at h
    split at h
    · rename_i ho
      obtain ⟨a, ha, h⟩ := Option.bind_eq_some_iff.1 h
      obtain ⟨b, hb, rfl⟩ := Option.map_eq_some_iff.1 h
      have h1 := (hf _ _ ha).2 _ (hg fd (by simp))
      have h2 := okF hf r _ _ hb fun x hx => hg x (by simp [hx])
      rw [ho, ← (hf _ _ ha).1] at h1
      have e : (cs.drop o).take (a ++ b).length = (cs.drop o).take a.length ++ (cs.drop (o + a.length)).take b.length := by
        rw [List.length_append, List.take_add, List.drop_drop]
      rw [e]
      exact h1.append h2
    · cases h

theorem okRep {k m : Nat} {a : List Ck} {cs : List Value} (_ha : a.length = k) (h : ∀ i, i < m → OkAll enc P w a ((cs.drop (i * k)).take k)) : OkAll enc P w (List.replicate m a).flatten (cs.take (m * k)) := by
  induction m with
  | zero => simp [OkAll]
  | succ m ih =>
    have h1 := ih fun i hi => h i (by omega)
    rw [List.replicate_succ', List.flatten_append, Nat.succ_mul, List.take_add]
    refine h1.append ?_
    simpa using h m (by omega)

theorem ok_of_trod : ∀ (n : Nat) (t : TypeId) (ks : List Ck) (fuel : Nat) (cs : List Value) (x : DataW H × List MemPlace), cks P n t = some ks → DataW.trod enc P w 0 (fun _ => true) true fuel t cs = some x → OkAll enc P w ks cs
  | 0, _, _, _, _, _, h, _ => by simp [cks] at h
  | n + 1, t, ks, fuel, cs, x, h, hd => by
    simp only [cks] at h
    split at h
    · rename_i ht; cases h
      obtain ⟨b, rfl, _⟩ := DataW.trod_bool ht hd
      exact ⟨⟨b, rfl⟩, trivial⟩
    · rename_i ht; cases h
      obtain ⟨b, rfl, _, hw⟩ := DataW.trod_int ht hd
      exact ⟨⟨b, rfl, hw⟩, trivial⟩
    · rename_i ht; cases h
      obtain ⟨b, rfl, _, hw⟩ := DataW.trod_string ht hd
      exact ⟨⟨b, rfl, hw⟩, trivial⟩
    · rename_i e ht; cases h
      rcases Deep.open_slice ht hd with ⟨rfl, _⟩ | ⟨a, l, c, m, n', D, Pl, rfl, _, hl, hc, hm, _, hx⟩
      · exact ⟨⟨none, 0, 0, rfl, .inl ⟨rfl, rfl, rfl⟩⟩, trivial⟩
      · refine ⟨⟨some a, l, c, rfl, .inr ⟨a, rfl, hl, hc, fun i hi => ?_⟩⟩, trivial⟩
        obtain ⟨cs', h1, h2⟩ := hx i (by rw [hm]; simpa using hi)
        exact ⟨cs', h1, n', _, h2⟩
    · rename_i fs ht
      obtain ⟨a, ha, h⟩ := Option.bind_eq_some_iff.1 h
      split at h
      · rename_i hlen
        have h := Option.some.inj h; subst h
        obtain ⟨xs, m, _, _, hl, hxl, hx⟩ := DataW.trod_struct ht hd
        have := okF (enc := enc) (P := P) (w := w) (cs := cs) (g := fun u vs => ∃ y, DataW.trod enc P w 0 (fun _ => true) true m u vs = some y) (f := fun u => (cks P n u).bind fun a => if a.length = P.cellsOf u then some a else none)
          (fun u a h => by
            obtain ⟨a', ha', h⟩ := Option.bind_eq_some_iff.1 h
            split at h
            · rename_i hl'
              have h := Option.some.inj h; subst h
              exact ⟨hl', fun vs ⟨y, hy⟩ => ok_of_trod n u a' m vs y ha' hy⟩
            · cases h) fs.toList 0 a ha (fun fd hfd => by
            obtain ⟨i, hi, rfl⟩ := List.getElem_of_mem hfd
            have hi' : i < fs.size := by simpa using hi
            have h1 := hx i fs[i] (by simp [hi'])
            have h2 : xs[i]? = some (xs[i]'(by omega)) := List.getElem?_eq_getElem _
            exact ⟨_, by simpa using h1.trans h2⟩)
        rw [List.drop_zero, hlen, ← hl, List.take_length] at this
        exact this
      · cases h
    · rename_i m e ht
      obtain ⟨a, ha, h⟩ := Option.bind_eq_some_iff.1 h
      split at h
      · rename_i hlen
        have h := Option.some.inj h; subst h
        obtain ⟨xs, m', _, _, hl, hxl, hx⟩ := DataW.trod_array ht hd
        have := okRep (enc := enc) (P := P) (w := w) (k := P.cellsOf e) (m := m) (a := a) (cs := cs) hlen.1 (fun i hi => ok_of_trod n e a m' _ _ ha ((hx i hi).trans (List.getElem?_eq_getElem (by omega))))
        rw [show m * P.cellsOf e = cs.length by rw [hl, ← hlen.2, hlen.1], List.take_length] at this
        exact this
      · cases h
    · cases h

/-- Every argument reads as it did, if nothing below has turned. -/
theorem trodAll_stays (hl : laidOutB P = true) {W W' : World} (hb : Below W.heap.size W W') : ∀ {ts : List TypeId} {vs : List Value} {ds : List (DataW H)} {ps : List MemPlace}, (∀ t ∈ ts, P.readableRec t = true ∧ t < P.types.size) →
    DataW.TrodAll enc P W 0 (fun _ => true) true ts vs ds ps → (∀ x ∈ ps, x.block < W.heap.size) → DataW.TrodAll enc P W' 0 (fun b => decide (b < W.heap.size)) true ts vs ds ps
  | [], [], [], ps, _, h, _ => h
  | t :: ts, v :: vs, d :: ds, ps, ht, ⟨p, q, h1, h2, hps⟩, hp => by
    subst hps
    refine ⟨p, q, Below.trod hl (ht t (by simp)).1 (ht t (by simp)).2 h1 hb (fun x hx => hp x (by simp [hx])), trodAll_stays hl hb (fun t ht' => ht t (by simp [ht'])) h2 (fun x hx => hp x (by simp [hx])), rfl⟩
  | [], _ :: _, _, _, _, h, _ => h.elim
  | [], [], _ :: _, _, _, h, _ => h.elim
  | _ :: _, [], _, _, _, h, _ => h.elim
  | _ :: _, _ :: _, [], _, _, h, _ => h.elim

/-- What the row asks behind the call: true; every argument reads as it did. -/
theorem post_true {f : Func} {s : ChangeSpec} {apart fresh handsOn : Bool} {W W' : World} {args : Array Value} {ds gs : List (DataW H)} {before : List MemPlace} {t : TypeId} (hl : laidOutB P = true)
    (hts0 : (f.params.toList.all fun t => P.readableRec t && decide (t < P.types.size)) = true) (hW : DataW.Whole enc P f.params.toList s.vars apart W args.toList ds gs before) (hv : s.vars = []) (hrt : f.resultTypes = #[t]) (hu : P.underlying t = some .bool)
    (hfn : s.fn H (ds ++ gs) = { results := [.lit (.bool true)], args := ds }) (hm : Den.Mod [] W W') : s.post enc P f apart fresh handsOn false W args (.bool true) W' := by
  have hts : ∀ t ∈ f.params.toList, P.readableRec t = true ∧ t < P.types.size := by simpa using fun t ht => (List.all_eq_true.1 hts0) t ht
  have hb := hm.below
  have hlt : ∀ p ∈ before, p.block < W.heap.size := fun p hp => hW.lt p hp
  have hW0 := hW
  obtain ⟨p, q, h1, h2, hps, h3, h4⟩ := hW
  rw [hv] at h2
  obtain ⟨rfl, rfl⟩ := trodVars_none h2
  refine ⟨ds, [], before, [], before, [], hW0, ?_, ?_, ?_, hb.frame _, fun h => by cases h⟩
  · rw [hfn, hrt]
    exact trodAll_cons_mk (shut_bool hu _) trodAll_mk0
  · rw [hfn]
    have : before = p := by simpa using hps
    subst this
    exact trodAll_stays hl hb hts h1 hlt
  · rw [hfn, hv]
    rfl

theorem OkAll.cons {k : Ck} {ks : List Ck} {vs : List Value} (h : OkAll enc P w (k :: ks) vs) : ∃ v vs', vs = v :: vs' ∧ k.ok enc P w v ∧ OkAll enc P w ks vs' := by
  cases vs with
  | nil => exact h.elim
  | cons v vs => exact ⟨v, vs, rfl, h.1, h.2⟩
theorem OkAll.nil {vs : List Value} (h : OkAll enc P w [] vs) : vs = [] := by
  cases vs with
  | nil => rfl
  | cons v vs => exact h.elim

/-- A slice among the arguments: its elements have 'k' cells, which 'q' describes. -/
def SlIn (w : World) (k : Nat) (q : List Value → Prop) (a : Option Addr) (l c : Nat) : Prop :=
  (a = none ∧ l = 0 ∧ c = 0) ∨ ∃ ad, a = some ad ∧ l ≤ c ∧ c ≤ maxLen ∧ (l = 0 ∨ ad.block < w.heap.size) ∧ ∀ i, i < l → ∃ cs, q cs ∧ cs.length = k ∧ ∀ j, j < k → w.cell? (Addr.add (Addr.add ad (i * k)) j) = cs[j]?

theorem cell_lt {w : World} {a : Addr} {v : Value} (h : w.cell? a = some v) : a.block < w.heap.size := by
  by_cases hlt : a.block < w.heap.size
  · exact hlt
  · simp [World.cell?, Array.getElem?_eq_none (Nat.not_lt.1 hlt)] at h

theorem SlCells.toIn {k : Nat} (hk : 0 < k) {ok q : List Value → Prop} (hq : ∀ cs, ok cs → q cs) {a : Option Addr} {l c : Nat} (h : SlCells P w k ok a l c) : SlIn w k q a l c := by
  rcases h with h | ⟨ad, rfl, hl, hc, hx⟩
  · exact .inl h
  · refine .inr ⟨ad, rfl, hl, hc, ?_, fun i hi => ?_⟩
    · rcases Nat.eq_zero_or_pos l with h0 | h0
      · exact .inl h0
      · obtain ⟨cs, h1, _⟩ := hx 0 (by omega)
        obtain ⟨_, h2, h3⟩ := World.cells?_some h1
        have := h3 0 hk
        rw [List.getElem?_eq_getElem (by omega)] at this
        exact .inr (by have h := cell_lt this; rwa [add_block, add_block] at h)
    · obtain ⟨cs, h1, h2⟩ := hx i (by omega)
      obtain ⟨_, h3, h4⟩ := World.cells?_some h1
      exact ⟨cs, hq _ h2, h3, h4⟩
end

theorem okWide_array {P : Program} {w : World} {r : Reach} {base n : Nat} {t e : TypeId} {v : Value} (ht : P.underlying t = some (.array n e)) (h : Value.okWide P w r base t v) : ∃ cs, v = .agg cs := by
  simp only [Value.okWide, ht] at h
  obtain ⟨cs, h, _⟩ := h
  exact ⟨cs, h⟩

theorem SlIn.mod {w w' : World} {k : Nat} {q : List Value → Prop} {a : Option Addr} {l c : Nat} (h : SlIn w k q a l c) (hm : Den.Mod [] w w') : SlIn w' k q a l c := by
  rcases h with h | ⟨ad, rfl, hl, hc, hb, hx⟩
  · exact .inl h
  · refine .inr ⟨ad, rfl, hl, hc, hb.imp id fun hb => Nat.lt_of_lt_of_le hb hm.size, fun i hi => ?_⟩
    obtain ⟨cs, h1, h2, h3⟩ := hx i hi
    refine ⟨cs, h1, h2, fun j hj => ?_⟩
    rw [← h3 j hj]
    exact hm.cell (a := Addr.add (Addr.add ad (i * k)) j) (by rw [add_block, add_block]; exact hb.resolve_left (by omega))
theorem SlIn.le {w : World} {k : Nat} {q : List Value → Prop} {a : Option Addr} {l c : Nat} (h : SlIn w k q a l c) : l ≤ c ∧ c ≤ 9223372036854775807 := by
  rcases h with ⟨_, rfl, rfl⟩ | ⟨ad, rfl, hl, hc, _⟩
  · exact ⟨Nat.le_refl _, by omega⟩
  · exact ⟨hl, hc⟩
theorem SlIn.at {w : World} {k : Nat} {q : List Value → Prop} {a : Option Addr} {l c : Nat} (h : SlIn w k q a l c) {i : Nat} (hi : i < l) :
    ∃ ad cs, a = some ad ∧ ad.block < w.heap.size ∧ q cs ∧ cs.length = k ∧ ∀ j, j < k → w.cell? (Addr.add (Addr.add ad (i * k)) j) = cs[j]? := by
  rcases h with ⟨_, rfl, rfl⟩ | ⟨ad, rfl, hl, hc, hb, hx⟩
  · omega
  · obtain ⟨cs, h1, h2, h3⟩ := hx i hi
    exact ⟨ad, cs, rfl, hb.resolve_left (by omega), h1, h2, h3⟩

end Go.Den
