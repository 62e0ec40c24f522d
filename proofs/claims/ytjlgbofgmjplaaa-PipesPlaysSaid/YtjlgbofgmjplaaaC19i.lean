/-
  Layer 19: the words of pipes; 'Encode'.
-/
import Derived.Test.YtjlgbofgmjplaaaC19h
import Derived.Test.YtjlgbofgmjplaaaRWords
set_option linter.unusedSimpArgs false
namespace Go.Proofs
open Go Go.Den

/-! ### The words, plainly -/

abbrev PS := List (Option (List UInt8))
def b2i (bs : List UInt8) : List Int := bs.map fun b => (b.toNat : Int)
def encP : Option (List UInt8) → List Int
  | none => [0]
  | some bs => 1 :: (bs.length : Int) :: b2i bs
def encL (l : PS) : List Int := l.flatMap encP
def Short (l : PS) : Prop := ∀ (i : Nat) (bs : List UInt8), l[i]? = some (some bs) → bs.length ≤ 8

theorem b2i_length (bs : List UInt8) : (b2i bs).length = bs.length := by simp [b2i]
theorem b2i_inj {a b : List UInt8} (h : b2i a = b2i b) : a = b := by
  unfold b2i at h
  exact (List.map_inj_right (fun x y hxy => UInt8.toNat_inj.1 (by omega))).1 h
theorem encP_ne (e : Option (List UInt8)) : encP e ≠ [] := by cases e <;> simp [encP]

theorem encP_pre {a b : Option (List UInt8)} {r s : List Int} (h : encP a ++ r = encP b ++ s) : a = b ∧ r = s := by
  cases a with
  | none => cases b with
    | none => simpa [encP] using h
    | some y => simp [encP] at h
  | some x => cases b with
    | none => simp [encP] at h
    | some y =>
      simp only [encP, List.cons_append, List.cons.injEq, true_and] at h
      obtain ⟨hl, h⟩ := h
      have hl' : x.length = y.length := by omega
      obtain ⟨h1, h2⟩ := List.append_inj h (by rw [b2i_length, b2i_length, hl'])
      exact ⟨by rw [b2i_inj h1], h2⟩

theorem encL_cons (e : Option (List UInt8)) (l : PS) : encL (e :: l) = encP e ++ encL l := by simp [encL]
theorem encL_append (l l' : PS) : encL (l ++ l') = encL l ++ encL l' := by simp [encL]

/-- What is read ahead of the rest is the same. -/
theorem encL_pre : ∀ {l l' : PS} {r : List Int}, l.length ≤ l'.length → encL l' = encL l ++ r → l'.take l.length = l ∧ encL (l'.drop l.length) = r
  | [], l', r, _, h => by simpa [encL] using h
  | x :: l, [], r, hl, h => by simp at hl
  | x :: l, y :: l', r, hl, h => by
    rw [encL_cons, encL_cons, List.append_assoc] at h
    obtain ⟨hyx, hr⟩ := encP_pre h
    subst hyx
    obtain ⟨h1, h2⟩ := encL_pre (by simpa using hl) hr
    simp [h1, h2]

theorem encL_inj {l l' : PS} (hl : l.length = l'.length) (h : encL l = encL l') : l = l' := by
  have := (encL_pre (l := l') (l' := l) (r := []) (by omega) (by simpa using h)).1
  rwa [← hl, List.take_length] at this

theorem encP_length (e : Option (List UInt8)) (h : ∀ bs, e = some bs → bs.length ≤ 8) : (encP e).length ≤ 10 := by
  cases e with
  | none => simp [encP]
  | some bs => have := h bs rfl; simp [encP, b2i_length]; omega
theorem encL_length : ∀ (l : PS), Short l → (encL l).length ≤ 10 * l.length
  | [], _ => by simp [encL]
  | e :: l, h => by
    have h1 := encP_length e fun bs hb => h 0 bs (by simp [hb])
    have h2 := encL_length l fun i bs hi => h (i + 1) bs (by simpa using hi)
    rw [encL_cons, List.length_append, List.length_cons]
    omega
theorem Short.take {l : PS} (h : Short l) (k : Nat) : Short (l.take k) := fun i bs hi => by
  rw [List.getElem?_take] at hi
  split at hi
  · exact h i bs hi
  · cases hi

theorem PipesP.short {w : World} {p : Nat} {l : PS} {F : List Nat} (h : PipesP w p l F) : Short l := by
  obtain ⟨ps, T, hp, hl, hll, hr, hn, -⟩ := h
  intro i bs hi
  have hlt : i < ps.length := by have := (List.getElem?_eq_some_iff.1 hi).1; omega
  have hg : ps[i]? = some ps[i] := List.getElem?_eq_getElem hlt
  cases hc : ps[i] with
  | none => rw [hc] at hg; rw [hn i hg] at hi; cases hi
  | some r =>
    rw [hc] at hg
    obtain ⟨bs', hb, hring⟩ := hr i r hg
    rw [hi] at hb
    cases hb
    exact hring.len
theorem PipesP.len {w : World} {p : Nat} {l : PS} {F : List Nat} (h : PipesP w p l F) : l.length = 16 := by
  obtain ⟨ps, T, hp, hl, hll, -⟩ := h
  exact hll

def ptO (o : Option Nat) : Option Addr := o.map fun r => ⟨r, 0, none⟩
theorem ptrOf_eq (o : Option Nat) : ptrOf o = .pointer (ptO o) := by cases o <;> rfl

theorem len16 {α : Type} {l : List α} (h : l.length = 16) : ∃ a0 a1 a2 a3 a4 a5 a6 a7 a8 a9 a10 a11 a12 a13 a14 a15 : α, l = [a0, a1, a2, a3, a4, a5, a6, a7, a8, a9, a10, a11, a12, a13, a14, a15] := by
  match l, h with
  | [a0, a1, a2, a3, a4, a5, a6, a7, a8, a9, a10, a11, a12, a13, a14, a15], _ => exact ⟨_, _, _, _, _, _, _, _, _, _, _, _, _, _, _, _, rfl⟩

theorem pipes_encode {w : World} {p : Nat} {l : PS} {F : List Nat} (h : PipesP w p l F) {K : Value → World → Prop}
    (h1 : ∀ (A : Option Addr) (L C : Nat) (G : List Nat) (w' : World), SlB w' A L C 1 (u64s (encL l)) G → Beyond w.heap.size G → Mod [] w w' → K (.slice A L C) w') :
    CallsR Try.prog F_pipes_Pipes_Encode #[.pointer (some ⟨p, 0, none⟩)] w K := by
  apply R_pipes_Pipes_Encode_ok
  have hsh := h.short
  have hlt := h.lt
  obtain ⟨ps, T, hp, hl, hll, hr, hn, hd, hpp, rfl⟩ := h
  simp only [R_pipes_Pipes_Encode, Option.isNone_some, spl_false, nilK_some, addr_add, Nat.zero_add, cell_get hp, spl_decide]
  have hcell : ∀ i, i < 16 → (ps.map ptrOf).toArray[i]? = (ps[i]?).map ptrOf := fun i _ => by simp
  have arr : ∀ t : Nat, t < 16 → ∃ q, ps[t]? = some q := fun t ht => ⟨_, List.getElem?_eq_getElem (by omega)⟩
  obtain ⟨a0, a1, a2, a3, a4, a5, a6, a7, a8, a9, a10, a11, a12, a13, a14, a15, hps⟩ := len16 hl
  refine ⟨ptO a0, ptO a1, ptO a2, ptO a3, ptO a4, ptO a5, ptO a6, ptO a7, ptO a8, ptO a9, ptO a10, ptO a11, ptO a12, ptO a13, ptO a14, ptO a15, by rw [hps]; simp [ptrOf_eq], ?_⟩
  have look : ∀ t : Nat, (#[.pointer (ptO a0), .pointer (ptO a1), .pointer (ptO a2), .pointer (ptO a3), .pointer (ptO a4), .pointer (ptO a5), .pointer (ptO a6), .pointer (ptO a7), .pointer (ptO a8), .pointer (ptO a9), .pointer (ptO a10), .pointer (ptO a11), .pointer (ptO a12), .pointer (ptO a13), .pointer (ptO a14), .pointer (ptO a15)] : Array Value)[t]? = (ps[t]?).map fun o => .pointer (ptO o) := fun t => by
    have : (#[.pointer (ptO a0), .pointer (ptO a1), .pointer (ptO a2), .pointer (ptO a3), .pointer (ptO a4), .pointer (ptO a5), .pointer (ptO a6), .pointer (ptO a7), .pointer (ptO a8), .pointer (ptO a9), .pointer (ptO a10), .pointer (ptO a11), .pointer (ptO a12), .pointer (ptO a13), .pointer (ptO a14), .pointer (ptO a15)] : Array Value) = (ps.map fun o => Value.pointer (ptO o)).toArray := by rw [hps]; rfl
    rw [this]; simp
  clear hps
  refine ⟨fun n A L C t w' => ∃ (k : Nat) (G : List Nat), t = k ∧ k ≤ 16 ∧ n = 16 - k ∧ SlB w' A L C 1 (u64s (encL (l.take k))) G ∧ Beyond w.heap.size G ∧ Mod [] w w', ⟨16, 0, [], rfl, by omega, rfl, by simpa [encL] using SlB.nil w 1, by simp [Beyond], Mod.refl _ _⟩, ?_⟩
  rintro n A L C t - w2 ⟨k, G, rfl, hk, rfl, hs, hG, hm⟩
  refine ⟨fun hlt16 => ?_, fun hge => ?_⟩
  · have hk16 : k < 16 := by omega
    have hlen := hs.u64
    have hen := encL_length _ (hsh.take k)
    rw [List.length_take] at hen
    obtain ⟨e, he⟩ : ∃ e, l[k]? = some e := ⟨_, List.getElem?_eq_getElem (by omega)⟩
    have htk : l.take (k + 1) = l.take k ++ [e] := by
      rw [List.take_add_one, he]; rfl
    have hek : encL (l.take (k + 1)) = encL (l.take k) ++ encP e := by rw [htk, encL_append]; simp [encL]
    refine ⟨fun A' L' C' w' => ∃ G' : List Nat, SlB w' A' L' C' 1 (u64s (encL (l.take (k + 1)))) G' ∧ Beyond w.heap.size G' ∧ Mod [] w w', ?_, ⟨by omega, by omega⟩, ?_⟩
    · rintro A' L' C' - w3 ⟨G', hs', hG', hm'⟩
      exact ⟨16 - (k + 1), by omega, k + 1, G', by rw [w64 (by omega) (by omega)]; omega, by omega, rfl, hs', hG', hm'⟩
    obtain ⟨q, hq⟩ := arr k hk16
    refine ⟨ptO q, by rw [Int.toNat_natCast, look, hq]; rfl, ?_⟩
    cases q with
    | none =>
      have he0 : e = none := by rw [hn k hq] at he; exact (Option.some.inj he).symm
      subst he0
      simp only [ptO, Option.map_none, Option.isNone_none, spl_true, newK_eq]
      obtain ⟨A', C', w', G', hrun, hs', hG', hm', -, -⟩ := push_run slT_u64 (by decide) hs hG hm (us := [.int .u64 0]) (n := 1) rfl (by simp [isCell]) (by omega) (by omega) 67 37
      exact ⟨_, _, hrun, _, _, _, rfl, G', by rw [hek, u64s_append]; exact hs', hG', hm'⟩
    | some r =>
      obtain ⟨bs, hb, hring⟩ := hr k r hq
      have he0 : e = some bs := by rw [hb] at he; exact (Option.some.inj he).symm
      subst he0
      have hbl := hring.len
      have hrlt := hring.lt
      obtain ⟨arr, T2, f, har, hsz, h8, h9, hf, _, hall, hget⟩ := hring
      have hb8 : ∀ {u : World}, Mod [] w u → u.heap[r]? = some (.cells arr T2 (0, 0)) := fun h => h.get har (by simp)
      simp only [ptO, Option.map_some, Option.isNone_some, spl_false, nilK_some, newK_eq, addr_add, Nat.zero_add]
      refine ⟨_, by rw [cell_get (hb8 hm)]; exact h9, ?_⟩
      have e1 : IntKind.u64.wrap (bs.length : Int) = (bs.length : Int) := wu64 (by omega) (by omega)
      rw [e1]
      obtain ⟨A', C', w', G', hrun, hs', hG', hm', -, -⟩ := push_run slT_u64 (by decide) hs hG hm (us := [.int .u64 1, .int .u64 (bs.length : Int)]) (n := 2) rfl (by simp [isCell]) (by omega) (by omega) 67 37
      refine ⟨_, _, hrun, _, _, _, rfl, _, by rw [cell_get (hb8 hm')]; exact h9, ?_⟩
      refine ⟨fun n A L C t w' => ∃ (j : Nat) (G : List Nat), t = j ∧ j ≤ bs.length ∧ n = bs.length - j ∧ SlB w' A L C 1 (u64s (encL (l.take k) ++ 1 :: (bs.length : Int) :: b2i (bs.take j))) G ∧ Beyond w.heap.size G ∧ Mod [] w w', ⟨bs.length, 0, G', rfl, by omega, rfl, by rw [u64s_append]; exact hs', hG', hm'⟩, ?_⟩
      rintro n A3 L3 C3 t - w3 ⟨j, G3, rfl, hj, rfl, hs3, hG3, hm3⟩
      refine ⟨fun hjlt => ?_, fun hjge => ?_⟩
      · have hjl : j < bs.length := by omega
        have hlen3 := hs3.u64
        simp [b2i_length] at hlen3
        have ef : Int.tmod (IntKind.i64.wrap ((f : Int) + (j : Int))) 8 = (((f + j) % 8 : Nat) : Int) := by
          rw [w64 (by omega) (by omega), ← Int.natCast_add, Int.tmod_eq_emod_of_nonneg (by omega)]
          omega
        have hg := hget j hjl
        rw [List.getElem?_eq_getElem hjl, Option.map_some] at hg
        rw [drK_eq]
        refine ⟨[r], by simp, (f : Int), by rw [World.cell?_drew, cell_get (hb8 hm3)]; exact h8, by decide, ?_⟩
        rw [ef]
        refine ⟨⟨by omega, by omega⟩, by simp, ((bs[j]).toNat : Int), by rw [World.cell?_drew, Int.toNat_natCast, cell_get (hb8 hm3)]; exact hg, ?_⟩
        have e2 : IntKind.u64.wrap ((bs[j]).toNat : Int) = ((bs[j]).toNat : Int) := wu64 (by omega) (by have := (bs[j]).toNat_lt; omega)
        rw [e2]
        obtain ⟨A', C', w', G', hrun, hs', hG', hm', hm'', -⟩ := push_run slT_u64 (by decide) (hs3.keep (w' := w3.drew) fun _ _ => rfl) hG3 hm3.drew (us := [.int .u64 ((bs[j]).toNat : Int)]) (n := 1) rfl (by simp [isCell]) (by omega) (by omega) 67 37
        have kp : ∀ {u : World}, Mod [] w u → keepB [r] w3.drew u := fun h b hb => by
          simp only [List.mem_singleton] at hb
          subst hb
          rw [hb8 h]; exact (hb8 hm3).symm
        refine ⟨kp (hm3.drew.alloc _), _, _, hrun, _, _, _, rfl, kp hm', bs.length - (j + 1), by omega, j + 1, G', by rw [w64 (by omega) (by omega)]; omega, by omega, rfl, ?_, hG', hm'⟩
        have e3 : b2i (bs.take (j + 1)) = b2i (bs.take j) ++ [((bs[j]).toNat : Int)] := by
          rw [List.take_succ_eq_append_getElem hjl, b2i, List.map_append]; rfl
        rw [e3]
        have e4 : encL (l.take k) ++ 1 :: (bs.length : Int) :: (b2i (bs.take j) ++ [((bs[j]).toNat : Int)]) = (encL (l.take k) ++ 1 :: (bs.length : Int) :: b2i (bs.take j)) ++ [((bs[j]).toNat : Int)] := by simp
        rw [e4, u64s_append]
        exact hs'
      · have hjb : j = bs.length := by omega
        subst hjb
        rw [List.take_length] at hs3
        exact ⟨G3, by rw [hek]; exact hs3, hG3, hm3⟩
  · have hk16 : k = 16 := by omega
    subst hk16
    rw [List.take_of_length_le (by omega)] at hs
    exact h1 A L C G w2 hs hG hm

end Go.Proofs
