/-
  Layer 19: the program's 'Decode'.
-/
import Derived.Test.YtjlgbofgmjplaaaC19i
set_option linter.unusedSimpArgs false
namespace Go.Proofs
open Go Go.Den

theorem pipes_slot {w : World} {p : Nat} {l : PS} {F : List Nat} (h : PipesP w p l F) {k : Nat} {bs : List UInt8} (hb : l[k]? = some (some bs)) :
    ∃ r, w.cell? ⟨p, k, none⟩ = some (.pointer (some ⟨r, 0, none⟩)) ∧ RingP w r bs ∧ r ∈ F ∧ ∀ (w' : World) (bs' : List UInt8), RingP w' r bs' → Mod [r] w w' → PipesP w' p (l.set k (some bs')) F := by
  obtain ⟨ps, T, hp, hl, hll, hr, hn, hd, hpp, rfl⟩ := h
  have hkl : k < l.length := (List.getElem?_eq_some_iff.1 hb).1
  have hget : ps[k]? = some (ps[k]'(by omega)) := List.getElem?_eq_getElem _
  cases hc : ps[k]'(by omega) with
  | none => rw [hc] at hget; rw [hn k hget] at hb; cases hb
  | some r =>
    rw [hc] at hget
    obtain ⟨bs0, hb0, hring⟩ := hr k r hget
    rw [hb] at hb0
    obtain rfl : bs = bs0 := Option.some.inj (Option.some.inj hb0)
    have hrp : r ≠ p := fun h => hpp k (h ▸ hget)
    refine ⟨r, by rw [cell_get hp]; simp [hget, ptrOf], hring, by simp only [List.mem_cons]; exact .inr (mem_rings.2 ⟨k, hget⟩), fun w' bs' hr' hm => ⟨ps, T, hm.get hp (by simpa using Ne.symm hrp), hl, by simpa using hll, fun i q hi => ?_, fun i hi => ?_, hd, hpp, rfl⟩⟩
    · rw [List.getElem?_set]
      by_cases hik : k = i
      · subst hik
        rw [if_pos rfl, if_pos hkl]
        obtain rfl : r = q := Option.some.inj (Option.some.inj (hget.symm.trans hi))
        exact ⟨bs', rfl, hr'⟩
      · rw [if_neg hik]
        obtain ⟨bq, hbq, hrq⟩ := hr i q hi
        exact ⟨bq, hbq, hrq.keep (hm.keep q hrq.lt (by simp; rintro rfl; exact hik (hd k i q hget hi)))⟩
    · rw [List.getElem?_set]
      by_cases hik : k = i
      · subst hik; rw [hget] at hi; cases hi
      · rw [if_neg hik]; exact hn i hi

theorem pipes_slot_new {w : World} {p : Nat} {l : PS} {F : List Nat} (h : PipesP w p l F) {k : Nat} (hb : l[k]? = some none) :
    ∃ arr T, w.heap[p]? = some (.cells arr T (0, 0)) ∧ arr.size = 16 ∧ p ∈ F ∧ ∀ (r : Nat) (w' : World), w'.heap[p]? = some (.cells (arr.setIfInBounds k (.pointer (some ⟨r, 0, none⟩))) T (0, 0)) → RingP w' r [] → r ∉ F → (∀ b ∈ F, b ≠ p → w'.heap[b]? = w.heap[b]?) →
      ∃ F', PipesP w' p (l.set k (some [])) F' ∧ ∀ b ∈ F', b ∈ F ∨ b = r := by
  obtain ⟨ps, T, hp, hl, hll, hr, hn, hd, hpp, rfl⟩ := h
  have hkl : k < l.length := (List.getElem?_eq_some_iff.1 hb).1
  refine ⟨_, T, hp, by simpa using hl, by simp, fun r w' hp' hring hrF hk' => ⟨p :: (ps.set k (some r)).filterMap id, ⟨ps.set k (some r), T, ?_, by simpa using hl, by simpa using hll, fun i q hi => ?_, fun i hi => ?_, fun i i' q hi hi' => ?_, fun i hi => ?_, rfl⟩, fun b hb => ?_⟩⟩
  · rw [hp', List.map_set]; simp [ptrOf]
  · rw [List.getElem?_set] at hi ⊢
    by_cases hik : k = i
    · rw [if_pos hik, if_pos (by omega)] at hi
      rw [if_pos hik, if_pos (by omega)]
      obtain rfl : r = q := Option.some.inj (Option.some.inj hi)
      exact ⟨[], rfl, hring⟩
    · rw [if_neg hik] at hi ⊢
      obtain ⟨bq, hbq, hrq⟩ := hr i q hi
      exact ⟨bq, hbq, hrq.keep (hk' q (by simp only [List.mem_cons]; exact .inr (mem_rings.2 ⟨i, hi⟩)) (by rintro rfl; exact hpp i hi))⟩
  · rw [List.getElem?_set] at hi ⊢
    by_cases hik : k = i
    · rw [if_pos hik] at hi; split at hi <;> cases hi
    · rw [if_neg hik] at hi ⊢; exact hn i hi
  · rw [List.getElem?_set] at hi hi'
    have hno : ∀ i q, ps[i]? = some (some q) → q ≠ r := fun i q h e => hrF (by simp only [List.mem_cons]; exact .inr (mem_rings.2 ⟨i, e ▸ h⟩))
    by_cases hik : k = i <;> by_cases hik' : k = i'
    · omega
    · rw [if_pos hik, if_pos (by omega)] at hi
      rw [if_neg hik'] at hi'
      exact absurd (Option.some.inj (Option.some.inj hi)).symm (hno i' q hi')
    · rw [if_pos hik', if_pos (by omega)] at hi'
      rw [if_neg hik] at hi
      exact absurd (Option.some.inj (Option.some.inj hi')).symm (hno i q hi)
    · rw [if_neg hik] at hi; rw [if_neg hik'] at hi'
      exact hd i i' q hi hi'
  · rw [List.getElem?_set] at hi
    by_cases hik : k = i
    · rw [if_pos hik, if_pos (by omega)] at hi
      exact hrF (by rw [Option.some.inj (Option.some.inj hi)]; simp)
    · rw [if_neg hik] at hi; exact hpp i hi
  · simp only [List.mem_cons] at hb ⊢
    rcases hb with rfl | hb
    · exact .inl (.inl rfl)
    · obtain ⟨i, hi⟩ := mem_rings.1 hb
      rw [List.getElem?_set] at hi
      by_cases hik : k = i
      · rw [if_pos hik, if_pos (by omega)] at hi
        exact .inr (Option.some.inj (Option.some.inj hi)).symm
      · rw [if_neg hik] at hi
        exact .inl (.inr (mem_rings.2 ⟨i, hi⟩))

/-- What is left to read stands in the cell at block 'b'. -/
def NextP (w : World) (b : Nat) (xs : List Int) (G0 : List Nat) : Prop :=
  ∃ (a : Option Addr) (l c : Nat) (T : TypeId) (G : List Nat), w.heap[b]? = some (.cells #[.slice a l c] T (0, 0)) ∧ Rd w a l 1 (u64s xs) G ∧ (∀ x ∈ G, x ∈ G0) ∧ l ≤ c

theorem NextP.keep {w w' : World} {b : Nat} {xs : List Int} {G0 : List Nat} (h : NextP w b xs G0) (hb : w'.heap[b]? = w.heap[b]?) (hG : ∀ x ∈ G0, w'.heap[x]? = w.heap[x]?) : NextP w' b xs G0 := by
  obtain ⟨a, l, c, T, G, h1, h2, h3, h4⟩ := h
  exact ⟨a, l, c, T, G, hb.trans h1, h2.keep fun x hx => hG x (h3 x hx), h3, h4⟩

theorem next_run {w : World} {b : Nat} {xs : List Int} {G0 : List Nat} (h : NextP w b xs G0) (hb : b ∉ G0) {K : Value → World → Prop} (h0 : xs = [] → K (.tuple #[.int .u64 0, .bool false]) w)
    (h1 : ∀ (x : Int) (xs' : List Int) (w' : World), xs = x :: xs' → NextP w' b xs' G0 → Mod [b] w w' → K (.tuple #[.int .u64 x, .bool true]) w') : CallsR Try.prog F_pipes_Decode_1 #[.pointer (some ⟨b, 0, none⟩)] w K := by
  apply R_pipes_Decode_1_ok
  obtain ⟨a, l, c, T, G, hc, hr, hG, hlc⟩ := h
  have hl := hr.u64
  simp only [R_pipes_Decode_1, spl_beq, nilK_some]
  refine ⟨a, l, c, by rw [cell_get hc]; rfl, fun h => h0 (List.eq_nil_of_length_eq_zero (by omega)), fun hne => ?_⟩
  have hl0 : 0 < l := by omega
  obtain ⟨ad, x, rfl, hx, hcx, -, -⟩ := hr.u64at hl0
  obtain ⟨xs', rfl⟩ : ∃ xs', xs = x :: xs' := by
    cases xs with
    | nil => simp at hx
    | cons y ys => exact ⟨ys, by simpa using hx⟩
  refine ⟨_, l, c, by rw [cell_get hc]; rfl, ?_⟩
  rw [nilK_some]
  refine ⟨⟨by omega, by omega⟩, x, by simpa using hcx, _, l, c, by rw [cell_get hc]; rfl, ?_⟩
  refine slK_rd hr hlc (L := 1) (H := l) (.inl rfl) (.inr ⟨rfl, rfl⟩) (by omega) (Nat.le_refl _) fun a' G' hr' hG' => ?_
  refine stK_of hc (by simp) ?_
  refine h1 x xs' _ rfl ⟨a', l - 1, c - 1, T, G', by rw [upd_same hc]; simp, ?_, fun y hy => hG y (hG' y hy), by omega⟩ ((Mod.refl _ _).upd (.inl (by simp)) _)
  have e : ((u64s (x :: xs')).drop (1 * 1)).take ((l - 1) * 1) = u64s xs' := by
    have : xs'.length = l - 1 := by simp at hl; omega
    rw [show 1 * 1 = 1 from rfl, u64s_drop, u64s_take, List.drop_one, List.tail_cons, List.take_of_length_le (by omega)]
  rw [e] at hr'
  exact hr'.keep fun y hy => upd_ne _ (by rintro rfl; exact hb (hG _ (hG' _ hy)))

def Sh1 (e : Option (List UInt8)) : Prop := ∀ bs, e = some bs → bs.length ≤ 8

theorem dec_fail {pre : PS} {rest xs : List Int} (hx : xs = encL pre ++ rest) (hk : pre.length < 16) (H : ∀ (e : Option (List UInt8)) (post : PS), Sh1 e → rest = encP e ++ encL post → False) : ∀ full : PS, full.length = 16 → Short full → encL full = xs → False := by
  intro full hl hs he
  obtain ⟨h1, h2⟩ := encL_pre (l := pre) (l' := full) (r := rest) (by omega) (he.trans hx)
  cases hd : full.drop pre.length with
  | nil => have := congrArg List.length hd; simp at this; omega
  | cons e post =>
    rw [hd, encL_cons] at h2
    refine H e post (fun bs hb => ?_) h2.symm
    have : full[pre.length]? = some e := by
      have := congrArg (·[0]?) hd
      simpa using this
    exact hs _ bs (by rw [this, hb])

theorem rep_set (pre : PS) (n : Nat) (x : Option (List UInt8)) (y : Option (List UInt8)) : (pre ++ x :: List.replicate n none).set pre.length y = pre ++ y :: List.replicate n none := by
  rw [List.set_append_right _ _ (Nat.le_refl _)]; simp

def NoDec (xs : List Int) : Prop := ∀ full : PS, full.length = 16 → Short full → encL full = xs → False

theorem pipes_decode {w : World} {a : Option Addr} {l c : Nat} {xs : List Int} {G : List Nat} (h : Rd w a l 1 (u64s xs) G) (hlc : l ≤ c) (hx0 : ∀ x ∈ xs, 0 ≤ x) {K : Value → World → Prop}
    (h0 : NoDec xs → ∀ w', Mod [] w w' → K (.tuple #[.pointer none, .int .i64 101]) w')
    (h1 : ∀ (p : Nat) (full : PS) (F : List Nat) (w' : World), full.length = 16 → encL full = xs → PipesP w' p full F → Beyond w.heap.size F → Mod [] w w' → K (.tuple #[.pointer (some ⟨p, 0, none⟩), .int .i64 0]) w') :
    CallsR Try.prog F_pipes_Decode #[.slice a l c] w K := by
  apply R_pipes_Decode_ok
  simp only [R_pipes_Decode]
  refine pipes_new w fun p F w1 hp1 hm1 hF => ⟨_, rfl, ?_⟩
  simp only [newK_eq, spl_decide, spl_beq, nilK_some, addr_add, Nat.zero_add]
  have hGlt := h.lt
  have hFlt := hp1.lt
  refine stK_of (alloc_new _ _) (by simp) ?_
  generalize hw2 : (w1.alloc _).upd _ _ = w2
  obtain ⟨b, hb⟩ : ∃ b, b = w1.heap.size := ⟨_, rfl⟩
  rw [← hb]
  have hbw : w.heap.size ≤ b := by rw [hb]; exact hm1.size
  have hbG : b ∉ G := fun hm => by have := hGlt b hm; omega
  have m12 : Mod [] w1 w2 := by rw [← hw2]; exact ((Mod.refl [] w1).alloc _).upd (.inr (Nat.le_refl _)) _
  have hm2 := hm1.trans' m12
  have hbc : w2.heap[b]? = some (.cells #[.slice a l c] 37 (0, 0)) := by rw [← hw2, hb, upd_same (alloc_new _ _)]; simp
  have hp2 : PipesP w2 p (List.replicate 16 none) F := hp1.keep fun x hx => m12.keep x (hFlt x hx) (by simp)
  have hbF : b ∉ F := fun hm => by have := hFlt b hm; omega
  have hn2 : NextP w2 b xs G := ⟨a, l, c, 37, G, hbc, h.mod0 hm2, fun _ h => h, hlc⟩
  clear hw2 hp1 hbc hb m12 hFlt
  refine ⟨fun n t w' => ∃ (k : Nat) (pre : PS) (F' : List Nat) (rest : List Int), t = k ∧ k ≤ 16 ∧ n = 16 - k ∧ pre.length = k ∧ xs = encL pre ++ rest ∧ PipesP w' p (pre ++ List.replicate (16 - k) none) F' ∧ Beyond w.heap.size F' ∧ NextP w' b rest G ∧ b ∉ F' ∧ Mod [] w w',
    ⟨16, 0, [], F, xs, rfl, by omega, rfl, rfl, rfl, hp2, hF, hn2, hbF, hm2⟩, ?_⟩
  rintro n t - w3 ⟨k, pre, F3, rest, rfl, hk, rfl, hpre, hxs, hp3, hF3, hn3, hbF3, hm3⟩
  clear hp2 hn2 hbF
  have nb : ∀ {u u' : World}, Mod [] w u → Mod [b] u u' → Mod [] w u' := fun h h' => h.trans h' fun x hx hlt => by simp only [List.mem_singleton] at hx; subst hx; omega
  refine ⟨fun hlt => ?_, fun hge => ?_⟩
  · have hk16 : k < 16 := by omega
    have erep : List.replicate (16 - k) (none : Option (List UInt8)) = none :: List.replicate (16 - (k + 1)) none := by
      rw [show 16 - k = (16 - (k + 1)) + 1 by omega, List.replicate_succ]
    rw [erep] at hp3
    refine ⟨fun w' => ∃ (pre : PS) (F' : List Nat) (rest : List Int), pre.length = k + 1 ∧ xs = encL pre ++ rest ∧ PipesP w' p (pre ++ List.replicate (16 - (k + 1)) none) F' ∧ Beyond w.heap.size F' ∧ NextP w' b rest G ∧ b ∉ F' ∧ Mod [] w w', ?_, ?_⟩
    · rintro - w4 ⟨pre, F', rest, hl, hx, hp, hF', hn, hb', hm⟩
      exact ⟨16 - (k + 1), by omega, k + 1, pre, F', rest, by rw [w64 (by omega) (by omega)]; omega, by omega, rfl, hl, hx, hp, hF', hn, hb', hm⟩
    refine next_run hn3 hbG (fun hnil => ⟨_, _, rfl, ?_⟩) (fun x rest1 w4 hr hn4 hm34 => ⟨_, _, rfl, ?_⟩)
    · rw [spl_false]
      refine h0 (dec_fail hxs (by omega) fun e post _ he => ?_) w3 hm3
      rw [hnil] at he
      exact encP_ne e (List.append_eq_nil_iff.1 he.symm).1
    · subst hr
      have hm4 := nb hm3 hm34
      have hp4 : PipesP w4 p (pre ++ none :: List.replicate (16 - (k + 1)) none) F3 := hp3.keep fun y hy => hm34.keep y (hp3.lt y hy) (by simp; rintro rfl; exact hbF3 hy)
      have hx0' : 0 ≤ x := hx0 x (by rw [hxs]; simp)
      rw [spl_true]
      refine ⟨fun hgt => ?_, fun hle => ⟨fun hz => ?_, fun hnz => ?_⟩⟩
      · refine h0 (dec_fail hxs (by omega) fun e post _ he => ?_) w4 hm4
        cases e <;> simp [encP] at he <;> omega
      · subst hz
        exact ⟨pre ++ [none], F3, rest1, by simp [hpre], by rw [hxs, encL_append]; simp [encL, encP], by simpa using hp4, hF3, hn4, hbF3, hm4⟩
      · have hx1 : x = 1 := by omega
        subst hx1
        obtain ⟨arr, T, hpa, hsz, hpF, hnew⟩ := pipes_slot_new hp4 (k := k) (by rw [← hpre, List.getElem?_append_right (Nat.le_refl _)]; simp)
        have hF4lt := hp4.lt
        have hpa' := alloc_get (.cells #[.int .u8 0, .int .u8 0, .int .u8 0, .int .u8 0, .int .u8 0, .int .u8 0, .int .u8 0, .int .u8 0, .int .i64 0, .int .i64 0] 61) hpa
        refine ⟨⟨by omega, by omega⟩, ?_⟩
        rw [Int.toNat_natCast]
        refine stK_of hpa' (by simp; omega) ?_
        simp only [splice_cons, splice_nil]
        generalize hw5 : (w4.alloc _).upd _ _ = w5
        have hr5 : w5.heap[w4.heap.size]? = some (.cells #[.int .u8 0, .int .u8 0, .int .u8 0, .int .u8 0, .int .u8 0, .int .u8 0, .int .u8 0, .int .u8 0, .int .i64 0, .int .i64 0] 61) := by
          rw [← hw5, upd_ne _ (by have := hF4lt p hpF; omega)]; exact alloc_new _ _
        have hm45 : Mod F3 w4 w5 := by rw [← hw5]; exact ((Mod.refl F3 w4).alloc _).upd (.inl hpF) _
        obtain ⟨F5, hp5, hF5⟩ := hnew w4.heap.size w5 (by rw [← hw5, upd_same hpa']) ⟨_, 61, 0, hr5, rfl, rfl, rfl, by omega, by simp, fun i hi => ⟨0, by
          match i, hi with
          | 0, _ | 1, _ | 2, _ | 3, _ | 4, _ | 5, _ | 6, _ | 7, _ => rfl⟩, fun i hi => by simp at hi⟩ (fun hm => by have := hF4lt _ hm; omega) (fun x hx hxp => by rw [← hw5, upd_ne _ (Ne.symm hxp)]; exact alloc_old _ (hF4lt x hx))
        rw [← hpre, rep_set, hpre] at hp5
        have hbF5 : b ∉ F5 := fun hm => by
          rcases hF5 b hm with h | h
          · exact hbF3 h
          · have := lt_of_get (show w4.heap[b]? = some _ from hn4.choose_spec.choose_spec.choose_spec.choose_spec.choose_spec.1); omega
        have hblt : b < w4.heap.size := lt_of_get (show w4.heap[b]? = some _ from hn4.choose_spec.choose_spec.choose_spec.choose_spec.choose_spec.1)
        have hG4 : ∀ y ∈ G, y < w4.heap.size := fun y hy => Nat.lt_of_lt_of_le (hGlt y hy) hm4.size
        have hGF : ∀ y ∈ G, y ∉ F3 := fun y hy hm => by have := hF3 y hm; have := hGlt y hy; omega
        have hn5 : NextP w5 b rest1 G := hn4.keep (hm45.keep b hblt hbF3) fun y hy => hm45.keep y (hG4 y hy) (hGF y hy)
        have hm5 : Mod [] w w5 := hF3.mod hm4 hm45
        have hF5' : Beyond w.heap.size F5 := fun y hy => by
          rcases hF5 y hy with h | h
          · exact hF3 y h
          · have := hm4.size; omega
        clear hw5 hr5 hm45 hp4 hp3 hn4 hn3 hnew hpa hpa' hF4lt
        refine next_run hn5 hbG (fun hnil => ⟨_, _, rfl, ?_⟩) (fun m rest2 w6 hr hn6 hm56 => ⟨_, _, rfl, ?_⟩)
        · rw [spl_false]
          refine h0 (dec_fail hxs (by omega) fun e post _ he => ?_) w5 hm5
          rw [hnil] at he
          cases e <;> simp [encP] at he
        · subst hr
          rw [spl_true]
          have hm6 := nb hm5 hm56
          have hp6 := hp5.keep (w' := w6) fun y hy => hm56.keep y (hp5.lt y hy) (by simp; rintro rfl; exact hbF5 hy)
          have hm0 : 0 ≤ m := hx0 m (by rw [hxs]; simp)
          refine ⟨fun hgt => ?_, fun hle => ?_⟩
          · refine h0 (dec_fail hxs (by omega) fun e post hs he => ?_) w6 hm6
            cases e with
            | none => simp [encP] at he
            | some bs' => have := hs bs' rfl; simp [encP] at he; omega
          · obtain ⟨M, rfl⟩ := nat_of hm0
            refine ⟨fun n t w' => ∃ (bs : List UInt8) (r : List Int), t = bs.length ∧ bs.length ≤ M ∧ n = M - bs.length ∧ rest2 = b2i bs ++ r ∧ PipesP w' p (pre ++ some bs :: List.replicate (16 - (k + 1)) none) F5 ∧ NextP w' b r G ∧ Mod [] w w', ⟨M, [], rest2, rfl, by simp, rfl, rfl, hp6, hn6, hm6⟩, ?_⟩
            rintro n t - w7 ⟨bs, r, rfl, hbM, rfl, hr2, hp7, hn7, hm7⟩
            refine ⟨fun hjlt => ?_, fun hjge => ?_⟩
            · refine next_run hn7 hbG (fun hnil => ⟨_, _, rfl, ?_⟩) (fun x r1 w8 hr hn8 hm78 => ⟨_, _, rfl, ?_⟩)
              · rw [spl_false]
                refine h0 (dec_fail hxs (by omega) fun e post _ he => ?_) w7 hm7
                cases e with
                | none => simp [encP] at he
                | some bs' =>
                  rw [hr2, hnil] at he
                  simp [encP] at he
                  have := congrArg List.length he.2
                  simp [b2i_length] at this
                  omega
              · subst hr
                have hm8 := nb hm7 hm78
                have hp8 := hp7.keep (w' := w8) fun y hy => hm78.keep y (hp7.lt y hy) (by simp; rintro rfl; exact hbF5 hy)
                have hx8 : 0 ≤ x := hx0 x (by rw [hxs, hr2]; simp)
                rw [spl_true]
                refine ⟨fun hgt => ?_, fun hle255 => ?_⟩
                · refine h0 (dec_fail hxs (by omega) fun e post _ he => ?_) w8 hm8
                  cases e with
                  | none => simp [encP] at he
                  | some bs' =>
                    rw [hr2] at he
                    simp [encP] at he
                    have hxb : (b2i bs' ++ encL post)[bs.length]? = some x := by
                      rw [← he.2, List.getElem?_append_right (by rw [b2i_length]; exact Nat.le_refl _), b2i_length]; simp
                    rw [List.getElem?_append_left (by rw [b2i_length]; omega)] at hxb
                    simp only [b2i, List.getElem?_map, Option.map_eq_some_iff] at hxb
                    obtain ⟨c, _, hc⟩ := hxb
                    have := c.toNat_lt
                    omega
                · obtain ⟨q, hq, hring, hqF, hset⟩ := pipes_slot hp8 (k := k) (bs := bs) (by rw [← hpre, List.getElem?_append_right (Nat.le_refl _)]; simp)
                  refine ⟨⟨by omega, by omega⟩, some ⟨q, 0, none⟩, hq, ?_⟩
                  have ec : Value.int .u8 (IntKind.u8.wrap x) = u8v (UInt8.ofNat x.toNat) := by
                    unfold u8v
                    congr 1
                    have : (UInt8.ofNat x.toNat).toNat = x.toNat := by simp; omega
                    rw [this, IntKind.wrap_u8]; omega
                  rw [ec]
                  refine ring_put hring _ (fun h8 => by omega) (fun hlt8 w9 hr9 hm89 => ⟨_, rfl, ?_⟩)
                  have hp9 := hset w9 _ hr9 hm89
                  rw [← hpre, rep_set, hpre] at hp9
                  have hblt8 : b < w8.heap.size := lt_of_get (show w8.heap[b]? = some _ from hn8.choose_spec.choose_spec.choose_spec.choose_spec.choose_spec.1)
                  have hqw := hF5' q hqF
                  refine ⟨M - (bs.length + 1), by omega, bs ++ [UInt8.ofNat x.toNat], r1, by rw [wu64 (by omega) (by omega)]; simp, by simp; omega, by simp, ?_, hp9, ?_, ?_⟩
                  · rw [hr2]
                    have : (UInt8.ofNat x.toNat).toNat = x.toNat := by simp; omega
                    simp [b2i]
                    omega
                  · exact hn8.keep (hm89.keep b hblt8 (by simp; rintro rfl; exact hbF5 hqF)) fun y hy => hm89.keep y (Nat.lt_of_lt_of_le (hGlt y hy) hm8.size) (by simp; rintro rfl; have := hGlt _ hy; omega)
                  · exact hm8.trans hm89 fun y hy hlt => by simp only [List.mem_singleton] at hy; subst hy; omega
            · have hbl : bs.length = M := by omega
              refine ⟨pre ++ [some bs], F5, r, by simp [hpre], ?_, by simpa using hp7, hF5', hn7, hbF5, hm7⟩
              rw [hxs, hr2, encL_append]
              simp [encL, encP, hbl]
  · have hk16 : k = 16 := by omega
    subst hk16
    simp only [Nat.sub_self, List.replicate_zero, List.append_nil] at hp3
    obtain ⟨a', l', c', T', G', hc', hr', hG', hlc'⟩ := hn3
    have hl' := hr'.u64
    refine ⟨a', l', c', by rw [cell_get hc']; rfl, fun hgt => ?_, fun hle => ?_⟩
    · refine h0 (fun full hl hs he => ?_) w3 hm3
      obtain ⟨e1, e2⟩ := encL_pre (l := pre) (l' := full) (r := rest) (by omega) (he.trans hxs)
      rw [List.drop_of_length_le (by omega)] at e2
      have : rest.length = 0 := by rw [← e2]; rfl
      omega
    · have : rest = [] := List.eq_nil_of_length_eq_zero (by omega)
      subst this
      exact h1 p pre F3 w3 hpre (by rw [hxs]; simp) hp3 hF3 hm3

end Go.Proofs
