/-
  caps: contracts of the program's capabilities: put, Add, Give.
-/
import Derived.Test.YtkcnchnlhdhcbaaPCaps3
set_option linter.unusedSimpArgs false
namespace Go.Den
open Go

theorem find_ckp {s : S8} (hw : W8 s) {c : CE} (hc : c ∈ s.L) : (s.L.find? fun d => ckp d == ckp c) = some c := by
  obtain ⟨h1, h2, h3, -⟩ := hw.in_ c hc
  exact (find_kp hw h1 ⟨h2, h3⟩).trans (look8_of hw.key hc)
theorem ckp_lt {s : S8} (hw : W8 s) {c : CE} (hc : c ∈ s.L) : ckp c < 780 := by
  obtain ⟨h1, h2, h3, -⟩ := hw.in_ c hc
  unfold env12 at h1
  unfold ckp kp
  omega
theorem ckp_inj {s : S8} (hw : W8 s) {c d : CE} (hc : c ∈ s.L) (hd : d ∈ s.L) (h : ckp c = ckp d) : c = d := by
  have h1 := find_ckp hw hc
  rw [h, find_ckp hw hd] at h1
  exact (Option.some.inj h1).symm
theorem PT.has {w : World} {p : Nat} {s : S8} {ps : List (Option Nat)} {F : List Nat} (h : PT w p ps (ob8 s.L ps) [] F) (hl : ps.length = 780) (hw : W8 s) {c : CE} (hc : c ∈ s.L) : ∃ q T, ps[ckp c]? = some (some q) ∧ w.heap[q]? = some (.cells (nodeC c (parV s.L ps c)) T (0, 0)) := by
  have hlt := ckp_lt hw hc
  have ho : ob8 s.L ps (ckp c) = some (nodeC c (parV s.L ps c)) := by rw [ob8, find_ckp hw hc]; rfl
  obtain ⟨o, e⟩ : ∃ o, ps[ckp c]? = some o := ⟨_, List.getElem?_eq_getElem (by omega)⟩
  cases o with
  | none => have := h.no _ e; rw [ho] at this; cases this
  | some q =>
    obtain ⟨arr, T, h1, h2⟩ := h.at_ _ q e
    rw [ho] at h1
    obtain rfl := Option.some.inj h1
    exact ⟨q, T, e, h2⟩
theorem slot_cases {w : World} {p : Nat} {s : S8} {ps : List (Option Nat)} {F : List Nat} (h : PT w p ps (ob8 s.L ps) [] F) (hl : ps.length = 780) (hw : W8 s) {e sl : Int} (he : env12 e) (hs : 1 ≤ sl ∧ sl ≤ 64) :
    (look8 s.L e sl = none ∧ ps[kp e sl]? = some none ∧ w.cell? ⟨p, kp e sl, none⟩ = some (.pointer none)) ∨ (∃ c q, look8 s.L e sl = some c ∧ ps[kp e sl]? = some (some q) ∧ w.cell? ⟨p, kp e sl, none⟩ = some (.pointer (some ⟨q, 0, none⟩))) := by
  have hk := find_kp hw he hs
  have hlt : kp e sl < ps.length := by unfold kp; unfold env12 at he; omega
  obtain ⟨o, ho, hc⟩ := h.cell hlt
  cases o with
  | none =>
    have := h.no _ ho
    rw [ob8, hk] at this
    exact .inl ⟨by simpa using this, ho, hc⟩
  | some q =>
    obtain ⟨arr, T, ha, hb⟩ := h.at_ _ q ho
    rw [ob8, hk] at ha
    cases hlk : look8 s.L e sl with
    | none => rw [hlk] at ha; cases ha
    | some c => exact .inr ⟨c, q, rfl, ho, hc⟩

def parUp (L : List CE) (ps : List (Option Nat)) (o : Int) : Value := match L.find? fun d => d.no == o with
  | none => .pointer none
  | some d => ptrTo ((ps[ckp d]?).getD none)
theorem parV_eq (L : List CE) (ps : List (Option Nat)) (c : CE) : parV L ps c = parUp L ps c.of_ := rfl

theorem parUp_put {s : S8} (hw : W8 s) {e j : Int} (he : env12 e) (hj1 : 1 ≤ j ∧ j ≤ 64) (hj : look8 s.L e j = none) {o : Int} {x : Cap8} (ps : List (Option Nat)) (q : Option Nat) {o' : Int} (ho : o' = 0 ∨ ∃ d ∈ s.L, d.no = o') :
    parUp (s.L ++ [⟨s.last + 1, o, e, j, x⟩]) (ps.set (kp e j) q) o' = parUp s.L ps o' := by
  have hl := hw.last
  have hne : ((s.last + 1) == o') = false := by
    rcases ho with rfl | ⟨d, hd, rfl⟩
    · simp; omega
    · have := (hw.in_ d hd).2.2.2.2.2; simp; omega
  unfold parUp
  rw [List.find?_append, List.find?_cons, List.find?_nil]
  simp only [hne, Option.or_none]
  cases hf : s.L.find? fun d => d.no == o' with
  | none => rfl
  | some d =>
    have hd := List.mem_of_find?_eq_some hf
    simp only
    rw [List.getElem?_set, if_neg]
    intro hk
    have h1 := find_kp hw he hj1
    rw [hk, find_ckp hw hd, hj] at h1
    cases h1
theorem ob8_put {s : S8} (hw : W8 s) {e j : Int} (he : env12 e) (hj1 : 1 ≤ j ∧ j ≤ 64) (hj : look8 s.L e j = none) {o : Int} {x : Cap8} (ps : List (Option Nat)) (q : Option Nat) (ho : o = 0 ∨ ∃ d ∈ s.L, d.no = o) (i : Nat) :
    ob8 (s.L ++ [⟨s.last + 1, o, e, j, x⟩]) (ps.set (kp e j) q) i = if kp e j = i then some (nodeC ⟨s.last + 1, o, e, j, x⟩ (parUp s.L ps o)) else ob8 s.L ps i := by
  have h1 := find_kp hw he hj1
  rw [hj] at h1
  unfold ob8
  rw [List.find?_append, List.find?_cons, List.find?_nil]
  by_cases hk : kp e j = i
  · subst hk
    rw [if_pos rfl, h1]
    simp only [ckp, beq_self_eq_true, Option.none_or, Option.map_some, Option.some.injEq]
    rw [parV_eq, parUp_put hw he hj1 hj ps q ho]
  · rw [if_neg hk]
    have hne : (ckp ⟨s.last + 1, o, e, j, x⟩ == i) = false := by simp [ckp, hk]
    simp only [hne, Option.or_none]
    cases hf : s.L.find? fun c => ckp c == i with
    | none => rfl
    | some c =>
      have hc := List.mem_of_find?_eq_some hf
      simp only [Option.map_some, Option.some.injEq]
      rw [parV_eq, parV_eq, parUp_put hw he hj1 hj ps q]
      rcases hw.up c hc with h | ⟨d, hd, h, -⟩
      · exact .inl h
      · exact .inr ⟨d, hd, h⟩

end Go.Den
namespace Go.Proofs
open Go Go.Den

theorem pput_run {w : World} {p : Nat} {s : S8} {ps : List (Option Nat)} {F : List Nat} (h : PT w p ps (ob8 s.L ps) [] F) (hl : ps.length = 780) (hw : W8 s) {e : Int} (he : env12 e) {x : Cap8} (hx : May8 x) {o : Int} (ho : o = 0 ∨ ∃ d ∈ s.L, d.no = o) {up : Option Addr} (hup : parUp s.L ps o = .pointer up)
    {K : Value → World → Prop} (hK : ∀ w' F', CP w' p (putS8 s e o x) F' → Mod F w w' → Own w F F' → K (.tuple #[.int .i64 (putV8 s e).1, .int .i64 (putV8 s e).2]) w') :
    CallsR Try.prog F_caps_Caps_put #[.pointer (some ⟨p, 0, none⟩), .int .i64 e, .agg #[.int .i64 x.k, .int .i64 x.i, .int .i64 x.n, .int .i64 x.r], .pointer up] w K := by
  apply R_caps_Caps_put_ok
  simp only [R_caps_Caps_put, spl_decide, nilK_some, addr_add, Nat.zero_add]
  have hWp := hw.put he hx ho
  refine (Sep.nil (Mod.refl [] w)).new fun b w1 s1 m1 hb => ?_
  have h1 := h.keep (m1.at0 h.lt)
  refine ⟨fun n t w' => ∃ j : Nat, t = j ∧ 1 ≤ j ∧ j ≤ 65 ∧ n = 65 - j ∧ (∀ i : Nat, 1 ≤ i → i < j → look8 s.L e i ≠ none) ∧ w' = w1, ⟨64, 1, rfl, by omega, by omega, rfl, fun i _ _ => by omega, rfl⟩, ?_⟩
  rintro n t - w2 ⟨j, rfl, hj1, hj, rfl, hno, rfl⟩
  refine ⟨fun hlt => ⟨⟨he.1, he.2⟩, ⟨by omega, by omega⟩, ?_⟩, fun hge => ?_⟩
  · rcases slot_cases h1 hl hw he (sl := j) (by omega) with ⟨g1, g2, g3⟩ | ⟨c, q, g1, g2, g3⟩
    · refine ⟨none, g3, spl_t rfl ?_⟩
      rw [drK_eq]
      have s2 := s1.mod0 ((Mod.refl [] w2).drew)
      generalize w2.drew = w3 at s2 ⊢
      refine ⟨[b], by simp, _, _, _, _, ⟨s2.cell 0 rfl rfl, s2.cell 0 rfl rfl, s2.cell 0 rfl rfl, s2.cell 0 rfl rfl⟩, ⟨he.1, he.2⟩, ?_⟩
      refine s2.new fun q w4 s4 m4 hq => ⟨⟨by omega, by omega⟩, ?_⟩
      have h4 := h.keep (s4.mod.at0 h.lt)
      have hqF : q ∉ F := fun hh => by have := h.lt q hh; have := s2.mod.size; omega
      have hkl : kp e j < ps.length := by unfold kp; unfold env12 at he; omega
      obtain ⟨T, hrow⟩ := h4.row
      refine stK_of hrow (by unfold kp at hkl; simp; omega) ?_
      simp only [splice_cons, splice_nil]
      have er := ptrs_set ps [] hkl (some q)
      have hk4 : w4.heap[q]? = some _ := s4.nth 0 rfl
      have hpq : p ≠ q := fun hh => hqF (hh ▸ h.pmem)
      obtain ⟨F', hF', hF⟩ := h4.put (w' := w4.upd p (.cells ((ps.map ptrTo ++ []).toArray.setIfInBounds (kp e j) (ptrTo (some q))) T (0, 0))) g2 (by rw [er]; exact upd_same hrow) ((upd_ne _ hpq).trans hk4) hqF (fun z _ hz => upd_ne _ (Ne.symm hz))
      have hfree : free8 s.L e = j := by
        rcases free8_spec s.L e with ⟨z1, z2⟩ | ⟨i, z1, z2, z3, z4, z5⟩
        · exact absurd g1 (z2 j (by omega) (by omega))
        · rcases Nat.lt_trichotomy i j with z | z | z
          · exact absurd z4 (hno i z1 z)
          · rw [z3, z]
          · exact absurd g1 (z5 j (by omega) z)
      have hS : putS8 s e o x = ⟨s.L ++ [⟨s.last + 1, o, e, j, x⟩], s.last + 1⟩ := by
        unfold putS8; rw [hfree, if_neg (by omega)]
      have hV : putV8 s e = ((j : Int), 0) := by unfold putV8; rw [hfree, if_neg (by omega)]
      rw [hS] at hK hWp
      rw [hV] at hK
      refine hK _ F' ⟨hWp, _, hF'.say fun i _ => ?_, by simpa using hl⟩ (s4.mod.of0.upd (.inl h.pmem) _) (fun z hz => (hF z hz).imp id fun hh => ?_)
      · show ob8 (s.L ++ [⟨s.last + 1, o, e, j, x⟩]) (ps.set (kp e j) (some q)) i = _
        rw [ob8_put hw he (by omega) g1 ps (some q) ho, hup]
        rfl
      · have := s2.mod.size; omega
    · refine ⟨_, g3, spl_f rfl ⟨64 - j, by omega, j + 1, by rw [w64 (by omega) (by omega)]; omega, by omega, by omega, by omega, fun i hi hij => ?_, rfl⟩⟩
      rcases Nat.lt_or_ge i j with z | z
      · exact hno i hi z
      · obtain rfl : i = j := by omega
        rw [g1]; simp
  · have hfree : free8 s.L e = 0 := by
      rcases free8_spec s.L e with ⟨z1, z2⟩ | ⟨i, z1, z2, z3, z4, z5⟩
      · exact z1
      · exact absurd z4 (hno i z1 (by omega))
    have hS : putS8 s e o x = s := by unfold putS8; rw [if_pos hfree]
    have hV : putV8 s e = (0, 105) := by unfold putV8; rw [if_pos hfree]
    rw [hS, hV] at hK
    exact hK w2 F ⟨hw, ps, h1, hl⟩ m1.of0 (Own.refl _ _)

theorem padd_run {w : World} {p : Nat} {s : S8} {F : List Nat} (h : CP w p s F) (e : Int) (x : Cap8) {K : Value → World → Prop} (hK : ∀ w' F', CP w' p (addS8 s e x) F' → Mod F w w' → Own w F F' → K (.tuple #[.int .i64 (addV8 s e x).1, .int .i64 (addV8 s e x).2]) w') :
    CallsR Try.prog F_caps_Caps_Add #[.pointer (some ⟨p, 0, none⟩), .int .i64 e, .agg #[.int .i64 x.k, .int .i64 x.i, .int .i64 x.n, .int .i64 x.r]] w K := by
  apply R_caps_Caps_Add_ok
  simp only [R_caps_Caps_Add, Option.isNone_some, spl_false]
  refine (Sep.nil (Mod.refl [] w)).new fun b w1 s1 m1 hb => ?_
  have no : ∀ w2, Mod [] w1 w2 → ¬ (env12 e ∧ May8 x) → K (.tuple #[.int .i64 0, .int .i64 101]) w2 := fun w2 hm hn => by
    have := hK w2 F (by unfold addS8; rw [if_neg hn]; exact h.keep ((m1.trans' hm).at0 h.lt)) (m1.trans' hm).of0 (Own.refl _ _)
    rwa [addV8, if_neg hn] at this
  refine pis_run e ⟨_, rfl, ?_⟩
  rw [spl_decide]
  refine ⟨fun he => ⟨_, _, _, _, ⟨s1.cell 0 rfl rfl, s1.cell 0 rfl rfl, s1.cell 0 rfl rfl, s1.cell 0 rfl rfl⟩, ?_⟩, fun he => no w1 (Mod.refl _ _) fun h => he h.1⟩
  refine pmay_run x fun w2 m2 => ⟨_, rfl, ?_⟩
  rw [spl_decide]
  have s2 := s1.mod0 m2
  refine ⟨fun hm => ⟨_, _, _, _, ⟨s2.cell 0 rfl rfl, s2.cell 0 rfl rfl, s2.cell 0 rfl rfl, s2.cell 0 rfl rfl⟩, ?_⟩, fun hm => no w2 m2 fun h => hm h.2⟩
  have hS : addS8 s e x = putS8 s e 0 x := by unfold addS8; rw [if_pos ⟨he, hm⟩]
  have hV : addV8 s e x = putV8 s e := by unfold addV8; rw [if_pos ⟨he, hm⟩]
  rw [hS, hV] at hK
  have hlt := h.lt
  obtain ⟨hw, ps, h1, hl⟩ := h.keep (s2.mod.at0 hlt)
  have hup : parUp s.L ps 0 = .pointer none := by
    unfold parUp
    rw [List.find?_eq_none.2 fun d hd => by have := (hw.in_ d hd).2.2.2.2.1; simp; omega]
  refine pput_run h1 hl hw he hm (.inl rfl) hup fun w3 F3 h3 m3 o3 => ⟨_, _, rfl, hK w3 F3 h3 (s2.mod.of0.trans' m3) fun z hz => (o3 z hz).imp id fun hh => by have := s2.mod.size; omega⟩

theorem pgive_run {w : World} {p : Nat} {s : S8} {F : List Nat} (h : CP w p s F) (e sl to r : Int) {K : Value → World → Prop} (hK : ∀ w' F', CP w' p (giveS8 s e sl to r) F' → Mod F w w' → Own w F F' → K (.tuple #[.int .i64 (giveV8 s e sl to r).1, .int .i64 (giveV8 s e sl to r).2]) w') :
    CallsR Try.prog F_caps_Caps_Give #[.pointer (some ⟨p, 0, none⟩), .int .i64 e, .int .i64 sl, .int .i64 to, .int .i64 r] w K := by
  apply R_caps_Caps_Give_ok
  simp only [R_caps_Caps_Give, Option.isNone_some, spl_false]
  have h0 := h
  obtain ⟨hw, ps, h1, hl⟩ := h
  refine pat_run h1 hl hw e sl (fun hn => ⟨_, rfl, spl_t rfl ?_⟩) (fun c q hlk hq => ⟨_, rfl, spl_f rfl ?_⟩)
  · have := hK w F (by unfold giveS8; rw [hn]; exact h0) (Mod.refl _ _) (Own.refl _ _)
    rwa [giveV8, hn] at this
  obtain ⟨T, hn⟩ := node_at h1 hw hlk hq
  obtain ⟨hm, hce, hcs⟩ := look8_some hlk
  have hcx := (hw.in_ c hm).2.2.2.1
  have d0 : w.cell? ⟨q, 0, none⟩ = some (.int .i64 c.x.k) := by rw [cell_get hn]; rfl
  have d1 : w.cell? ⟨q, 1, none⟩ = some (.int .i64 c.x.i) := by rw [cell_get hn]; rfl
  have d2 : w.cell? ⟨q, 2, none⟩ = some (.int .i64 c.x.n) := by rw [cell_get hn]; rfl
  have d3 : w.cell? ⟨q, 3, none⟩ = some (.int .i64 c.x.r) := by rw [cell_get hn]; rfl
  simp only [nilK_some, addr_add, Nat.zero_add, spl_decide, spl_beq]
  have no : ¬ mayGive c r → K (.tuple #[.int .i64 0, .int .i64 104]) w := fun hng => by
    have := hK w F (by unfold giveS8; rw [hlk]; simp only; rw [if_neg fun z => hng z.1]; exact h0) (Mod.refl _ _) (Own.refl _ _)
    rw [giveV8, hlk] at this
    simp only at this
    rwa [if_neg hng] at this
  unfold mayGive at no
  refine ⟨_, d3, fun g1 => no fun z => z.1 g1, fun g1 => ⟨fun g2 => no fun z => by omega, fun g2 => ⟨fun g3 => no fun z => by omega, fun g3 => ⟨_, d3, spl_of (fun g4 => no fun z => ?_) (fun g4 => ?_)⟩⟩⟩⟩
  · have := z.2.2.2
    simp [this] at g4
  have hmg : mayGive c r := ⟨g1, by omega, by omega, by simpa using g4⟩
  refine pis_run to ⟨_, rfl, ?_⟩
  rw [spl_decide]
  refine ⟨fun hto => ?_, fun hto => ?_⟩
  · refine ⟨_, _, _, _, ⟨d0, d1, d2, d3⟩, ?_⟩
    refine (Sep.nil (Mod.refl [] w)).new fun b w1 s1 m1 hb => ?_
    refine s1.st0 0 rfl rfl fun w2 s2 m2 => ?_
    refine s2.st 0 rfl (by simp) fun w3 s3 m3 => ?_
    refine ⟨_, _, _, _, ⟨s3.cell 0 rfl rfl, s3.cell 0 rfl rfl, s3.cell 0 rfl rfl, s3.cell 0 rfl rfl⟩, ?_⟩
    have hS : giveS8 s e sl to r = putS8 s to c.no ⟨c.x.k, c.x.i, c.x.n, r⟩ := by
      unfold giveS8; rw [hlk]; simp only; rw [if_pos ⟨hmg, hto⟩]
    have hV : giveV8 s e sl to r = putV8 s to := by
      unfold giveV8; rw [hlk]; simp only; rw [if_pos hmg, if_pos hto]
    rw [hS, hV] at hK
    have h3 := h1.keep (s3.mod.at0 h1.lt)
    have hup : parUp s.L ps c.no = .pointer (some ⟨q, 0, none⟩) := by
      unfold parUp
      cases hf : s.L.find? fun d => d.no == c.no with
      | none => exact absurd (List.find?_eq_none.1 hf c hm) (by simp)
      | some d =>
        have e1 := List.find?_some hf
        obtain rfl := no_same hw.no (List.mem_of_find?_eq_some hf) hm (by simpa using e1)
        simp only [hq]
        rfl
    refine pput_run h3 hl hw hto (x := ⟨c.x.k, c.x.i, c.x.n, r⟩) ?_ (.inr ⟨c, hm, rfl⟩) hup fun w4 F4 h4 m4 o4 => ⟨_, _, rfl, hK w4 F4 h4 (s3.mod.of0.trans' m4) fun z hz => (o4 z hz).imp id fun hh => by have := s3.mod.size; omega⟩
    obtain ⟨b1, b2, b3, b4, b5, b6, b7⟩ := hcx
    exact ⟨b1, b2, b3, b4, b5, hmg.2.1, hmg.2.2.1⟩
  · have := hK w F (by unfold giveS8; rw [hlk]; simp only; rw [if_neg fun z => hto z.2]; exact h0) (Mod.refl _ _) (Own.refl _ _)
    rw [giveV8, hlk] at this
    simp only at this
    rwa [if_pos hmg, if_neg hto] at this

end Go.Proofs
