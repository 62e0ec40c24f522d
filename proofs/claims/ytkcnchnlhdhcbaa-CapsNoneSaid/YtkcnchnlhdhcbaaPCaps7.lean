/-
  caps: contracts of the program's capabilities: Revoke.
-/
import Derived.Test.YtkcnchnlhdhcbaaPCaps6
set_option linter.unusedSimpArgs false
namespace Go.Den
open Go

/-- Those ahead of place 'j' that were made of 'g'. -/
def badL (L : List CE) (g : CE) : Nat → List CE
  | 0 => []
  | j + 1 => badL L g j ++ ((L.find? fun c => ckp c == j).toList.filter fun c => isUnder L g.no c)

theorem badL_mem {s : S8} (hw : W8 s) (g : CE) {c : CE} : ∀ {j : Nat}, c ∈ badL s.L g j ↔ c ∈ s.L ∧ ckp c < j ∧ isUnder s.L g.no c = true
  | 0 => by simp [badL]
  | j + 1 => by
    unfold badL
    rw [List.mem_append, badL_mem hw g, List.mem_filter, Option.mem_toList]
    constructor
    · rintro (⟨h1, h2, h3⟩ | ⟨h1, h2⟩)
      · exact ⟨h1, by omega, h3⟩
      · have e : ckp c = j := by simpa using List.find?_some h1
        exact ⟨List.mem_of_find?_eq_some h1, by omega, h2⟩
    · rintro ⟨h1, h2, h3⟩
      by_cases e : ckp c = j
      · exact .inr ⟨e ▸ find_ckp hw h1, h3⟩
      · exact .inl ⟨h1, by omega, h3⟩
theorem badL_nodup {s : S8} (hw : W8 s) (g : CE) : ∀ j : Nat, (badL s.L g j).Nodup
  | 0 => by simp [badL]
  | j + 1 => by
    unfold badL
    refine List.nodup_append.2 ⟨badL_nodup hw g j, ?_, fun a ha b hb hab => ?_⟩
    · refine List.Pairwise.filter _ ?_
      cases s.L.find? fun c => ckp c == j <;> simp
    · subst hab
      have h1 := (badL_mem hw g).1 ha
      rw [List.mem_filter, Option.mem_toList] at hb
      have e : ckp a = j := by simpa using List.find?_some hb.1
      omega
theorem badL_len {s : S8} (hw : W8 s) (g : CE) : (badL s.L g 780).length = (s.L.filter fun c => isUnder s.L g.no c).length := by
  refine List.Perm.length_eq ((List.perm_ext_iff_of_nodup (badL_nodup hw g 780) (List.Pairwise.filter _ ?_)).2 fun c => ?_)
  · exact List.Pairwise.imp (fun {a b} (h : a.no < b.no) (e : a = b) => by rw [e] at h; omega) hw.no
  · rw [badL_mem hw g, List.mem_filter]
    exact ⟨fun h => ⟨h.1, h.2.2⟩, fun h => ⟨h.1, ckp_lt hw h.1, h.2⟩⟩
theorem badL_le (L : List CE) (g : CE) : ∀ j : Nat, (badL L g j).length ≤ j
  | 0 => by simp [badL]
  | j + 1 => by
    unfold badL
    rw [List.length_append]
    have h1 := badL_le L g j
    have h2 := List.length_filter_le (fun c => isUnder L g.no c) (L.find? fun c => ckp c == j).toList
    have h3 : (L.find? fun c => ckp c == j).toList.length ≤ 1 := by cases L.find? fun c => ckp c == j <;> simp
    omega

def psD (ps : List (Option Nat)) (cs : List CE) : List (Option Nat) := cs.foldl (fun ps c => ps.set (ckp c) none) ps
theorem psD_len (ps : List (Option Nat)) (cs : List CE) : (psD ps cs).length = ps.length := by
  induction cs generalizing ps with
  | nil => rfl
  | cons c cs ih => exact (ih _).trans (by simp)
theorem psD_snoc (ps : List (Option Nat)) (cs : List CE) (c : CE) : psD ps (cs ++ [c]) = (psD ps cs).set (ckp c) none := by simp [psD]
theorem psD_get (ps : List (Option Nat)) : ∀ (cs : List CE) {i : Nat}, (∀ c ∈ cs, ckp c ≠ i) → (psD ps cs)[i]? = ps[i]?
  | [], _, _ => rfl
  | c :: cs, i, h => by
    have := psD_get (ps.set (ckp c) none) cs (i := i) fun d hd => h d (by simp [hd])
    refine this.trans ?_
    rw [List.getElem?_set, if_neg (h c (by simp))]
def obR (L : List CE) (ps : List (Option Nat)) (cs : List CE) (i : Nat) : Option (Array Value) := if cs.any fun c => ckp c == i then none else ob8 L ps i

theorem pv_none {w : World} {p : Nat} {s : S8} {ps : List (Option Nat)} {F : List Nat} (h : PT w p ps (ob8 s.L ps) [] F) (hl : ps.length = 780) (hw : W8 s) {o : Int} (hn : pv s.L ps o = none) : (s.L.find? fun d => d.no == o) = none := by
  cases hf : s.L.find? fun d => d.no == o with
  | none => rfl
  | some d =>
    obtain ⟨q, T, h1, -⟩ := h.has hl hw (List.mem_of_find?_eq_some hf)
    unfold pv at hn
    rw [hf] at hn
    simp only [h1] at hn
    cases hn
theorem pv_revoke {s : S8} (hw : W8 s) {ps : List (Option Nat)} {g c : CE} (hc : c ∈ s.L) (hu : isUnder s.L g.no c = false) :
    pv (s.L.filter fun c => !isUnder s.L g.no c) (psD ps (badL s.L g 780)) c.of_ = pv s.L ps c.of_ := by
  unfold pv
  rw [List.find?_filter]
  have key : ∀ d ∈ s.L, d.no = c.of_ → isUnder s.L g.no d = false := fun d hd he => by
    cases hh : isUnder s.L g.no d with
    | false => rfl
    | true =>
      have := (isUnder_iff hw hc).2 (.step hd he ((isUnder_iff hw hd).1 hh))
      rw [this] at hu
      cases hu
  have e1 : (s.L.find? fun a => decide ((!isUnder s.L g.no a) = true ∧ (a.no == c.of_) = true)) = s.L.find? fun d => d.no == c.of_ := find_cong fun d hd => by
    rw [Bool.eq_iff_iff]
    simp only [beq_iff_eq, decide_eq_true_eq, Bool.not_eq_true', and_iff_right_iff_imp]
    exact key d hd
  rw [e1]
  cases hf : s.L.find? fun d => d.no == c.of_ with
  | none => rfl
  | some d =>
    have hd := List.mem_of_find?_eq_some hf
    have hn : d.no = c.of_ := by simpa using List.find?_some hf
    simp only
    rw [psD_get]
    intro b hb hk
    obtain ⟨h1, h2, h3⟩ := (badL_mem hw g).1 hb
    rw [ckp_inj hw h1 hd hk, key d hd hn] at h3
    cases h3
theorem ob8_revoke {s : S8} (hw : W8 s) (ps : List (Option Nat)) (g : CE) {i : Nat} (hi : i < 780) :
    ob8 (s.L.filter fun c => !isUnder s.L g.no c) (psD ps (badL s.L g 780)) i = obR s.L ps (badL s.L g 780) i := by
  unfold obR
  cases hb : (badL s.L g 780).any fun c => ckp c == i with
  | true =>
    obtain ⟨b, h1, h2⟩ := List.any_eq_true.1 hb
    obtain ⟨h3, h4, h5⟩ := (badL_mem hw g).1 h1
    have h2 : ckp b = i := by simpa using h2
    rw [if_pos rfl]
    unfold ob8
    rw [List.find?_filter]
    have : (s.L.find? fun a => decide ((!isUnder s.L g.no a) = true ∧ (ckp a == i) = true)) = none := List.find?_eq_none.2 fun c hc => by
      simp only [beq_iff_eq, decide_eq_true_eq, Bool.not_eq_true', not_and]
      intro h6 h7
      rw [ckp_inj hw hc h3 (h7.trans h2.symm), h5] at h6
      cases h6
    rw [this]
    rfl
  | false =>
    rw [if_neg (by simp)]
    have hb := List.any_eq_false.1 hb
    unfold ob8
    rw [List.find?_filter]
    have key : ∀ c ∈ s.L, ckp c = i → isUnder s.L g.no c = false := fun c hc hk => by
      cases hh : isUnder s.L g.no c with
      | false => rfl
      | true => exact absurd (by simpa using hk) (hb c ((badL_mem hw g).2 ⟨hc, by omega, hh⟩))
    have e1 : (s.L.find? fun a => decide ((!isUnder s.L g.no a) = true ∧ (ckp a == i) = true)) = s.L.find? fun c => ckp c == i := find_cong fun c hc => by
      rw [Bool.eq_iff_iff]
      simp only [beq_iff_eq, decide_eq_true_eq, Bool.not_eq_true', and_iff_right_iff_imp]
      exact key c hc
    rw [e1]
    cases hf : s.L.find? fun c => ckp c == i with
    | none => rfl
    | some c =>
      have hc := List.mem_of_find?_eq_some hf
      simp only [Option.map_some, Option.some.injEq]
      rw [parV_pv, parV_pv, pv_revoke hw hc (key c hc (by simpa using List.find?_some hf))]

def badV (ps : List (Option Nat)) (cs : List CE) : List Value := cs.map fun c => ptrTo ((ps[ckp c]?).getD none)

end Go.Den
namespace Go.Proofs
open Go Go.Den

theorem prev1_run {w0 w : World} {p : Nat} {s : S8} {ps : List (Option Nat)} {F : List Nat} (h0 : PT w0 p ps (ob8 s.L ps) [] F) (hl : ps.length = 780) (hw : W8 s) {c g : CE} (hc : c ∈ s.L) (hg : g ∈ s.L) {q q0 : Nat} (hq : ps[ckp c]? = some (some q)) (hq0 : ps[ckp g]? = some (some q0))
    {b7 b11 : Nat} {T7 T11 : TypeId} {A : Option Addr} {l C : Nat} {vs : List Value} {G : List Nat} (hs : Sep w0 w [blk b11 (.cells #[.slice A l C] T11 (0, 0)), sl A l C 1 vs G, blk b7 (.cells #[.pointer (some ⟨q0, 0, none⟩)] T7 (0, 0))]) (hll : l ≤ 1000)
    {K : Value → World → Prop} (hK0 : isUnder s.L g.no c = false → K (.tuple #[]) w)
    (hK1 : isUnder s.L g.no c = true → ∀ w' A' C' G', Sep w0 w' [blk b11 (.cells #[.slice A' (l + 1) C'] T11 (0, 0)), sl A' (l + 1) C' 1 (vs ++ [.pointer (some ⟨q, 0, none⟩)]) G', blk b7 (.cells #[.pointer (some ⟨q0, 0, none⟩)] T7 (0, 0))] → K (.tuple #[]) w') :
    CallsR Try.prog F_caps_Caps_Revoke_1 #[.pointer (some ⟨q, 0, none⟩), .pointer (some ⟨b7, 0, none⟩), .pointer (some ⟨b11, 0, none⟩)] w K := by
  apply R_caps_Caps_Revoke_1_ok
  simp only [R_caps_Caps_Revoke_1, nilK_some, addr_add, Nat.zero_add]
  have h := h0.keep (hs.mod.at0 h0.lt)
  have cell6 : ∀ {d : CE} {r : Nat}, d ∈ s.L → ps[ckp d]? = some (some r) → w.cell? ⟨r, 6, none⟩ = some (.pointer (pv s.L ps d.of_)) := fun {d r} hd hr => by
    obtain ⟨r', T, e1, e2⟩ := h.has hl hw hd
    rw [hr] at e1
    obtain rfl : r = r' := Option.some.inj (Option.some.inj e1)
    rw [cell_get e2, parV_pv]
    rfl
  refine ⟨_, cell6 hc hq, fun n up w' => w' = w ∧ ∃ cur, cur ∈ s.L ∧ up = pv s.L ps cur.of_ ∧ n = cur.no.toNat ∧ isUnder s.L g.no c = isUnder s.L g.no cur, ⟨_, rfl, c, hc, rfl, rfl, rfl⟩, ?_⟩
  rintro n up - w' ⟨rfl, cur, hcur, rfl, rfl, hiu⟩
  refine spl_of (fun hsome => ?_) (fun hnone => ?_)
  · cases hup : pv s.L ps cur.of_ with
    | none => rw [hup] at hsome; cases hsome
    | some a =>
      obtain ⟨d, r, d1, d2, d3, rfl⟩ := pv_some hup
      obtain ⟨r', Td, e1, e2⟩ := h.has hl hw d1
      obtain ⟨r0', Tg, e3, e4⟩ := h.has hl hw hg
      rw [d3] at e1
      obtain rfl : r = r' := Option.some.inj (Option.some.inj e1)
      rw [hq0] at e3
      obtain rfl : q0 = r0' := Option.some.inj (Option.some.inj e3)
      refine ⟨_, hs.cell 2 rfl rfl, by decide +kernel, .inr ⟨⟨_, _, e2⟩, ⟨_, _, e4⟩⟩, spl_of (fun he => ?_) (fun he => ?_)⟩
      · have he : r = q0 := by
          have : (some (⟨r, 0, none⟩ : Addr)) = some ⟨q0, 0, none⟩ := by simpa using he
          exact congrArg Addr.block (Option.some.inj this)
        subst he
        have hdg : d = g := ckp_inj hw d1 hg (h.inj _ _ _ d3 hq0)
        have ht : isUnder s.L g.no c = true := by
          rw [hiu]
          exact (isUnder_iff hw hcur).2 (.here d1 d2 (by rw [hdg]))
        refine ⟨A, l, C, hs.cell 0 rfl rfl, ?_⟩
        rw [newK_eq]
        refine push_K (w0 := w0) slT_P_caps_node (by decide) (hs.nth 1 rfl) (hs.bey 1 rfl) hs.mod (us := [.pointer (some ⟨q, 0, none⟩)]) rfl (by simp [isCell]) (by omega) (by omega) fun A' C' w1 G' z1 z2 z3 z4 z5 => ⟨_, _, _, rfl, ?_⟩
        have s1 := hs.step (w' := w1) 1 rfl (sl A' (l + 1) C' 1 (vs ++ [Value.pointer (some ⟨q, 0, none⟩)]) G') z1 z4 z5
        exact s1.st0 0 rfl rfl fun w2 s2 m2 => hK1 ht w2 A' C' G' s2
      · have hne : d.no ≠ g.no := fun hh => by
          have hdg : d = g := no_same hw.no d1 hg hh
          subst hdg
          rw [hq0] at d3
          obtain rfl := Option.some.inj (Option.some.inj d3)
          simp at he
        rw [nilK_some]
        refine ⟨pv s.L ps d.of_, by rw [addr_add]; exact cell6 d1 d3, d.no.toNat, ?_, rfl, d, d1, rfl, rfl, ?_⟩
        · have h1 := (hw.in_ d d1).2.2.2.2.1
          rcases hw.up cur hcur with h2 | ⟨d', hd', h2, h3⟩ <;> omega
        · rw [hiu, Bool.eq_iff_iff, isUnder_iff hw hcur, isUnder_iff hw d1]
          refine ⟨fun hh => ?_, fun hh => .step d1 d2 hh⟩
          cases hh with
          | here x1 x2 x3 =>
            have := no_same hw.no x1 d1 (by omega)
            subst this
            exact absurd x3 hne
          | step x1 x2 x3 =>
            have := no_same hw.no x1 d1 (by omega)
            subst this
            exact x3
  · refine hK0 ?_
    have hn : pv s.L ps cur.of_ = none := by
      cases hh : pv s.L ps cur.of_ with
      | none => rfl
      | some a => rw [hh] at hnone; cases hnone
    have hf := pv_none h hl hw hn
    rw [hiu]
    unfold isUnder under8 parent8
    rw [hf]

set_option maxHeartbeats 1000000 in
theorem prevoke_run {w : World} {p : Nat} {s : S8} {F : List Nat} (h : CP w p s F) (e sl' : Int) {K : Value → World → Prop} (hK : ∀ w' F', CP w' p (revokeS8 s e sl') F' → Mod F w w' → Own w F F' → K (.tuple #[.int .i64 (revokeV8 s e sl').1, .int .i64 (revokeV8 s e sl').2]) w') :
    CallsR Try.prog F_caps_Caps_Revoke #[.pointer (some ⟨p, 0, none⟩), .int .i64 e, .int .i64 sl'] w K := by
  apply R_caps_Caps_Revoke_ok
  simp only [R_caps_Caps_Revoke, Option.isNone_some, spl_false, nilK_some, addr_add, Nat.zero_add, spl_decide]
  have h0 := h
  obtain ⟨hw, ps, h1, hl⟩ := h
  refine pat_run h1 hl hw e sl' (fun hn => ⟨_, rfl, ?_⟩) (fun g q0 hlk hq0 => ⟨_, rfl, ?_⟩)
  · refine (Sep.nil (Mod.refl [] w)).new fun b w1 s1 m1 hb => s1.st0 0 rfl rfl fun w2 s2 m2 => ⟨_, s2.cell 0 rfl rfl, spl_t rfl ?_⟩
    have := hK w2 F (by unfold revokeS8; rw [hn]; exact h0.keep (s2.mod.at0 h0.lt)) s2.mod.of0 (Own.refl _ _)
    rwa [revokeV8, hn] at this
  obtain ⟨hm, rfl, rfl⟩ := look8_some hlk
  refine (Sep.nil (Mod.refl [] w)).new fun b7 w1 s1 m1 hb7 => s1.st0 0 rfl rfl fun w2 s2 m2 => ⟨_, s2.cell 0 rfl rfl, spl_f rfl ?_⟩
  have s2 := s2.push (sl none 0 0 1 [] []) (Mod.refl [] w2) (SlB.nil w2 1) (by simp [sl, Beyond])
  refine s2.new fun b11 w3 s3 m3 hb11 => ?_
  apply R_caps_Caps_each_Revoke_ok
  unfold R_caps_Caps_each_Revoke
  refine each_K (C := fun x w K => CallsR Try.prog F_caps_Caps_Revoke_1 #[.pointer x, .pointer (some ⟨b7, 0, none⟩), .pointer (some ⟨b11, 0, none⟩)] w K) (ps := ps) hl
    (St := fun j w' => ∃ A l C G, l = (badL s.L g j).length ∧ Sep w w' [blk b11 (.cells #[.slice A l C] _ (0, 0)), sl A l C 1 (badV ps (badL s.L g j)) G, blk b7 (.cells #[.pointer (some ⟨q0, 0, none⟩)] _ (0, 0))]) (fun j w' hS => ?_) ?_ ?_ ⟨none, 0, 0, [], rfl, s3⟩ ?_
  · obtain ⟨A, l, C, G, -, hS⟩ := hS
    exact (h1.keep (hS.mod.at0 h1.lt)).row
  · rintro j w4 q hj hq ⟨A, l, C, G, rfl, hS⟩
    have h4 := h1.keep (hS.mod.at0 h1.lt)
    obtain ⟨hn, -⟩ | ⟨c, q', T, c1, c2, c3, c4⟩ := place_cases h4 hl hw hj
    · rw [hq] at hn; cases hn
    rw [hq] at c3
    obtain rfl : q = q' := Option.some.inj (Option.some.inj c3)
    have hle := badL_le s.L g j
    have hfc : (s.L.find? fun c => ckp c == j) = some c := by rw [← c2]; exact find_ckp hw c1
    refine prev1_run h1 hl hw c1 hm (by rw [c2]; exact hq) hq0 hS (by omega) (fun hu => ⟨rfl, A, (badL s.L g j).length, C, G, ?_, ?_⟩) (fun hu w5 A' C' G' hS' => ⟨rfl, A', (badL s.L g j).length + 1, C', G', ?_, ?_⟩)
    · rw [badL, hfc]; simp [hu]
    · rw [badL, hfc]; simpa [hu] using hS
    · rw [badL, hfc]; simp [hu]
    · rw [badL, hfc]
      have ev : badV ps (badL s.L g j ++ (some c).toList.filter fun c => isUnder s.L g.no c) = badV ps (badL s.L g j) ++ [.pointer (some ⟨q, 0, none⟩)] := by
        simp [badV, hu, c2, hq, ptrTo]
      rw [ev]
      exact hS'
  · rintro j w4 hj hn ⟨A, l, C, G, rfl, hS⟩
    have h4 := h1.keep (hS.mod.at0 h1.lt)
    have hf : (s.L.find? fun c => ckp c == j) = none := by
      have := h4.no j hn
      unfold ob8 at this
      simpa using this
    refine ⟨A, (badL s.L g j).length, C, G, ?_, ?_⟩
    · rw [badL, hf]; simp
    · rw [badL, hf]; simpa using hS
  · rintro w4 ⟨A, l, C, G, hlen, hS⟩
    refine ⟨rfl, A, l, C, hS.cell 0 rfl rfl, ?_⟩
    have h4 := h1.keep (hS.mod.at0 h1.lt)
    have hSl : SlB w4 A l C 1 (badV ps (badL s.L g 780)) G := hS.nth 1 rfl
    have hle := badL_le s.L g 780
    refine ⟨fun n t w' => ∃ (j : Nat) (F' : List Nat), t = j ∧ j ≤ l ∧ n = l - j ∧ PT w' p (psD ps ((badL s.L g 780).take j)) (obR s.L ps ((badL s.L g 780).take j)) [] F' ∧ (∀ z ∈ F', z ∈ F) ∧ Mod [p] w4 w', ⟨l, 0, F, rfl, by omega, rfl, h4.say fun i _ => by simp [obR], fun z hz => hz, Mod.refl _ _⟩, ?_⟩
    rintro n t - w5 ⟨j, F', rfl, hj, rfl, hp5, hF', hm5⟩
    have hpout : ∀ (i : Nat) (q : Part), _ → p ∉ q.F := fun i q hi => hS.out (h1.lt p h1.pmem) i hi
    have hb11 : w5.heap[b11]? = some _ := hm5.get (show w4.heap[b11]? = some _ from hS.nth 0 rfl) (fun hh => hpout 0 _ rfl (by simp only [List.mem_singleton] at hh; subst hh; simp [blk]))
    have hSl5 := hSl.mod hm5 (fun z hz hh => hpout 1 _ rfl (by simp only [List.mem_singleton] at hh; subst hh; exact hz))
    refine ⟨fun hlt => ?_, fun hge => ⟨A, l, C, by rw [cell_get hb11]; rfl, ?_⟩⟩
    · have hjl : j < (badL s.L g 780).length := by omega
      obtain ⟨c, hc⟩ : ∃ c, (badL s.L g 780)[j]? = some c := ⟨_, List.getElem?_eq_getElem hjl⟩
      obtain ⟨c1, c2, c3⟩ := (badL_mem hw g).1 (List.mem_of_getElem? hc)
      obtain ⟨q, T, c4, -⟩ := h4.has hl hw c1
      have hnot : ∀ d ∈ (badL s.L g 780).take j, ckp d ≠ ckp c := fun d hd hk => by
        have hdL := (badL_mem hw g).1 (List.mem_of_mem_take hd)
        have := ckp_inj hw hdL.1 c1 hk
        subst this
        obtain ⟨i, hi⟩ := List.getElem?_of_mem hd
        have hij : i < j := by
          have := (List.getElem?_eq_some_iff.1 hi).1
          simp at this; omega
        rw [List.getElem?_take, if_pos hij] at hi
        have := (List.getElem?_inj (by omega : i < (badL s.L g 780).length) (badL_nodup hw g 780)).1 (hi.trans hc.symm)
        omega
      have hpq : (psD ps ((badL s.L g 780).take j))[ckp c]? = some (some q) := by rw [psD_get _ _ hnot]; exact c4
      obtain ⟨arr, Tq, u1, u2⟩ := hp5.at_ _ q hpq
      have eob : obR s.L ps ((badL s.L g 780).take j) (ckp c) = ob8 s.L ps (ckp c) := by
        unfold obR
        rw [if_neg]
        intro hh
        obtain ⟨d, d1, d2⟩ := List.any_eq_true.1 hh
        exact hnot d d1 (by simpa using d2)
      rw [eob, ob8, find_ckp hw c1] at u1
      obtain rfl := Option.some.inj u1
      obtain ⟨ad, rfl⟩ : ∃ ad, A = some ad := by
        obtain ⟨b, o, e1, -⟩ := hSl5.isNone (by omega)
        exact ⟨_, e1⟩
      have hcell := hSl5.cell (i := j) (by simp [badV]; omega)
      rw [nilK_some, Int.toNat_natCast]
      refine ⟨⟨by omega, by omega⟩, some ⟨q, 0, none⟩, ?_, ?_⟩
      · rw [hcell]
        simp [badV, hc, c4, ptrTo]
      rw [drK_eq]
      have hm6 := hm5.drew
      have hp6 : PT w5.drew p (psD ps ((badL s.L g 780).take j)) (obR s.L ps ((badL s.L g 780).take j)) [] F' := hp5.keep fun _ _ => rfl
      have u2 : w5.drew.heap[q]? = some (.cells (nodeC c (parV s.L ps c)) Tq (0, 0)) := u2
      generalize w5.drew = w6 at hm6 hp6 u2 ⊢
      simp only [nilK_some, addr_add, Nat.zero_add]
      obtain ⟨a1, a2, a3, -⟩ := hw.in_ c c1
      refine ⟨c.env, by rw [cell_get u2]; rfl, c.slot, by rw [cell_get u2]; rfl, ⟨a1.1, a1.2⟩, ⟨by omega, by omega⟩, ?_⟩
      obtain ⟨Tr, hrow⟩ := hp6.row
      have hkl : ckp c < (psD ps ((badL s.L g 780).take j)).length := by rw [psD_len]; omega
      refine stK_of hrow (by unfold ckp kp at hkl; simp; omega) ?_
      simp only [splice_cons, splice_nil]
      have er := ptrs_set (psD ps ((badL s.L g 780).take j)) [] hkl none
      obtain ⟨F'', hF'', hFF, -⟩ := hp6.del (k := ckp c) (w' := w6.upd p (.cells (((psD ps ((badL s.L g 780).take j)).map ptrTo ++ []).toArray.setIfInBounds (ckp c) (ptrTo none)) Tr (0, 0))) (T := Tr) (by rw [er]; exact upd_same hrow) (fun z _ hz => upd_ne _ (Ne.symm hz))
      have et : (badL s.L g 780).take (j + 1) = (badL s.L g 780).take j ++ [c] := by rw [List.take_add_one, hc]; rfl
      refine ⟨l - (j + 1), by omega, j + 1, F'', by rw [w64 (by omega) (by omega)]; omega, by omega, rfl, ?_, fun z hz => hF' z (hFF z hz), hm6.upd (.inl (by simp)) _⟩
      rw [et, psD_snoc]
      refine hF''.say fun i _ => ?_
      unfold obR
      rw [List.any_append]
      by_cases hi : ckp c = i
      · simp [hi]
      · simp [hi]
    · have hjl : j = l := by omega
      rw [hjl, hlen, List.take_length] at hp5
      have hS' : revokeS8 s g.env g.slot = ⟨s.L.filter fun c => !isUnder s.L g.no c, s.last⟩ := by unfold revokeS8; rw [hlk]
      have hV : revokeV8 s g.env g.slot = (((s.L.filter fun c => isUnder s.L g.no c).length : Int), 0) := by unfold revokeV8; rw [hlk]
      have hWr := hw.revoke g.env g.slot
      rw [hS'] at hK hWr
      rw [hV, ← badL_len hw g, ← hlen] at hK
      refine hK w5 F' ⟨hWr, _, hp5.say fun i hi => ?_, by rw [psD_len]; exact hl⟩ (hS.mod.of0.trans' (hm5.mono fun z hz => by simp only [List.mem_singleton] at hz; subst hz; exact h1.pmem)) (fun z hz => .inl (hF' z hz))
      rw [psD_len, hl] at hi
      exact ob8_revoke hw ps g hi

end Go.Proofs
