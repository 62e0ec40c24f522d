/-
  'den' is sound in a round of a range over a function too: code without loops.
-/
import Derived.Test.YtmpaiobapmpngaaDenB
import Derived.RangeFuncCalls
import Derived.RangeFuncLeaves
import Derived.OrdersIn
set_option linter.unusedVariables false
set_option linter.unusedSimpArgs false
namespace Go.Den
open Go

variable {P : Program} {ctl : List Nat}

abbrev FR (l : Nat) : Fence := Fence.wide.inRound l

theorem rowsIn_wide {n l : Nat} {row : String} {args : Array Value} {w : World} {R : Value → World → Prop} (h : Rows P row args w R) : RowsIn (FR l) n P row args w R :=
  fun c cs _ => let ⟨v, w', r, s⟩ := h c cs; ⟨v, w', r, stepsIn_wide.2 s⟩

theorem upon_in {l n : Nat} {o : Oper} {a : Act} {next : Act → World → Prop} {Q : Exit → Act → World → Prop} : ∀ {r : Result Next}, o.upon P a next Q r → o.uponIn (FR l) n P a next Q r
  | .ok (.value _) _, h => h
  | .ok .skip _, h => h
  | .ok (.defer _) _, h => h
  | .ok (.enter _ _) _, h => ⟨fun h => (by cases h), CallsIn.inRound l (callsIn_wide.2 h)⟩
  | .ok (.row _ _) _, h => ⟨fun h => (by cases h), rowsIn_wide h⟩
  | .ok (.round _ _ _ _ _) _, h => h.elim
  | .halt x w', h => by
    cases x <;> first | exact h | exact h.elim

def noDef (o : Oper) : Bool := match o.op with
  | .defer _ => false
  | _ => true
theorem noDef_spec {o : Oper} (h : noDef o = true) : ∀ c, o.op ≠ .defer c := fun c e => by simp [noDef, e] at h

theorem oper_in {l n : Nat} {o : Oper} {a : Act} {w : World} {next : Act → World → Prop} {Q : Exit → Act → World → Prop} (hnd : noDef o = true) (h : o.wp P a w next Q) : o.wpIn (FR l) n P a w next Q := by
  refine ⟨fun _ _ => trivial, ?_⟩
  rw [Oper.semAt_eq _ _ _ (noDef_spec hnd)]
  exact upon_in h

theorem wpList_in {l n : Nat} {ops : Array Oper} {Q : Exit → Act → World → Prop} (hout : ¬ LetsOut Q) : ∀ {os : List Oper} {a : Act} {w : World}, (∀ o ∈ os, noDef o = true) → wpList P ops Q os a w → wpListIn (FR l) n P ops Q os a w
  | [], _, _, _, h => h
  | o :: os, a, w, hn, h => by
    have ih : ∀ a w, wpList P ops Q os a w → wpListIn (FR l) n P ops Q os a w := fun a w h => wpList_in hout (fun o ho => hn o (by simp [ho])) h
    simp only [wpList, wpListIn] at h ⊢
    split
    · rename_i hw
      simp only [hw, if_true] at h
      have h := h.resolve_right fun h => hout h.2
      exact oper_in (hn o (by simp)) (Oper.wp_mono ih h)
    · rename_i hw
      simp only [hw] at h
      exact ⟨fun _ _ => trivial, ih _ _ h⟩

theorem wpAny_in {l n : Nat} {ops : Array Oper} {Q : Exit → Act → World → Prop} {md : Region.Mode} (hout : ¬ LetsOut Q) (hn : ∀ o ∈ ops.toList, noDef o = true) : ∀ (k : Nat) (listed : Array Bool) (a : Act) (w : World), wpAny P md ops Q k listed a w → wpAnyIn (FR l) n P md ops Q k listed a w
  | 0, _, _, _, h => h
  | k + 1, listed, a, w, h => by
    refine ⟨h.1, fun i hi => ?_⟩
    have h2 := h.2 i hi
    have ih := wpAny_in (l := l) (n := n) (md := md) hout hn k (listed.setIfInBounds i true)
    unfold wpOp at h2
    unfold wpOpIn
    split at h2
    · rename_i ho
      simp only [ho]
      exact ih _ _ h2
    · rename_i o ho
      simp only [ho]
      split
      · rename_i hw
        simp only [hw, if_true] at h2
        have h2 := h2.resolve_right fun h => hout h.2
        refine oper_in (hn o ?_) (Oper.wp_mono ih h2)
        exact Array.mem_toList_iff.2 (Array.mem_of_getElem? ho)
      · rename_i hw
        simp only [hw] at h2
        exact ⟨fun _ _ => trivial, ih _ _ h2⟩

def regOKI (P : Program) (k : RK) (ops : Array Oper) (draw : Bool) : Bool := match k, draw with
  | .seq, false => ops.toList.all noDef
  | .held s late, true => ops.toList.all noDef && (Region.noSelect ops && decide (s.length ≤ ops.size) && schedOK P ops late s (Array.replicate ops.size false))
  | _, _ => false

theorem denRegI_of {k : RK} {l n id : Nat} {ops : Array Oper} {draw : Bool} {K : Act → World → Prop} {Q : Exit → Act → World → Prop} {ws : List Nat} {a : Act} {w : World} (hm : P.follows .mixedOrders = true) (hok : regOKI P k ops draw = true)
    (hQ : ∀ a' w, Same ws a a' → K a' w → Q .normal a' w) (hpan : ∀ c a w, ¬ Q (.panic c) a w) (hout : ¬ LetsOut Q) (hd : Dsts ws ops.toList) (h : denReg P ctl k ops draw K a w) : (Code.region id ops draw).wpIn (FR l) n P Q a w := by
  obtain ⟨os⟩ := ops
  unfold denReg at h
  split at h
  · simp only [regOKI, List.all_eq_true] at hok
    exact wpIn_region_lit (wpList_in hout hok (denList_of hQ _ _ _ hd (Same.refl _ _) h))
  · simp [regOKI] at hok
  · simp [regOKI] at hok
  · rename_i s late
    simp only [regOKI, Bool.and_eq_true, decide_eq_true_eq, List.all_eq_true] at hok
    obtain ⟨B, h⟩ := h
    exact wpIn_region_any hm (wpAny_in hout hok.1 _ _ _ _ (AnyG.any _ _ _ _ (denHeld_of hok.2.1.1 hQ hpan hd s _ _ _ _ hok.2.1.2 hok.2.2 (fun _ _ _ => rfl) (Same.refl _ _) h)))
  · simp [regOKI] at hok
  · simp [regOKI] at hok
  · exact h.elim

noncomputable def okPI (P : Program) (c : Code) : Plan → Bool :=
  Code.rec (motive := fun _ => Plan → Bool)
    (fun _ => true)
    (fun _ ops draw p => match p with | .reg k => regOKI P k ops draw | _ => false)
    (fun x _y okx oky p => match p with
      | .seq p q => okx p && oky q
      | .join ms p q => okx p && oky q && (wr x).all fun t => (ms.map (·.1)).contains t
      | _ => false)
    (fun _ _ _ okx oky p => match p with | .cond p q => okx p && oky q | _ => false)
    (fun _ _ okx p => match p with | .block p => okx p | _ => false)
    (fun _ _ _ => false)
    (fun _ _ _ _ _ _ _ => false)
    (fun _ _ => true)
    (fun _ _ _ => false)
    (fun _ _ => false)
    (fun _ _ => false)
    (fun _ => true)
    (fun _ _ => false)
    c

def WalksI (P : Program) (ctl : List Nat) (c : Code) (p : Plan) : Prop :=
  ∀ (l n : Nat) (Q : Exit → Act → World → Prop) (a : Act) (w : World), (∀ ch a w, ¬ Q (.panic ch) a w) → ¬ LetsOut Q → den P ctl c p Q a w → c.wpIn (FR l) n P (fun e a' w' => Q e a' w' ∧ Same (wr c) a a') a w

theorem not_lets {Q : Exit → Act → World → Prop} {R : Act → Prop} (h : ¬ LetsOut Q) : ¬ LetsOut fun e a w => Q e a w ∧ R a := fun ⟨a, w, hq, _⟩ => h ⟨a, w, hq⟩

theorem walksI : ∀ (c : Code) (p : Plan), P.follows .mixedOrders = true → okPI P c p = true → WalksI P ctl c p := by
  intro c
  induction c with
  | skip => intro p hm hok l n Q a w hpan hout h; exact wpIn_skip ⟨h, Same.refl _ _⟩
  | region id ops draw =>
    intro p hm hok l n Q a w hpan hout h
    cases p <;> simp only [okPI, den] at hok h <;> try (exact h.elim)
    refine denRegI_of hm hok (ws := wr (.region id ops draw)) (fun a' w hs hk => ⟨hk, hs⟩) (fun c a w hq => hpan _ _ _ hq.1) (not_lets hout) ?_ h
    intro o ho d hd
    simp only [wr, List.mem_filterMap]
    exact ⟨o, ho, hd⟩
  | seq x y ihx ihy =>
    intro p hm hok l n Q a w hpan hout h
    cases p <;> simp only [okPI, den] at hok h <;> try (exact h.elim)
    case seq p q =>
      simp only [Bool.and_eq_true] at hok
      refine wpIn_seq ?_
      refine wpIn_mono (ihx p hm hok.1 l n _ a w ?_ ?_ h) ?_
      · intro ch a w hp; exact hpan ch a w hp
      · rintro ⟨a, w, hp⟩; exact hout ⟨a, w, hp⟩
      · rintro e a' w' ⟨hq, hs⟩
        cases e with
        | normal =>
          refine wpIn_mono (ihy q hm hok.2 l n Q a' w' hpan hout hq) ?_
          rintro e a'' w'' ⟨hq', hs'⟩
          exact ⟨hq', (hs.mono (by intro t ht; simp [wr, ht])).trans (hs'.mono (by intro t ht; simp [wr, ht]))⟩
        | _ => exact ⟨hq, hs.mono (by intro t ht; simp [wr, ht])⟩
    case join ms p q =>
      simp only [Bool.and_eq_true] at hok
      obtain ⟨⟨hokx, hoky⟩, hws⟩ := hok
      obtain ⟨J, hJ, hx⟩ := h
      refine wpIn_seq ?_
      refine wpIn_mono (ihx p hm hokx l n _ a w ?_ ?_ hx) ?_
      · intro ch a w hp; exact hpan ch a w hp
      · rintro ⟨a, w, hp⟩; exact hout ⟨a, w, hp⟩
      · rintro e a' w' ⟨hq, hs⟩
        cases e with
        | normal =>
          obtain ⟨J', hj, hk⟩ := allI_of _ _ _ _ _ hq hJ
          have hk' := hk (fun t => a'.tmps.getD t undef) w' hj
          have hsub : ∀ t, t ∉ ms.map (·.1) → t ∉ wr x := fun t ht hm => ht (by
            have := List.all_eq_true.1 hws t hm
            simpa using this)
          rw [Ms.set_of ms a a' hs.1 hs.2.1 (fun t ht => hs.2.2 t (hsub t ht))] at hk'
          refine wpIn_mono (ihy q hm hoky l n Q a' w' hpan hout hk') ?_
          rintro e a'' w'' ⟨hq', hs'⟩
          exact ⟨hq', (hs.mono (by intro t ht; simp [wr, ht])).trans (hs'.mono (by intro t ht; simp [wr, ht]))⟩
        | _ => exact ⟨hq, hs.mono (by intro t ht; simp [wr, ht])⟩
  | cond c x y ihx ihy =>
    intro p hm hok l n Q a w hpan hout h
    cases p <;> simp only [okPI, den] at hok h <;> try (exact h.elim)
    rename_i p q
    simp only [Bool.and_eq_true] at hok
    split at h
    · rename_i hc
      refine wpIn_cond_true hc (wpIn_mono (ihx p hm hok.1 l n Q a w hpan hout h) ?_)
      rintro e a' w' ⟨hq, hs⟩
      exact ⟨hq, hs.mono (by intro t ht; simp [wr, ht])⟩
    · rename_i hc
      refine wpIn_cond_false hc (wpIn_mono (ihy q hm hok.2 l n Q a w hpan hout h) ?_)
      rintro e a' w' ⟨hq, hs⟩
      exact ⟨hq, hs.mono (by intro t ht; simp [wr, ht])⟩
    · exact h.elim
  | block id x ihx =>
    intro p hm hok l n Q a w hpan hout h
    cases p <;> simp only [okPI, den] at hok h <;> try (exact h.elim)
    rename_i p
    refine wpIn_block (wpIn_mono (ihx p hm hok l n (Exit.inBlock id Q) a w ?_ ?_ h) ?_)
    · intro ch a w hp; exact hpan ch a w hp
    · rintro ⟨a, w, hp⟩; exact hout ⟨a, w, hp⟩
    · rintro e a' w' ⟨hq, hs⟩
      cases e with
      | exit id' =>
        simp only [Exit.inBlock] at hq ⊢
        split at hq
        · rename_i he; simp only [he, if_true]; exact ⟨hq, hs⟩
        · rename_i he; simp only [he, if_false]; exact ⟨hq, hs⟩
      | _ => exact ⟨hq, hs⟩
  | loop x ihx => intro p hm hok; simp [okPI] at hok
  | rangeFunc f ps x y ihx ihy => intro p hm hok; simp [okPI] at hok
  | exit id => intro p hm hok l n Q a w hpan hout h; exact wpIn_exit ⟨h, Same.refl _ _⟩
  | scope x ihx => intro p hm hok; simp [okPI] at hok
  | label l => intro p hm hok; simp [okPI] at hok
  | goto l => intro p hm hok; simp [okPI] at hok
  | ret => intro p hm hok l n Q a w hpan hout h; exact wpIn_ret ⟨h, Same.refl _ _⟩
  | refuse why => intro p hm hok; simp [okPI] at hok

/-! Parts of code, by their places. -/

def cL : Code → Code
  | .seq x _ => x
  | .block _ x => x
  | .rangeFunc _ _ x _ => x
  | .cond _ x _ => x
  | c => c
def cR : Code → Code
  | .seq _ y => y
  | .rangeFunc _ _ _ y => y
  | .cond _ _ y => y
  | c => c

end Go.Den
