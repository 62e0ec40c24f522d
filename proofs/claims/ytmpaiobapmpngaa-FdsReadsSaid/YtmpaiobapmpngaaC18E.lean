/-
  Layer 18: any words as descriptors.
-/
import Derived.Test.YtmpaiobapmpngaaC18A
import Derived.Test.YtmpaiobapmpngaaR18B
set_option linter.unusedVariables false
set_option linter.unusedSimpArgs false
namespace Go.Proofs
open Go Go.Den

theorem words_in18 {w : World} {a : Option Addr} {l c : Nat} {q : List Value → Prop} (hl : SlIn w 1 q a l c) (hq : ∀ cs, q cs → ∃ n : Int, cs = [.int .u64 n] ∧ (Lit.int .u64 n).wf = true) : ∃ (xs : List Int) (G : List Nat), Rd w a l 1 (u64s xs) G ∧ ∀ x ∈ xs, 0 ≤ x ∧ x < 18446744073709551616 := by
  obtain ⟨vss, F, h1, h2, h3⟩ := hl.rd
  obtain ⟨xs, h4, h5, h6⟩ := flat1 (k := .u64) vss fun vs hv => hq vs (h2 vs hv).1
  exact ⟨xs, F, by rw [h4] at h3; exact h3, fun x hx => u64_bounds (h6 x hx)⟩

theorem reads18_run (w : World) (a : Option Addr) (l c : Nat) (hl : SlIn w 1 Q_u64 a l c) : CallsR Try.prog F_januslaw18_FdsReads #[.slice a l c] w fun v w' => v = .bool true ∧ Mod [] w w' := by
  apply R_januslaw18_FdsReads_ok
  simp only [R_januslaw18_FdsReads, spl_decide]
  have fin : ∀ (w' : World), Mod [] w w' → CallsR Try.prog F_januslaw18_awake #[] w' fun v w'' => ∃ r : Bool, v = .bool r ∧ Value.bool r = .bool true ∧ Mod [] w w'' := fun w' h => awake_run _ fun w2 h2 => ⟨true, rfl, rfl, h.trans' h2⟩
  refine ⟨fun _ => fin w (Mod.refl _ _), fun hle => ?_⟩
  obtain ⟨ws, G, hx, hx0⟩ := words_in18 hl fun cs h => h
  have h64 : ∀ i, 0 ≤ wAt ws i ∧ wAt ws i < 18446744073709551616 := fun i => by
    unfold wAt
    cases h : ws[i]? with
    | none => simp
    | some x => exact hx0 x (List.mem_of_getElem? h)
  have hlc := hl.le
  refine fdec_run hx hlc.1 h64 (fun w1 hno m1 => ⟨_, _, rfl, ?_⟩) (fun w1 p t ob hd hp hpb hcan m1 => ⟨_, _, rfl, ?_⟩)
  · refine rdec_run (hx.keep (m1.at0 hx.lt)) hlc.1 h64 (fun w2 _ m2 => ⟨_, _, rfl, ?_⟩) (fun w2 p hd _ => absurd hd hno)
    exact spl_t rfl (spl_t rfl (spl_t rfl (fin w2 (m1.trans' m2))))
  · refine rdec_run (hx.keep (m1.at0 hx.lt)) hlc.1 h64 (fun w2 hno _ => absurd hd hno) (fun w2 p2 _ m2 => ⟨_, _, rfl, ?_⟩)
    refine spl_t rfl (spl_t rfl (spl_f rfl ?_))
    refine fencode_run (hp.mod m2) fun A C w3 hw3 => ⟨_, _, _, rfl, ?_⟩
    have m3 := (m1.trans' m2).trans' hw3.mod
    obtain ⟨G3, hs3, -, -⟩ := hw3
    have he : enc18 t ob = ws := by rw [← encC_can, hcan, encC_can]; exact hd.2.2.2
    refine words_rd hs3.rd (hx.keep (m3.at0 hx.lt)) (by rw [he, hx.u64]; omega) fun w4 m4 => ⟨_, rfl, spl_t (by simpa using he) (fin w4 (m3.trans' m4))⟩

end Go.Proofs
