/-
  Layer 11: 'drop' of a line.
-/
import Derived.Test.YtidfjfcmkjdpnaaC11a
set_option linter.unusedSimpArgs false
namespace Go.Proofs
open Go Go.Den

/-- Does a message go? -/
def goes (to env : Int) (from_ : Int) : Bool := decide (to = env) || decide (from_ = env)

theorem gone1_run {w : World} {at_ ae : Addr} {to env : Int} (ht : w.cell? at_ = some (.int .i64 to)) (he : w.cell? ae = some (.int .i64 env)) (hte : ∀ w', Mod [] w w' → w'.cell? at_ = some (.int .i64 to) ∧ w'.cell? ae = some (.int .i64 env)) (m : PM) {K : Value → World → Prop}
    (hK : ∀ w', Mod [] w w' → K (.bool (goes to env m.1)) w') :
    CallsR Try.prog F_exoipc_Ipc_Gone_1 #[.agg #[.int .i64 m.1, .slice m.2.1 m.2.2.1 m.2.2.2], .pointer (some at_), .pointer (some ae)] w K := by
  apply R_exoipc_Ipc_Gone_1_ok
  simp only [R_exoipc_Ipc_Gone_1, newK_eq, spl_beq]
  have s1 := (Sep.nil (Mod.refl [] w)).alloc (.cells #[.int .i64 m.1, .slice m.2.1 m.2.2.1 m.2.2.2] 62)
  generalize w.alloc (.cells #[.int .i64 m.1, .slice m.2.1 m.2.2.1 m.2.2.2] 62) = w1 at s1 ⊢
  generalize w.heap.size = b1 at s1 ⊢
  obtain ⟨c1, c2⟩ := hte w1 s1.mod
  have hb : w1.heap[b1]? = some _ := s1.nth 0 rfl
  refine ⟨to, c1, env, c2, fun heq => ?_, fun hne => ⟨m.1, by rw [cell_get hb]; rfl, env, c2, ?_⟩⟩
  · have := hK w1 s1.mod
    rwa [goes, decide_eq_true heq, Bool.true_or] at this
  · have := hK w1 s1.mod
    rw [goes, decide_eq_false hne, Bool.false_or] at this
    exact this

theorem index_run {w : World} {a : Option Addr} {l c : Nat} {ph : List PM} {G : List Nat} (hs : Rd w a l 2 (mrow ph) G) (hl4 : l ≤ 1000) {at_ ae : Addr} {to env : Int} (hte : ∀ w', Mod [] w w' → w'.cell? at_ = some (.int .i64 to) ∧ w'.cell? ae = some (.int .i64 env)) {K : Value → World → Prop}
    (h0 : ∀ w', (∀ m ∈ ph, goes to env m.1 = false) → Mod [] w w' → K (.int .i64 (-1)) w')
    (h1 : ∀ w' (i : Nat) m, ph[i]? = some m → goes to env m.1 = true → (∀ m ∈ ph.take i, goes to env m.1 = false) → Mod [] w w' → K (.int .i64 (i : Int)) w') :
    CallsR Try.prog F_slices_IndexFunc_exoipc_message_exoipc_message #[.slice a l c, .func (.func F_exoipc_Ipc_Gone_1) #[] #[.pointer (some at_), .pointer (some ae)]] w K := by
  apply R_slices_IndexFunc_exoipc_message_exoipc_message_ok
  simp only [R_slices_IndexFunc_exoipc_message_exoipc_message, spl_decide]
  have hlen := hs.length
  rw [mrow_len] at hlen
  refine ⟨fun n t w' => ∃ k : Nat, t = k ∧ k ≤ l ∧ n = l - k ∧ (∀ m ∈ ph.take k, goes to env m.1 = false) ∧ Mod [] w w', ⟨l, 0, rfl, by omega, rfl, by simp, Mod.refl _ _⟩, ?_⟩
  rintro n t - w1 ⟨k, rfl, hk, rfl, hbef, hm⟩
  refine ⟨fun hlt => ?_, fun hge => ?_⟩
  · obtain ⟨ad, vs, rfl, hvs, -, -, -, hc⟩ := (hs.mod0 hm).elem (vss := ph.map mcell) (by simp; omega) (mrow_2 ph) (i := k) (by omega)
    simp only [List.getElem?_map, Option.map_eq_some_iff] at hvs
    obtain ⟨m, hpm, rfl⟩ := hvs
    rw [nilK_some, Int.toNat_natCast]
    refine ⟨⟨by omega, by omega⟩, m.1, m.2.1, m.2.2.1, m.2.2.2, ⟨by have := hc 0 (by decide); rw [add_zero] at this; exact this, hc 1 (by decide)⟩, ?_⟩
    have hte1 := hte w1 hm
    refine gone1_run hte1.1 hte1.2 (fun w' hm' => hte w' (hm.trans' hm')) m fun w2 hm2 => ⟨_, rfl, ?_⟩
    cases hg : goes to env m.1 with
    | true => exact spl_t rfl (h1 w2 k m hpm hg hbef (hm.trans' hm2))
    | false =>
      refine spl_f rfl ⟨l - (k + 1), by omega, k + 1, by rw [w64 (by omega) (by omega)]; omega, by omega, rfl, fun m' hm' => ?_, hm.trans' hm2⟩
      rw [List.take_add_one, hpm] at hm'
      rcases List.mem_append.1 hm' with h | h
      · exact hbef m' h
      · simp at h; subst h; exact hg
  · exact h0 w1 (fun m hm' => hbef m (by rw [List.take_of_length_le (by omega)]; exact hm')) hm

theorem delete_row {w : World} {a : Option Addr} {l c : Nat} {ph : List PM} {G : List Nat} (hs : SlB w a l c 2 (mrow ph) G) (hl4 : l ≤ 1000) {at_ ae : Addr} {to env : Int} (hte : ∀ w', Mod G w w' → w'.cell? at_ = some (.int .i64 to) ∧ w'.cell? ae = some (.int .i64 env)) {K : Value → World → Prop}
    (hK : ∀ w' a' l' c', SlB w' a' l' c' 2 (mrow (ph.filter fun m => !goes to env m.1)) G → Mod G w w' → K (.slice a' l' c') w') :
    CallsR Try.prog F_slices_DeleteFunc_exoipc_message_exoipc_message #[.slice a l c, .func (.func F_exoipc_Ipc_Gone_1) #[] #[.pointer (some at_), .pointer (some ae)]] w K := by
  apply R_slices_DeleteFunc_exoipc_message_exoipc_message_ok
  simp only [R_slices_DeleteFunc_exoipc_message_exoipc_message]
  have hlen := hs.length
  rw [mrow_len] at hlen
  have hGlt := hs.lt
  refine index_run hs.rd hl4 (fun w' hm => hte w' hm.of0) (fun w1 hno hm1 => ⟨_, rfl, ?_⟩) (fun w1 r m0 hr hg0 hbef hm1 => ⟨_, rfl, ?_⟩)
  · refine spl_t rfl ?_
    have e : ph.filter (fun m => !goes to env m.1) = ph := List.filter_eq_self.2 fun m hm => by rw [hno m hm]; rfl
    exact hK w1 a l c (by rw [e]; exact hs.keep (hm1.at0 hs.lt)) hm1.of0
  · have hrl : r < l := by have := (List.getElem?_eq_some_iff.1 hr).1; omega
    refine spl_f (by simp) ?_
    simp only [spl_decide]
    have et : (ph.take r).filter (fun m => !goes to env m.1) = ph.take r := List.filter_eq_self.2 fun m hm => by rw [hbef m hm]; rfl
    refine ⟨fun n i j w' => ∃ (I J : Nat) (R : List PM), i = I ∧ j = J ∧ I < J ∧ J ≤ l ∧ n = l - J ∧ SlB w' a l c 2 (mrow R) G ∧ R.length = l ∧ R.take I = (ph.take J).filter (fun m => !goes to env m.1) ∧ R.drop J = ph.drop J ∧ Mod G w w',
      ⟨l - (r + 1), r, r + 1, ph, rfl, by rw [w64 (by omega) (by omega)]; omega, by omega, by omega, rfl, hs.keep (hm1.at0 hs.lt), by omega, ?_, rfl, hm1.of0⟩, ?_⟩
    · rw [List.take_add_one, hr, List.filter_append, et]
      simp [hg0]
    · rintro n i j - w2 ⟨I, J, R, rfl, rfl, hIJ, hJ, rfl, hs2, hRl, ht, hd, hm2⟩
      refine ⟨fun hlt => ?_, fun hge => ?_⟩
      · have hJl : J < l := by omega
        refine ⟨fun i w' => ∃ (I : Nat) (R : List PM), i = I ∧ I < J + 1 ∧ SlB w' a l c 2 (mrow R) G ∧ R.length = l ∧ R.take I = (ph.take (J + 1)).filter (fun m => !goes to env m.1) ∧ R.drop (J + 1) = ph.drop (J + 1) ∧ Mod G w w', ?_, ?_⟩
        · rintro i - w3 ⟨I3, R3, rfl, h1, h2, h3, h4, h5, h6⟩
          exact ⟨l - (J + 1), by omega, I3, J + 1, R3, rfl, by rw [w64 (by omega) (by omega)]; omega, h1, by omega, rfl, h2, h3, h4, h5, h6⟩
        obtain ⟨ad, m, rfl, hm, c0, c1⟩ := row_at hs2 (i := J) hJl
        have hpm : ph[J]? = some m := by
          have := congrArg (·[0]?) hd
          simp only [List.getElem?_drop, Nat.add_zero] at this
          rw [← this, hm]
        have hd1 : R.drop (J + 1) = ph.drop (J + 1) := by
          have := congrArg List.tail hd
          simpa using this
        have etk : (ph.take (J + 1)).filter (fun m => !goes to env m.1) = (ph.take J).filter (fun m => !goes to env m.1) ++ [m].filter (fun m => !goes to env m.1) := by
          rw [List.take_add_one, hpm, List.filter_append]; rfl
        rw [nilK_some, Int.toNat_natCast]
        refine ⟨⟨by omega, by omega⟩, m.1, m.2.1, m.2.2.1, m.2.2.2, ⟨c0, c1⟩, ?_⟩
        simp only [newK_eq]
        refine (Sep.nil (Mod.refl [] w2)).stK rfl fun w3 s3 m3 => ?_
        generalize hb3 : w2.heap.size = b3 at s3 ⊢
        have hb3' : w3.heap[b3]? = some _ := s3.nth 0 rfl
        refine ⟨m.1, m.2.1, m.2.2.1, m.2.2.2, ⟨by rw [cell_get hb3']; rfl, by rw [cell_get hb3']; rfl⟩, ?_⟩
        have hm3 := hm2.trans' m3.of0
        have hte3 := hte w3 hm3
        refine gone1_run hte3.1 hte3.2 (fun w' hm' => hte w' (hm3.trans' hm'.of0)) m fun w4 hm4 => ⟨_, rfl, ?_⟩
        have hm4' := hm3.trans' (hm4.of0 (S := G))
        have hb4 := hm4.get hb3' (by simp)
        have hs4 := hs2.keep ((m3.trans' hm4).at0 hs2.lt)
        cases hg : goes to env m.1 with
        | true =>
          refine spl_t rfl ⟨I, R, rfl, by omega, hs4, hRl, ?_, hd1, hm4'⟩
          rw [etk, ht]
          simp [hg]
        | false =>
          refine spl_f rfl ⟨m.1, m.2.1, m.2.2.1, m.2.2.2, ⟨by rw [cell_get hb4]; rfl, by rw [cell_get hb4]; rfl⟩, ?_⟩
          rw [nilK_some]
          refine ⟨⟨by omega, by omega⟩, ?_⟩
          obtain ⟨b, o, hbo, hGb⟩ := hs4.isNone (by omega)
          cases hbo
          subst hGb
          obtain ⟨arr, T, hbk, hcap, -⟩ := hs4.block
          have hle := hs4.le
          rw [Int.toNat_natCast, addr_add]
          refine stK_of hbk (by simp; omega) ?_
          have hsp := hs4.splice hbk (j := I * 2) (us := mcell m) (by rw [mrow_len]; simp [mcell]; omega)
          have e1 : (mrow R).take (I * 2) ++ mcell m ++ (mrow R).drop (I * 2 + (mcell m).length) = mrow (R.set I m) := by
            rw [show I * 2 + (mcell m).length = (I + 1) * 2 by simp [mcell]; omega, mrow_take, mrow_drop, List.set_eq_take_append_cons_drop, if_pos (by omega)]
            simp [mrow]
          rw [e1] at hsp
          refine ⟨I + 1, R.set I m, by rw [w64 (by omega) (by omega)]; omega, by omega, hsp, by simpa using hRl, ?_, ?_, hm4'.upd (.inl (by simp)) _⟩
          · rw [etk, ← ht, List.take_add_one, List.getElem?_set_self (by omega), List.take_set_of_le (Nat.le_refl _)]
            simp [hg]
          · rw [List.drop_set_of_lt (by omega)]; exact hd1
      · have hJl : J = l := by omega
        subst hJl
        have e0 : ph.take J = ph := List.take_of_length_le (by omega)
        rw [e0] at ht
        refine clear_tail slT_exoipc_message (by simp [Value.cells, isCell]) (by decide) hs2 (i := I) (by omega) fun w3 us hs3 hm3 => ⟨rfl, ?_⟩
        have hlc3 := hs3.le
        refine slK_of hs3 (L := 0) (H := I) (M := c) (.inr ⟨rfl, rfl⟩) (.inl rfl) (.inr ⟨rfl, rfl⟩) (by omega) (by omega) (by omega) (Nat.le_refl _) fun a' _ hs4 => ?_
        have e : ((((mrow R).take (I * 2) ++ us).drop (0 * 2)).take ((I - 0) * 2)) = mrow (ph.filter fun m => !goes to env m.1) := by
          have hl : ((mrow R).take (I * 2)).length = I * 2 := by rw [List.length_take, mrow_len]; omega
          rw [Nat.zero_mul, List.drop_zero, Nat.sub_zero, List.take_append_of_le_length (by omega), List.take_of_length_le (by omega), mrow_take, ht]
        rw [e] at hs4
        exact hK w3 a' (I - 0) (c - 0) hs4 (hm2.trans' hm3)

theorem line_drop {w : World} {p k : Nat} {arr : Array Value} {T : TypeId} {a : Option Addr} {l c : Nat} {ms : List Msg} {F W : List Nat} (hp : w.heap[p]? = some (.cells arr T (0, 0))) (hk : arr[k]? = some (.slice a l c)) (hL : LineP w a l c ms F W) (hpF : p ∉ F) (hl4 : l ≤ 1000) {at_ ae : Addr} {to env : Int}
    (hte : ∀ w', Mod F w w' → w'.cell? at_ = some (.int .i64 to) ∧ w'.cell? ae = some (.int .i64 env)) {K : Value → World → Prop}
    (hK : ∀ w' a' l' c', w'.heap[p]? = some (.cells (arr.setIfInBounds k (.slice a' l' c')) T (0, 0)) → LineP w' a' l' c' (ms.filter fun x => !goes to env x.1) F W → Mod (p :: F) w w' → (∀ b ∈ W, w'.heap[b]? = w.heap[b]?) → K (.tuple #[]) w') :
    CallsR Try.prog F_exoipc_line_exoipc_message_drop #[.pointer (some ⟨p, k, none⟩), .func (.func F_exoipc_Ipc_Gone_1) #[] #[.pointer (some at_), .pointer (some ae)]] w K := by
  apply R_exoipc_line_exoipc_message_drop_ok
  simp only [R_exoipc_line_exoipc_message_drop, nilK_some]
  obtain ⟨ph, G, hs, hms, hW, hGW, rfl⟩ := hL
  have hklt : k < arr.size := (Array.getElem?_eq_some_iff.1 hk).1
  refine ⟨a, l, c, by rw [cell_get hp]; exact hk, ?_⟩
  refine delete_row hs hl4 (fun w' hm => hte w' (hm.mono (by simp +contextual))) fun w1 a' l' c' hs1 hm1 => ⟨_, _, _, rfl, ?_⟩
  have hpG : p ∉ G := fun h => hpF (by simp [h])
  have hp1 := hm1.get hp hpG
  refine stK_of hp1 (by simp; omega) ?_
  simp only [splice_cons, splice_nil]
  have kW : ∀ b ∈ W, (w1.upd p (.cells (arr.setIfInBounds k (.slice a' l' c')) T (0, 0))).heap[b]? = w.heap[b]? := fun b hb => by
    rw [upd_ne _ (by rintro rfl; exact hpF (by simp [hb]))]
    exact hm1.keep b (hW b hb) fun h => hGW b h hb
  refine hK _ a' l' c' (upd_same hp1) ⟨_, G, hs1.keep fun b hb => upd_ne _ (by rintro rfl; exact hpG hb), ?_, fun b hb => lt_keep (hW b hb) (kW b hb), hGW, rfl⟩ ((hm1.mono (by simp +contextual)).upd (.inl (by simp)) _) kW
  have hms' := hms.keep kW
  clear hs hs1 hms
  generalize (w1.upd p _) = u at hms'
  clear hte hK hm1 hp1 kW
  induction ph generalizing ms with
  | nil =>
    have : ms = [] := List.eq_nil_of_length_eq_zero (by have := hms'.1; simpa using this.symm)
    subst this
    exact MsgsOk.nil u W
  | cons m ph ih =>
    cases ms with
    | nil => have := hms'.1; simp at this
    | cons x ms =>
      obtain ⟨h1, h2⟩ := hms'.cons
      have := ih h2
      have e := h1.1
      by_cases hg : goes to env m.1 = true
      · rw [List.filter_cons_of_neg (by simp [hg]), List.filter_cons_of_neg (by rw [← e]; simp [hg])]
        exact this
      · rw [List.filter_cons_of_pos (by simpa using hg), List.filter_cons_of_pos (by rw [← e]; simpa using hg)]
        exact (MsgsOk.single h1).append this

end Go.Proofs
