/-
  Layer 11: contracts of the program's messages.
-/
import Derived.Test.YtidfjfcmkjdpnaaC11b
set_option linter.unusedSimpArgs false
namespace Go.Proofs
open Go Go.Den

/-- What waits for each. -/
abbrev Qs := Int → List Msg
def qput (Q : Qs) (n : Int) (ms : List Msg) : Qs := fun j => if n = j then ms else Q j
def in12 (n : Int) : Prop := 0 ≤ n ∧ n < 12
instance (n : Int) : Decidable (in12 n) := inferInstanceAs (Decidable (_ ∧ _))
def sendE (Q : Qs) (f t : Int) (n : Nat) : Int := if ¬ in12 f ∨ ¬ in12 t ∨ 8 < n then 101 else if 4 ≤ (Q t).length then 105 else 0
def sendQ (Q : Qs) (f t : Int) (ws : List Int) : Qs := if sendE Q f t ws.length = 0 then qput Q t (Q t ++ [(f, ws)]) else Q
def goneQ (Q : Qs) (env : Int) : Qs := fun t => (Q t).filter fun x => !goes t env x.1
def QOk (Q : Qs) : Prop := (∀ n, ¬ in12 n → Q n = []) ∧ ∀ n, (Q n).length ≤ 4

theorem qput_qput (Q : Qs) (n : Int) (a b : List Msg) : qput (qput Q n a) n b = qput Q n b := by funext j; unfold qput; split <;> rfl
theorem qput_self (Q : Qs) (n : Int) : qput Q n (Q n) = Q := by
  funext j; unfold qput; split
  · rename_i h; rw [h]
  · rfl
theorem QOk.put {Q : Qs} (h : QOk Q) {n : Int} (hn : in12 n) {ms : List Msg} (hl : ms.length ≤ 4) : QOk (qput Q n ms) := by
  refine ⟨fun j hj => ?_, fun j => ?_⟩
  · unfold qput; split
    · rename_i e; subst e; exact absurd hn hj
    · exact h.1 j hj
  · unfold qput; split
    · exact hl
    · exact h.2 j

/-- The program's messages at block 'p'. -/
def IpcP (w : World) (p : Nat) (Q : Qs) (F W : List Nat) : Prop :=
  ∃ (ls : List (Option Addr × Nat × Nat)) (Fs Ws : List (List Nat)) (T : TypeId), w.heap[p]? = some (.cells (ls.map fun x => Value.slice x.1 x.2.1 x.2.2).toArray T (0, 0)) ∧ ls.length = 12 ∧ Fs.length = 12 ∧ Ws.length = 12 ∧ QOk Q ∧
    (∀ (i : Nat) x Fi Wi, ls[i]? = some x → Fs[i]? = some Fi → Ws[i]? = some Wi → LineP w x.1 x.2.1 x.2.2 (Q (i : Int)) Fi Wi ∧ p ∉ Fi) ∧ (∀ (i j : Nat) Fi Fj, i ≠ j → Fs[i]? = some Fi → Fs[j]? = some Fj → ∀ b ∈ Fi, b ∉ Fj) ∧ F = p :: Fs.flatten ∧ W = Ws.flatten

theorem LineP.sub {w : World} {a : Option Addr} {l c : Nat} {ms : List Msg} {F W : List Nat} (h : LineP w a l c ms F W) : ∀ b ∈ W, b ∈ F := by
  obtain ⟨ph, G, h1, h2, h3, h4, rfl⟩ := h
  intro b hb
  simp [hb]
theorem IpcP.ok {w : World} {p : Nat} {Q : Qs} {F W : List Nat} (h : IpcP w p Q F W) : QOk Q := by
  obtain ⟨ls, Fs, Ws, T, h1, h2, h3, h3', h4, -⟩ := h
  exact h4
theorem IpcP.lt {w : World} {p : Nat} {Q : Qs} {F W : List Nat} (h : IpcP w p Q F W) : ∀ b ∈ F, b < w.heap.size := by
  obtain ⟨ls, Fs, Ws, T, h1, h2, h3, h3', h4, h5, h6, rfl, rfl⟩ := h
  intro b hb
  simp only [List.mem_cons, List.mem_flatten] at hb
  rcases hb with rfl | ⟨Fi, hFi, hb⟩
  · exact lt_of_get h1
  · obtain ⟨i, hi⟩ := List.getElem?_of_mem hFi
    have hil : i < ls.length := by have := (List.getElem?_eq_some_iff.1 hi).1; omega
    exact (h5 i _ Fi _ (List.getElem?_eq_getElem hil) hi (List.getElem?_eq_getElem (by omega))).1.lt b hb
theorem IpcP.keep {w w' : World} {p : Nat} {Q : Qs} {F W : List Nat} (h : IpcP w p Q F W) (hk : ∀ b ∈ F, w'.heap[b]? = w.heap[b]?) : IpcP w' p Q F W := by
  obtain ⟨ls, Fs, Ws, T, h1, h2, h3, h3', h4, h5, h6, rfl, rfl⟩ := h
  refine ⟨ls, Fs, Ws, T, (hk p (by simp)).trans h1, h2, h3, h3', h4, fun i x Fi Wi hx hF hW => ?_, h6, rfl, rfl⟩
  obtain ⟨h7, h8⟩ := h5 i x Fi Wi hx hF hW
  exact ⟨h7.keep fun b hb => hk b (by simp only [List.mem_cons, List.mem_flatten]; exact .inr ⟨Fi, List.mem_of_getElem? hF, hb⟩), h8⟩

/-- The words of messages, also of those that were taken, are as they were. -/
def Keep (W W' : List Nat) (w w' : World) : Prop := ∀ b ∈ W, w'.heap[b]? = w.heap[b]? ∧ b ∈ W'
theorem Keep.refl (W : List Nat) (w : World) : Keep W W w w := fun _ h => ⟨rfl, h⟩
theorem Keep.trans {W W1 W2 : List Nat} {w w1 w2 : World} (h : Keep W W1 w w1) (h' : Keep W1 W2 w1 w2) : Keep W W2 w w2 := fun b hb => ⟨((h' b (h b hb).2).1).trans (h b hb).1, (h' b (h b hb).2).2⟩

theorem ipc_line {w : World} {p : Nat} {Q : Qs} {F W : List Nat} (h : IpcP w p Q F W) {k : Nat} (hk : k < 12) :
    ∃ arr T a l c Fi Wi, w.heap[p]? = some (.cells arr T (0, 0)) ∧ arr[k]? = some (.slice a l c) ∧ arr.size = 12 ∧ LineP w a l c (Q (k : Int)) Fi Wi ∧ p ∉ Fi ∧ (∀ b ∈ Fi, b ∈ F) ∧ p ∈ F ∧ (∀ b ∈ W, b ∈ F) ∧ (∀ b ∈ Wi, b ∈ W) ∧
      ∀ w' a' l' c' ms' Fi' Wi', w'.heap[p]? = some (.cells (arr.setIfInBounds k (.slice a' l' c')) T (0, 0)) → LineP w' a' l' c' ms' Fi' Wi' → ms'.length ≤ 4 → Mod (p :: Fi) w w' → (∀ b ∈ Fi', b ∈ Fi ∨ b ∉ F) → (∀ b ∈ Wi, w'.heap[b]? = w.heap[b]? ∧ b ∈ Wi') → ∃ F' W', IpcP w' p (qput Q k ms') F' W' ∧ (∀ b ∈ F', b ∈ F ∨ b ∈ Fi') ∧ Keep W W' w w' ∧ (∀ b ∈ Wi', b ∈ W') := by
  have hlt := h.lt
  obtain ⟨ls, Fs, Ws, T, h1, h2, h3, h3', h4, h5, h6, rfl, rfl⟩ := h
  have hx : ls[k]? = some (ls[k]'(by omega)) := List.getElem?_eq_getElem _
  have hF : Fs[k]? = some (Fs[k]'(by omega)) := List.getElem?_eq_getElem _
  have hW : Ws[k]? = some (Ws[k]'(by omega)) := List.getElem?_eq_getElem _
  obtain ⟨x, hx'⟩ : ∃ x, x = ls[k]'(by omega) := ⟨_, rfl⟩
  obtain ⟨Fi, hFi⟩ : ∃ Fi, Fi = Fs[k]'(by omega) := ⟨_, rfl⟩
  obtain ⟨Wi, hWi⟩ : ∃ Wi, Wi = Ws[k]'(by omega) := ⟨_, rfl⟩
  rw [← hx'] at hx
  rw [← hFi] at hF
  rw [← hWi] at hW
  obtain ⟨h7, h8⟩ := h5 k x Fi Wi hx hF hW
  have inF : ∀ (j : Nat) Fj, Fs[j]? = some Fj → ∀ b ∈ Fj, b ∈ p :: Fs.flatten := fun j Fj hj b hb => by
    simp only [List.mem_cons, List.mem_flatten]
    exact .inr ⟨Fj, List.mem_of_getElem? hj, hb⟩
  have inW : ∀ b ∈ Ws.flatten, ∃ (j : Nat) (Wj Fj : List Nat), Ws[j]? = some Wj ∧ Fs[j]? = some Fj ∧ b ∈ Wj ∧ b ∈ Fj ∧ b ≠ p := fun b hb => by
    simp only [List.mem_flatten] at hb
    obtain ⟨Wj, hWj, hb⟩ := hb
    obtain ⟨j, hj⟩ := List.getElem?_of_mem hWj
    have hjl : j < 12 := by have := (List.getElem?_eq_some_iff.1 hj).1; omega
    obtain ⟨h9, h10⟩ := h5 j _ _ Wj (List.getElem?_eq_getElem (by omega)) (List.getElem?_eq_getElem (by omega)) hj
    exact ⟨j, Wj, _, hj, List.getElem?_eq_getElem (by omega), hb, h9.sub b hb, by rintro rfl; exact h10 (h9.sub _ hb)⟩
  refine ⟨_, T, x.1, x.2.1, x.2.2, Fi, Wi, h1, by simp [hx], by simpa using h2, h7, h8, inF k Fi hF, by simp, ?_, fun b hb => by simp only [List.mem_flatten]; exact ⟨Wi, List.mem_of_getElem? hW, hb⟩, ?_⟩
  · intro b hb
    obtain ⟨j, Wj, Fj, _, hFj, _, hb', _⟩ := inW b hb
    exact inF j Fj hFj b hb'
  intro w' a' l' c' ms' Fi' Wi' hp' hL' hl4 hm hFi' hWi'
  have hpFi' : p ∉ Fi' := fun hh => by
    rcases hFi' p hh with h | h
    · exact h8 h
    · exact h (by simp)
  refine ⟨p :: (Fs.set k Fi').flatten, (Ws.set k Wi').flatten, ⟨ls.set k (a', l', c'), Fs.set k Fi', Ws.set k Wi', T, ?_, by simpa using h2, by simpa using h3, by simpa using h3', h4.put ⟨by omega, by omega⟩ hl4, fun i y Fj Wj hy hj hwj => ?_, fun i j Fa Fb hij hi hj => ?_, rfl, rfl⟩, fun b hb => ?_, fun b hb => ?_, fun b hb => ?_⟩
  · rw [hp', List.map_set]; simp
  · rw [List.getElem?_set] at hy hj hwj
    by_cases hik : k = i
    · subst hik
      rw [if_pos rfl, if_pos (by omega)] at hy hj hwj
      obtain rfl := Option.some.inj hy
      obtain rfl := Option.some.inj hj
      obtain rfl := Option.some.inj hwj
      exact ⟨by simpa [qput] using hL', hpFi'⟩
    · rw [if_neg hik] at hy hj hwj
      obtain ⟨h9, h10⟩ := h5 i y Fj Wj hy hj hwj
      refine ⟨?_, h10⟩
      have e : qput Q k ms' (i : Int) = Q (i : Int) := by unfold qput; rw [if_neg (by omega)]
      rw [e]
      exact h9.keep (hm.at h9.lt fun b hb hh => by
        simp only [List.mem_cons] at hh
        rcases hh with rfl | hh
        · exact h10 hb
        · exact h6 k i Fi Fj hik hF hj b hh hb)
  · rw [List.getElem?_set] at hi hj
    have new : ∀ (m : Nat) Fm, m ≠ k → Fs[m]? = some Fm → ∀ b ∈ Fi', b ∉ Fm := fun m Fm hmk hm' b hb hbm => by
      rcases hFi' b hb with h | h
      · exact h6 k m Fi Fm (Ne.symm hmk) hF hm' b h hbm
      · exact h (inF m Fm hm' b hbm)
    by_cases hik : k = i <;> by_cases hjk : k = j
    · omega
    · rw [if_pos hik, if_pos (by omega)] at hi
      rw [if_neg hjk] at hj
      obtain rfl := Option.some.inj hi
      exact new j Fb (Ne.symm hjk) hj
    · rw [if_pos hjk, if_pos (by omega)] at hj
      rw [if_neg hik] at hi
      obtain rfl := Option.some.inj hj
      exact fun b hb hb' => new i Fa (Ne.symm hik) hi b hb' hb
    · rw [if_neg hik] at hi; rw [if_neg hjk] at hj
      exact h6 i j Fa Fb hij hi hj
  · simp only [List.mem_cons, List.mem_flatten] at hb
    rcases hb with rfl | ⟨Fj, hj, hb⟩
    · exact .inl (by simp)
    · obtain ⟨i, hi⟩ := List.getElem?_of_mem hj
      rw [List.getElem?_set] at hi
      by_cases hik : k = i
      · rw [if_pos hik, if_pos (by omega)] at hi
        obtain rfl := Option.some.inj hi
        exact .inr hb
      · rw [if_neg hik] at hi
        exact .inl (inF i Fj hi b hb)
  · obtain ⟨j, Wj, Fj, hWj, hFj, hbW, hbF, hbp⟩ := inW b hb
    by_cases hjk : k = j
    · subst hjk
      rw [hW] at hWj
      obtain rfl := Option.some.inj hWj
      obtain ⟨h9, h10⟩ := hWi' b hbW
      refine ⟨h9, ?_⟩
      simp only [List.mem_flatten]
      exact ⟨Wi', List.mem_of_getElem? (i := k) (by rw [List.getElem?_set, if_pos rfl, if_pos (by omega)]), h10⟩
    · refine ⟨hm.keep b (hlt b (inF j Fj hFj b hbF)) fun hh => ?_, ?_⟩
      · simp only [List.mem_cons] at hh
        rcases hh with rfl | hh
        · exact hbp rfl
        · exact h6 k j Fi Fj hjk hF hFj b hh hbF
      · simp only [List.mem_flatten]
        exact ⟨Wj, List.mem_of_getElem? (i := j) (by rw [List.getElem?_set, if_neg hjk]; exact hWj), hbW⟩
  · simp only [List.mem_flatten]
    exact ⟨Wi', List.mem_of_getElem? (i := k) (by rw [List.getElem?_set, if_pos rfl, if_pos (by omega)]), hb⟩

theorem ipc_new (w : World) {K : Value → World → Prop} (h : ∀ (p : Nat) (F W : List Nat) (w' : World), IpcP w' p (fun _ => []) F W → Mod [] w w' → Beyond w.heap.size F → K (.pointer (some ⟨p, 0, none⟩)) w') : CallsR Try.prog F_exoipc_New #[] w K := by
  apply R_exoipc_New_ok
  simp only [R_exoipc_New, newK_eq]
  refine h _ [w.heap.size] [] _ ⟨List.replicate 12 (none, 0, 0), List.replicate 12 [], List.replicate 12 [], 59, alloc_new w _, by simp, by simp, by simp, ⟨fun _ _ => rfl, fun _ => by simp⟩, fun i x Fi Wi hx hF hW => ?_, fun i j Fa Fb hij hi hj b hb => ?_, by simp, by simp⟩ ((Mod.refl _ _).alloc _) (by simp [Beyond])
  · rw [List.getElem?_replicate] at hx hF hW
    split at hx
    · rename_i hi
      rw [if_pos hi] at hF hW
      obtain rfl := Option.some.inj hx
      obtain rfl := Option.some.inj hF
      obtain rfl := Option.some.inj hW
      exact ⟨LineP.nil _, by simp⟩
    · cases hx
  · rw [List.getElem?_replicate] at hi
    split at hi
    · obtain rfl := Option.some.inj hi; simp at hb
    · cases hi

theorem is_run (n : Int) {w : World} {K : Value → World → Prop} (h : K (.bool (decide (in12 n))) w) : CallsR Try.prog F_exoipc_is #[.int .i64 n] w K := by
  apply R_exoipc_is_ok
  simp only [R_exoipc_is, spl_decide]
  refine ⟨fun h1 => ?_, fun h1 => ?_⟩
  · rw [show decide (n < 12) = decide (in12 n) from decide_eq_decide.2 (by unfold in12; omega)]; exact h
  · rw [show false = decide (in12 n) from (decide_eq_false (by unfold in12; omega)).symm]; exact h

theorem ipc_send {w : World} {p : Nat} {Q : Qs} {F W : List Nat} (h : IpcP w p Q F W) (f t : Int) {wa : Option Addr} {wl wc : Nat} {ws : List Int} {H : List Nat} (hw : Rd w wa wl 1 (u64s ws) H) {K : Value → World → Prop}
    (hK : ∀ w' F' W', IpcP w' p (sendQ Q f t ws) F' W' → Mod F w w' → Own w F F' → Keep W W' w w' → K (.int .i64 (sendE Q f t ws.length)) w') :
    CallsR Try.prog F_exoipc_Ipc_Send #[.pointer (some ⟨p, 0, none⟩), .int .i64 f, .int .i64 t, .slice wa wl wc] w K := by
  apply R_exoipc_Ipc_Send_ok
  simp only [R_exoipc_Ipc_Send, Option.isNone_some, spl_false, nilK_some, addr_add, Nat.zero_add, drK_eq, spl_decide]
  have hwl := hw.u64
  have err : ∀ e : Int, e ≠ 0 → sendE Q f t ws.length = e → K (.int .i64 e) w := fun e he hh => by
    have := hK w F W (by unfold sendQ; rw [hh, if_neg he]; exact h) (Mod.refl _ _) (Own.refl _ _) (Keep.refl _ _)
    rwa [hh] at this
  refine is_run f ⟨_, rfl, ?_⟩
  rw [spl_decide]
  refine ⟨fun hf => is_run t ⟨_, rfl, ?_⟩, fun hf => err 101 (by decide) (if_pos (.inl hf))⟩
  rw [spl_decide]
  refine ⟨fun ht => ⟨fun hgt => err 101 (by decide) (if_pos (.inr (.inr (by omega)))), fun hle => ⟨ht, ?_⟩⟩, fun ht => err 101 (by decide) (if_pos (.inr (.inl ht)))⟩
  have hgood : ¬ (¬ in12 f ∨ ¬ in12 t ∨ 8 < ws.length) := by
    rintro (h | h | h)
    · exact h hf
    · exact h ht
    · omega
  obtain ⟨k, rfl⟩ := nat_of ht.1
  have hk12 : k < 12 := by have := ht.2; omega
  obtain ⟨arr, T, a, l, c, Fi, Wi, hp, hk, hsz, hL, hpFi, hFiF, hpF, hWF, hWiW, hset⟩ := ipc_line h hk12
  have hlen := hL.len
  have hFlt := h.lt
  rw [Int.toNat_natCast]
  refine ⟨a, l, c, by rw [cell_get hp]; exact hk, fun hge => err 105 (by decide) (by unfold sendE; rw [if_neg hgood, if_pos (by omega)]), fun hlt => ?_⟩
  have hE : sendE Q f k ws.length = 0 := by unfold sendE; rw [if_neg hgood, if_neg (by omega)]
  refine ⟨[], ht, ?_⟩
  refine clone_u64 (hw.keep (w' := w.drew) fun _ _ => rfl) (by omega) fun A C w1 H1 hs1 hH1 hm1 => ⟨_, _, _, rfl, ?_⟩
  have hm01 : Mod [] w w1 := (Mod.refl _ _).drew.trans' hm1
  have hH1' : ∀ b ∈ H1, b ∉ F := fun b hb hh => by have := hH1 b hb; have := hFlt b hh; rw [drew_heap] at *; omega
  have hsl1 := hs1.u64
  refine line_push (hm01.get hp (by simp)) hk (hL.keep (hm01.at0 hL.lt)) hpFi (by omega) hs1.rd hs1.le (by omega) (fun b hb hh => hH1' b hb (hFiF b hh)) (fun hh => hH1' p hh hpF) fun w2 a' c' F2 hp2 hL2 hm2 hF2 hkW2 => ⟨rfl, ?_⟩
  have hm02 : Mod (p :: Fi) w w2 := hm01.of0.trans' hm2
  have hF2' : ∀ b ∈ F2, b ∈ Fi ∨ (b ∉ F ∧ w.heap.size ≤ b) := fun b hb => by
    rcases hF2 b hb with h | h | h
    · exact .inl h
    · have := hH1 b h; rw [drew_heap] at this; exact .inr ⟨hH1' b h, this⟩
    · have := hm01.size
      exact .inr ⟨fun hh => by have := hFlt b hh; omega, by omega⟩
  obtain ⟨F3, W3, hI3, hF3, hkW3, -⟩ := hset w2 a' (l + 1) c' _ F2 _ hp2 hL2 (by rw [List.length_append, List.length_singleton]; omega) hm02 (fun b hb => (hF2' b hb).imp id (·.1)) (fun b hb => ⟨(hkW2 b hb).trans (hm01.keep b (hFlt b (hWF b (hWiW b hb))) (by simp)), by simp [hb]⟩)
  have := hK w2 F3 W3 (by unfold sendQ; rw [hE, if_pos rfl]; exact hI3) (hm02.mono fun b hb => by
    simp only [List.mem_cons] at hb
    rcases hb with rfl | hb
    · exact hpF
    · exact hFiF b hb) (fun b hb => by
    rcases hF3 b hb with h | h
    · exact .inl h
    · exact (hF2' b h).imp (hFiF b) (·.2)) hkW3
  rwa [hE] at this

theorem ipc_recv {w : World} {p : Nat} {Q : Qs} {F W : List Nat} (h : IpcP w p Q F W) (e : Int) {K : Value → World → Prop} (h0 : ∀ w', Q e = [] → Mod [] w w' → K (.tuple #[.int .i64 0, .slice none 0 0, .bool false]) w')
    (hK : ∀ x ms w' F' W' wa wl wc H, Q e = x :: ms → IpcP w' p (qput Q e ms) F' W' → Mod F w w' → Own w F F' → Keep W W' w w' → Rd w' wa wl 1 (u64s x.2) H → (∀ b ∈ H, b ∈ W') → wl ≤ wc → x.2.length ≤ 8 → K (.tuple #[.int .i64 x.1, .slice wa wl wc, .bool true]) w') :
    CallsR Try.prog F_exoipc_Ipc_Recv #[.pointer (some ⟨p, 0, none⟩), .int .i64 e] w K := by
  apply R_exoipc_Ipc_Recv_ok
  simp only [R_exoipc_Ipc_Recv, Option.isNone_some, spl_false, nilK_some, addr_add, Nat.zero_add, drK_eq, newK_eq]
  have hok := h.ok
  refine is_run e ⟨_, rfl, ?_⟩
  rw [spl_decide]
  refine ⟨fun he => ⟨he, ?_⟩, fun he => h0 w (hok.1 e he) (Mod.refl _ _)⟩
  obtain ⟨k, rfl⟩ := nat_of he.1
  have hk12 : k < 12 := by have := he.2; omega
  obtain ⟨arr, T, a, l, c, Fi, Wi, hp, hk, hsz, hL, hpFi, hFiF, hpF, hWF, hWiW, hset⟩ := ipc_line h hk12
  have hlen := hL.len
  have hFlt := h.lt
  have h4 := hok.2 (k : Int)
  rw [Int.toNat_natCast]
  have sub : ∀ b ∈ p :: Fi, b ∈ F := fun b hb => by
    simp only [List.mem_cons] at hb
    rcases hb with rfl | hb
    · exact hpF
    · exact hFiF b hb
  refine line_pop hp hk hL hpFi (by omega) (fun w1 hnil hm1 => ⟨_, _, _, _, _, rfl, ?_⟩) (fun x ms' w1 a' c' F1 wa wl wc H hx hp1 hL1 hm1 hF1 hrd hHF hwc hx8 hkW1 => ⟨_, _, _, _, _, rfl, ?_⟩)
  · refine (Sep.nil hm1).stK rfl fun w2 s2 m2 => ?_
    have hb : w2.drew.heap[w1.heap.size]? = some _ := s2.nth 0 rfl
    exact ⟨0, by rw [cell_get hb]; rfl, none, 0, 0, by rw [cell_get hb]; rfl, h0 _ hnil s2.mod.drew⟩
  · refine (Sep.nil (Mod.refl [] w1)).stK rfl fun w2 s2 m2 => ?_
    have hb : w2.drew.heap[w1.heap.size]? = some _ := s2.nth 0 rfl
    refine ⟨x.1, by rw [cell_get hb]; rfl, wa, wl, wc, by rw [cell_get hb]; rfl, ?_⟩
    have hm2 : Mod [p] w w2.drew := hm1.trans' (m2.of0.drew)
    have m2d : Mod [] w1 w2.drew := m2.drew
    have hF1' : ∀ b ∈ F1, b ∈ Fi ∨ (b ∉ F ∧ w.heap.size ≤ b) := fun b hb => (hF1 b hb).imp id fun h => ⟨fun hh => by have := hFlt b hh; omega, h⟩
    obtain ⟨F3, W3, hI3, hF3, hkW3, hW3⟩ := hset w2.drew a' (l - 1) c' ms' F1 Wi (m2d.get hp1 (by simp)) (hL1.keep (m2d.at0 hL1.lt)) (by have := congrArg List.length hx; simp at this; omega) (hm2.mono (by simp)) (fun b hb => (hF1' b hb).imp id (·.1)) (fun b hb => ⟨(m2d.keep b (hL1.lt b (hL1.sub b hb)) (by simp)).trans (hkW1 b hb), hb⟩)
    exact hK x ms' w2.drew F3 W3 wa wl wc H hx hI3 ((hm2.mono (by simp)).mono sub) (fun b hb => by
      rcases hF3 b hb with h | h
      · exact .inl h
      · exact (hF1' b h).imp (hFiF b) (·.2)) hkW3 (hrd.mod0 m2d) (fun b hb => hW3 b (hHF b hb)) hwc hx8

theorem ipc_from {w : World} {p : Nat} {Q : Qs} {F W : List Nat} (h : IpcP w p Q F W) (e : Int) {K : Value → World → Prop} (hK : ∀ A N C G w', SlB w' A N C 1 (i64s ((Q e).map (·.1))) G → Beyond w.heap.size G → Mod [] w w' → K (.slice A N C) w') :
    CallsR Try.prog F_exoipc_Ipc_From #[.pointer (some ⟨p, 0, none⟩), .int .i64 e] w K := by
  apply R_exoipc_Ipc_From_ok
  simp only [R_exoipc_Ipc_From, Option.isNone_some, spl_false, nilK_some, addr_add, Nat.zero_add, newK_eq]
  have hok := h.ok
  refine is_run e ⟨_, rfl, ?_⟩
  rw [spl_decide]
  refine ⟨fun he => ⟨he, ?_⟩, fun he => hK none 0 0 [] w (by rw [hok.1 e he]; exact SlB.nil w 1) (by simp [Beyond]) (Mod.refl _ _)⟩
  obtain ⟨k, rfl⟩ := nat_of he.1
  have hk12 : k < 12 := by have := he.2; omega
  obtain ⟨arr, T, a, l, c, Fi, Wi, hp, hk, hsz, hL, hpFi, hFiF, hpF, -⟩ := ipc_line h hk12
  have hlen := hL.len
  have h4 := hok.2 (k : Int)
  obtain ⟨ph, G, hs, hms, hW, hGW, rfl⟩ := hL
  rw [Int.toNat_natCast]
  refine ⟨a, l, c, by rw [cell_get hp]; exact hk, ?_⟩
  refine ⟨fun n A N C t w' => ∃ (j : Nat) (G' : List Nat), t = j ∧ j ≤ l ∧ n = l - j ∧ SlB w' A N C 1 (i64s (((Q (k : Int)).take j).map (·.1))) G' ∧ Beyond w.heap.size G' ∧ Mod [] w w', ⟨l, 0, [], rfl, by omega, rfl, SlB.nil _ 1, by simp [Beyond], Mod.refl _ _⟩, ?_⟩
  rintro n A N C t - w2 ⟨j, G', rfl, hj, rfl, hs2, hG2, hm2⟩
  rw [spl_decide]
  refine ⟨fun hlt => ?_, fun hge => ?_⟩
  · obtain ⟨ad, m, rfl, hm, c0, c1⟩ := row_at (hs.keep (hm2.at0 hs.lt)) (i := j) (by omega)
    have hl2 := hs2.i64
    rw [List.length_map, List.length_take] at hl2
    obtain ⟨x, hx⟩ : ∃ x, (Q (k : Int))[j]? = some x := ⟨_, List.getElem?_eq_getElem (by omega)⟩
    have hmx := (hms.2 j m x hm hx).1
    rw [nilK_some, Int.toNat_natCast]
    refine ⟨⟨by omega, by omega⟩, m.1, m.2.1, m.2.2.1, m.2.2.2, ⟨c0, c1⟩, ?_⟩
    refine (Sep.nil hm2).stK rfl fun w3 s3 m3 => ?_
    have hb : w3.heap[w2.heap.size]? = some _ := s3.nth 0 rfl
    refine ⟨m.1, by rw [cell_get hb]; rfl, ?_⟩
    refine push_K slT_int (by decide) (hs2.keep (m3.at0 hs2.lt)) hG2 (hm2.trans' m3) (us := [.int .i64 m.1]) rfl (by simp [isCell]) (by omega) (by omega) fun A' C' w5 G' hs' hG' hm' _ _ => ⟨_, _, _, rfl, l - (j + 1), by omega, j + 1, G', by rw [w64 (by omega) (by omega)]; omega, by omega, rfl, ?_, hG', hm'⟩
    rw [List.take_add_one, hx, List.map_append, i64s_append, hmx] at *
    exact hs'
  · have hjl : j = l := by omega
    subst hjl
    rw [List.take_of_length_le (by omega)] at hs2
    exact hK A N C G' w2 hs2 hG2 hm2

theorem ipc_waiting {w : World} {p : Nat} {Q : Qs} {F W : List Nat} (h : IpcP w p Q F W) (e : Int) {K : Value → World → Prop} (hK : ∀ w', Mod [] w w' → K (.int .i64 ((Q e).length : Int)) w') :
    CallsR Try.prog F_exoipc_Ipc_Waiting #[.pointer (some ⟨p, 0, none⟩), .int .i64 e] w K := by
  apply R_exoipc_Ipc_Waiting_ok
  refine ipc_from h e fun A N C G w' hs _ hm => ⟨_, _, _, rfl, ?_⟩
  have := hs.i64
  rw [List.length_map] at this
  rw [← this]
  exact hK w' hm

def goneTo (Q : Qs) (env : Int) (k : Nat) : Qs := fun t => if t < k then goneQ Q env t else Q t
theorem goneTo_0 {Q : Qs} (h : QOk Q) (e : Int) : goneTo Q e 0 = Q := by
  funext t
  unfold goneTo
  split
  · rename_i ht
    have : Q t = [] := h.1 t (fun hh => by have := hh.1; omega)
    simp [goneQ, this]
  · rfl
theorem goneTo_12 {Q : Qs} (h : QOk Q) (e : Int) : goneTo Q e 12 = goneQ Q e := by
  funext t
  unfold goneTo
  split
  · rfl
  · rename_i ht
    have : Q t = [] := h.1 t (fun hh => by have := hh.2; omega)
    simp [goneQ, this]
theorem goneTo_succ (Q : Qs) (e : Int) (k : Nat) : qput (goneTo Q e k) (k : Int) ((goneTo Q e k (k : Int)).filter fun x => !goes (k : Int) e x.1) = goneTo Q e (k + 1) := by
  funext t
  unfold qput goneTo
  by_cases hkt : (k : Int) = t
  · subst hkt
    simp only [if_true]
    rw [if_neg (by omega), if_pos (by omega)]
    rfl
  · rw [if_neg hkt]
    by_cases ht : t < (k : Int)
    · rw [if_pos ht, if_pos (by omega)]
    · rw [if_neg ht, if_neg (by omega)]

theorem ipc_gone {w : World} {p : Nat} {Q : Qs} {F W : List Nat} (h : IpcP w p Q F W) (e : Int) {K : Value → World → Prop} (hK : ∀ w' F' W', IpcP w' p (goneQ Q e) F' W' → Mod F w w' → Own w F F' → Keep W W' w w' → K (.tuple #[]) w') :
    CallsR Try.prog F_exoipc_Ipc_Gone #[.pointer (some ⟨p, 0, none⟩), .int .i64 e] w K := by
  apply R_exoipc_Ipc_Gone_ok
  simp only [R_exoipc_Ipc_Gone, Option.isNone_some, spl_false, nilK_some, addr_add, Nat.zero_add, newK_eq, drK_eq]
  have hFlt := h.lt
  have hWF0 : ∀ b ∈ W, b ∈ F := by
    obtain ⟨_, _, _, _, _, _, _, _, _, _, _, _, _, _, hWF, _⟩ := ipc_line h (k := 0) (by decide)
    exact hWF
  have hm1 : Mod [] w (w.alloc (.cells #[.int .i64 e] 3)) := (Mod.refl _ _).alloc _
  have hb1 := alloc_new w (.cells #[.int .i64 e] 3)
  generalize hbe : w.heap.size = be at hb1 ⊢
  generalize w.alloc (.cells #[.int .i64 e] 3) = w1 at hm1 hb1 ⊢
  have h1 := h.keep (hm1.at0 h.lt)
  refine ⟨fun n t w' => ∃ (k : Nat) (F' W' : List Nat), t = k ∧ k ≤ 12 ∧ n = 12 - k ∧ IpcP w' p (goneTo Q e k) F' W' ∧ Mod F w w' ∧ Own w F F' ∧ Keep W W' w w' ∧ be ∉ F' ∧ w'.heap[be]? = some (.cells #[.int .i64 e] 3 (0, 0)), ⟨12, 0, F, W, rfl, by omega, rfl, ?_, hm1.of0, Own.refl _ _, fun b hb => ⟨hm1.keep b (hFlt b (hWF0 b hb)) (by simp), hb⟩, fun hh => by have := hFlt _ hh; omega, hb1⟩, ?_⟩
  · rw [goneTo_0 h.ok]
    exact h1
  · rintro n t - w2 ⟨k, F2, W2, rfl, hk, rfl, h2, hm2, ho2, hkW2, hbe2, hb2⟩
    rw [spl_decide]
    refine ⟨fun hlt => ?_, fun hge => ?_⟩
    · have hk12 : k < 12 := by omega
      refine (Sep.nil (Mod.refl [] w2)).stK rfl fun w3 s3 m3 => ?_
      have hbt : w3.drew.heap[w2.heap.size]? = some _ := s3.nth 0 rfl
      generalize hbtn : w2.heap.size = bt at hbt ⊢
      clear s3
      have m3d : Mod [] w2 w3.drew := m3.drew
      have h3 := h2.keep (m3d.at0 h2.lt)
      have hF2lt := h2.lt
      have hbtF : bt ∉ F2 := fun hh => by have := hF2lt _ hh; omega
      have hb3 := m3d.get hb2 (by simp)
      obtain ⟨arr, T, a, l, c, Fi, Wi, hp, hkk, hsz, hL, hpFi, hFiF, hpF, hWF, hWiW, hset⟩ := ipc_line h3 hk12
      have hlen := hL.len
      have h4 := h3.ok.2 (k : Int)
      refine ⟨(k : Int), by rw [cell_get hbt]; rfl, ⟨by omega, by omega⟩, ?_⟩
      rw [Int.toNat_natCast]
      refine line_drop hp hkk hL hpFi (by omega) (to := (k : Int)) (env := e) (fun w' hm => ⟨?_, ?_⟩) fun w4 a' l' c' hp4 hL4 hm4 hkW4 => ⟨rfl, ?_⟩
      · rw [cell_get (hm.get hbt fun hh => hbtF (hFiF _ hh))]; rfl
      · rw [cell_get (hm.get hb3 fun hh => hbe2 (hFiF _ hh))]; rfl
      · have hbew : be < w2.heap.size := lt_of_get hb2
        obtain ⟨F5, W5, h5, hF5, hkW5, -⟩ := hset w4 a' l' c' _ Fi Wi hp4 hL4 (Nat.le_trans (List.length_filter_le _ _) (by omega)) hm4 (fun b hb => .inl hb) (fun b hb => ⟨hkW4 b hb, hb⟩)
        have hF5' : ∀ b ∈ F5, b ∈ F2 := fun b hb => (hF5 b hb).elim id (hFiF b)
        have sub : ∀ b ∈ p :: Fi, b ∈ F2 := fun b hb => by
          simp only [List.mem_cons] at hb
          rcases hb with rfl | hb
          · exact hpF
          · exact hFiF b hb
        have hm24 : Mod F2 w2 w4 := m3d.of0.trans' (hm4.mono sub)
        refine ⟨12 - (k + 1), by omega, k + 1, F5, W5, by rw [w64 (by omega) (by omega)]; omega, by omega, rfl, ?_, hm2.trans hm24 (fun b hb hlt => (ho2 b hb).elim id fun h => by omega), fun b hb => ho2 b (hF5' b hb), hkW2.trans (fun b hb => ⟨(hkW5 b hb).1.trans (m3d.keep b (hF2lt b (hWF b hb)) (by simp)), (hkW5 b hb).2⟩), fun hh => hbe2 (hF5' _ hh), hm4.get hb3 fun hh => hbe2 (sub _ hh)⟩
        rw [← goneTo_succ]
        exact h5
    · have hk12 : k = 12 := by omega
      subst hk12
      rw [goneTo_12 h.ok] at h2
      exact hK w2 F2 W2 h2 hm2 ho2 hkW2

end Go.Proofs
