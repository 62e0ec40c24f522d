/-
  Layer 11: contracts of the reference's messages.
-/
import Derived.Test.YtidfjfcmkjdpnaaC11c
set_option linter.unusedSimpArgs false
namespace Go.Proofs
open Go Go.Den

/-- A message of the reference: from, to, words; and as it lies. -/
abbrev RMsg := Int × Int × List Int
abbrev RPM := Int × Int × Option Addr × Nat × Nat
def rcell (m : RPM) : List Value := [.int .i64 m.1, .int .i64 m.2.1, .slice m.2.2.1 m.2.2.2.1 m.2.2.2.2]
def rrow (ph : List RPM) : List Value := (ph.map rcell).flatten
theorem rrow_3 (ph : List RPM) : ∀ vs ∈ ph.map rcell, vs.length = 3 := by
  intro vs hv
  simp only [List.mem_map] at hv
  obtain ⟨p, _, rfl⟩ := hv
  rfl
theorem rrow_cell (ph : List RPM) : ∀ u ∈ rrow ph, isCell u = true := by
  intro u hu
  simp only [rrow, List.mem_flatten, List.mem_map] at hu
  obtain ⟨vs, ⟨p, _, rfl⟩, hu⟩ := hu
  simp only [rcell, List.mem_cons, List.not_mem_nil, or_false] at hu
  rcases hu with rfl | rfl | rfl <;> rfl
theorem rrow_len (ph : List RPM) : (rrow ph).length = ph.length * 3 := by
  induction ph with
  | nil => rfl
  | cons p L ih => simp only [rrow, List.map_cons, List.flatten_cons, List.length_append, List.length_cons] at ih ⊢; rw [ih]; simp [rcell]; omega
theorem rrow_app (a b : List RPM) : rrow (a ++ b) = rrow a ++ rrow b := by simp [rrow]
theorem rrow_one (m : RPM) : rrow [m] = rcell m := by simp [rrow]
theorem rrow_take (ph : List RPM) (n : Nat) : (rrow ph).take (n * 3) = rrow (ph.take n) := by
  induction ph generalizing n with
  | nil => simp [rrow]
  | cons p ph ih =>
    cases n with
    | zero => simp [rrow]
    | succ n =>
      have := ih n
      simp only [rrow, List.map_cons, List.flatten_cons, List.take_succ_cons] at this ⊢
      rw [show (n + 1) * 3 = (rcell p).length + n * 3 by simp [rcell]; omega, List.take_length_add_append, this]
theorem rrow_drop (ph : List RPM) (n : Nat) : (rrow ph).drop (n * 3) = rrow (ph.drop n) := by
  induction ph generalizing n with
  | nil => simp [rrow]
  | cons p ph ih =>
    cases n with
    | zero => simp [rrow]
    | succ n =>
      have := ih n
      simp only [rrow, List.map_cons, List.flatten_cons, List.drop_succ_cons] at this ⊢
      rw [show (n + 1) * 3 = (rcell p).length + n * 3 by simp [rcell]; omega, List.drop_length_add_append, this]

def ROk (w : World) (W : List Nat) (m : RPM) (x : RMsg) : Prop := m.1 = x.1 ∧ m.2.1 = x.2.1 ∧ ∃ H, Rd w m.2.2.1 m.2.2.2.1 1 (u64s x.2.2) H ∧ (∀ b ∈ H, b ∈ W) ∧ m.2.2.2.1 ≤ m.2.2.2.2
def RsOk (w : World) (W : List Nat) (ph : List RPM) (ms : List RMsg) : Prop := ph.length = ms.length ∧ ∀ (i : Nat) m x, ph[i]? = some m → ms[i]? = some x → ROk w W m x

theorem ROk.keep {w w' : World} {W : List Nat} {m : RPM} {x : RMsg} (h : ROk w W m x) (hk : ∀ b ∈ W, w'.heap[b]? = w.heap[b]?) : ROk w' W m x := by
  obtain ⟨h1, h2, H, h3, h4, h5⟩ := h
  exact ⟨h1, h2, H, h3.keep fun b hb => hk b (h4 b hb), h4, h5⟩
theorem RsOk.keep {w w' : World} {W : List Nat} {ph : List RPM} {ms : List RMsg} (h : RsOk w W ph ms) (hk : ∀ b ∈ W, w'.heap[b]? = w.heap[b]?) : RsOk w' W ph ms :=
  ⟨h.1, fun i m x hm hx => (h.2 i m x hm hx).keep hk⟩
theorem RsOk.mono {w : World} {W W' : List Nat} {ph : List RPM} {ms : List RMsg} (h : RsOk w W ph ms) (hk : ∀ b ∈ W, b ∈ W') : RsOk w W' ph ms :=
  ⟨h.1, fun i m x hm hx => by
    obtain ⟨h1, h2, H, h3, h4, h5⟩ := h.2 i m x hm hx
    exact ⟨h1, h2, H, h3, fun b hb => hk b (h4 b hb), h5⟩⟩
theorem RsOk.nil (w : World) (W : List Nat) : RsOk w W [] [] := ⟨rfl, fun i m x hm => by simp at hm⟩
theorem RsOk.append {w : World} {W : List Nat} {ph ph' : List RPM} {ms ms' : List RMsg} (h : RsOk w W ph ms) (h' : RsOk w W ph' ms') : RsOk w W (ph ++ ph') (ms ++ ms') := by
  refine ⟨by simp [h.1, h'.1], fun i m x hm hx => ?_⟩
  have hl := h.1
  by_cases hi : i < ph.length
  · rw [List.getElem?_append_left hi] at hm
    rw [List.getElem?_append_left (by omega)] at hx
    exact h.2 i m x hm hx
  · rw [List.getElem?_append_right (by omega)] at hm
    rw [List.getElem?_append_right (by omega), ← hl] at hx
    exact h'.2 _ m x hm hx
theorem RsOk.single {w : World} {W : List Nat} {m : RPM} {x : RMsg} (h : ROk w W m x) : RsOk w W [m] [x] := by
  refine ⟨rfl, fun i m' x' hm hx => ?_⟩
  cases i with
  | zero => cases hm; cases hx; exact h
  | succ i => simp at hm
theorem RsOk.take {w : World} {W : List Nat} {ph : List RPM} {ms : List RMsg} (h : RsOk w W ph ms) (n : Nat) : RsOk w W (ph.take n) (ms.take n) :=
  ⟨by simp [h.1], fun i m x hm hx => by
    rw [List.getElem?_take] at hm hx
    split at hm
    · rename_i hi; rw [if_pos hi] at hx; exact h.2 i m x hm hx
    · cases hm⟩
theorem RsOk.drop {w : World} {W : List Nat} {ph : List RPM} {ms : List RMsg} (h : RsOk w W ph ms) (n : Nat) : RsOk w W (ph.drop n) (ms.drop n) :=
  ⟨by simp [h.1], fun i m x hm hx => by
    rw [List.getElem?_drop] at hm hx
    exact h.2 _ m x hm hx⟩

/-- The reference's messages at block 'b'. -/
def IpcR (w : World) (b : Nat) (L : List RMsg) (F : List Nat) : Prop :=
  ∃ (a : Option Addr) (l c : Nat) (ph : List RPM) (G W : List Nat) (T : TypeId), w.heap[b]? = some (.cells #[.slice a l c] T (0, 0)) ∧ SlB w a l c 3 (rrow ph) G ∧ RsOk w W ph L ∧ (∀ x ∈ W, x < w.heap.size) ∧ (∀ x ∈ G, x ∉ W) ∧ b ∉ G ∧ b ∉ W ∧ F = b :: (G ++ W)

theorem IpcR.lt {w : World} {b : Nat} {L : List RMsg} {F : List Nat} (h : IpcR w b L F) : ∀ x ∈ F, x < w.heap.size := by
  obtain ⟨a, l, c, ph, G, W, T, h1, h2, h3, h4, h5, h6, h7, rfl⟩ := h
  intro x hx
  simp only [List.mem_cons, List.mem_append] at hx
  rcases hx with rfl | hx | hx
  · exact lt_of_get h1
  · exact h2.lt x hx
  · exact h4 x hx
theorem IpcR.keep {w w' : World} {b : Nat} {L : List RMsg} {F : List Nat} (h : IpcR w b L F) (hk : ∀ b ∈ F, w'.heap[b]? = w.heap[b]?) : IpcR w' b L F := by
  obtain ⟨a, l, c, ph, G, W, T, h1, h2, h3, h4, h5, h6, h7, rfl⟩ := h
  exact ⟨a, l, c, ph, G, W, T, (hk b (by simp)).trans h1, h2.keep fun x hx => hk x (by simp [hx]), h3.keep fun x hx => hk x (by simp [hx]), fun x hx => lt_keep (h4 x hx) (hk x (by simp [hx])), h5, h6, h7, rfl⟩
theorem IpcR.new (w : World) (T : TypeId) : IpcR (w.alloc (.cells #[.slice none 0 0] T)) w.heap.size [] [w.heap.size] :=
  ⟨none, 0, 0, [], [], [], T, alloc_new w _, SlB.nil _ 3, RsOk.nil _ _, by simp, by simp, by simp, by simp, rfl⟩

theorem rrow_at {w : World} {a : Option Addr} {l c : Nat} {ph : List RPM} {G : List Nat} (h : SlB w a l c 3 (rrow ph) G) {i : Nat} (hi : i < l) :
    ∃ ad m, a = some ad ∧ ph[i]? = some m ∧ w.cell? (Addr.add ad (i * 3)) = some (.int .i64 m.1) ∧ w.cell? (Addr.add (Addr.add ad (i * 3)) 1) = some (.int .i64 m.2.1) ∧ w.cell? (Addr.add (Addr.add ad (i * 3)) 2) = some (.slice m.2.2.1 m.2.2.2.1 m.2.2.2.2) := by
  have hlen := h.length
  rw [rrow_len] at hlen
  obtain ⟨ad, vs, ha, hvs, -, -, -, hc⟩ := h.rd.elem (vss := ph.map rcell) (by simp; omega) (rrow_3 ph) hi
  simp only [List.getElem?_map, Option.map_eq_some_iff] at hvs
  obtain ⟨m, hm, rfl⟩ := hvs
  exact ⟨ad, m, ha, hm, by have := hc 0 (by decide); rw [add_zero] at this; exact this, hc 1 (by decide), hc 2 (by decide)⟩

/-- What waits for each, of all that wait. -/
def projQ (L : List RMsg) : Qs := fun n => (L.filter fun m => decide (m.2.1 = n)).map fun m => (m.1, m.2.2)
theorem projQ_snoc (L : List RMsg) (f t : Int) (ws : List Int) : projQ (L ++ [(f, t, ws)]) = qput (projQ L) t (projQ L t ++ [(f, ws)]) := by
  funext n
  unfold projQ qput
  rw [List.filter_append, List.map_append]
  by_cases h : t = n
  · simp [h]
  · simp [h]
theorem projQ_gone (L : List RMsg) (e : Int) : projQ (L.filter fun m => decide (m.2.1 ≠ e) && decide (m.1 ≠ e)) = goneQ (projQ L) e := by
  funext n
  unfold projQ goneQ goes
  rw [List.filter_filter, List.filter_map, List.filter_filter]
  congr 1
  apply List.filter_congr
  intro m _
  by_cases h1 : m.2.1 = n
  · subst h1; simp
  · simp [h1]
theorem projQ_mid (A B : List RMsg) (m : RMsg) (hA : ∀ x ∈ A, x.2.1 ≠ m.2.1) : projQ (A ++ m :: B) m.2.1 = (m.1, m.2.2) :: projQ B m.2.1 ∧ projQ (A ++ B) = qput (projQ (A ++ m :: B)) m.2.1 (projQ B m.2.1) := by
  have hA' : A.filter (fun x => decide (x.2.1 = m.2.1)) = [] := List.filter_eq_nil_iff.2 fun x hx => by simpa using hA x hx
  constructor
  · unfold projQ
    rw [List.filter_append, hA', List.nil_append, List.filter_cons_of_pos (by simp)]
    rfl
  · funext n
    unfold qput
    by_cases h : m.2.1 = n
    · rw [if_pos h]
      subst h
      unfold projQ
      rw [List.filter_append, hA', List.nil_append]
    · rw [if_neg h]
      unfold projQ
      rw [List.filter_append, List.filter_append, List.filter_cons_of_neg (by simpa using h)]
theorem projQ_none {L : List RMsg} {e : Int} (h : ∀ x ∈ L, x.2.1 ≠ e) : projQ L e = [] := by
  unfold projQ
  rw [List.filter_eq_nil_iff.2 fun x hx => by simpa using h x hx]
  rfl

theorem env_run (n : Int) {w : World} {K : Value → World → Prop} (h : K (.bool (decide (in12 n))) w) : CallsR Try.prog F_janusref08_Env #[.int .i64 n] w K := by
  apply R_janusref08_Env_ok
  simp only [R_janusref08_Env, spl_decide]
  refine ⟨fun h1 => ?_, fun h1 => ?_⟩
  · rw [show decide (n < 12) = decide (in12 n) from decide_eq_decide.2 (by unfold in12; omega)]; exact h
  · rw [show false = decide (in12 n) from (decide_eq_false (by unfold in12; omega)).symm]; exact h

theorem ipcr_from {w : World} {b : Nat} {L : List RMsg} {F : List Nat} (h : IpcR w b L F) (hl3 : L.length ≤ 1000) (e : Int) {K : Value → World → Prop} (hK : ∀ A N C G w', SlB w' A N C 1 (i64s ((projQ L e).map (·.1))) G → Beyond w.heap.size G → Mod [] w w' → K (.slice A N C) w') :
    CallsR Try.prog F_janusref11_Ipc_From #[.pointer (some ⟨b, 0, none⟩), .int .i64 e] w K := by
  apply R_janusref11_Ipc_From_ok
  simp only [R_janusref11_Ipc_From, nilK_some, spl_decide, spl_beq, newK_eq]
  obtain ⟨a, l, c, ph, G, W, T, hb, hs, hms, hW, hGW, hbG, hbW, rfl⟩ := h
  have hlen := hs.length
  rw [rrow_len] at hlen
  have hpl := hms.1
  have cb : ∀ {u : World}, Mod [] w u → u.cell? ⟨b, 0, none⟩ = some (.slice a l c) := fun hm => by rw [cell_get (hm.get hb (by simp))]; rfl
  refine ⟨fun k A N C i w' => ∃ (j : Nat) (G' : List Nat), i = j ∧ j ≤ l ∧ k = l - j ∧ SlB w' A N C 1 (i64s ((projQ (L.take j) e).map (·.1))) G' ∧ Beyond w.heap.size G' ∧ Mod [] w w', ⟨l, 0, [], rfl, by omega, rfl, SlB.nil _ 1, by simp [Beyond], Mod.refl _ _⟩, ?_⟩
  rintro k A N C i - w2 ⟨j, G', rfl, hj, rfl, hs2, hG2, hm2⟩
  refine ⟨a, l, c, cb hm2, fun hlt => ?_, fun hge => ?_⟩
  · obtain ⟨ad, m, rfl, hm, c0, c1, c2⟩ := rrow_at (hs.keep (hm2.at0 hs.lt)) (i := j) (by omega)
    obtain ⟨x, hx⟩ : ∃ x, L[j]? = some x := ⟨_, List.getElem?_eq_getElem (by omega)⟩
    obtain ⟨e1, e2, -⟩ := hms.2 j m x hm hx
    have et : L.take (j + 1) = L.take j ++ [x] := by rw [List.take_add_one, hx]; rfl
    have hl2 := hs2.i64
    have hll : (projQ (L.take j) e).length ≤ 1000 := by
      unfold projQ
      rw [List.length_map]
      exact Nat.le_trans (List.length_filter_le _ _) (by rw [List.length_take]; omega)
    rw [List.length_map] at hl2
    refine ⟨fun A' N' C' w' => ∃ G', SlB w' A' N' C' 1 (i64s ((projQ (L.take (j + 1)) e).map (·.1))) G' ∧ Beyond w.heap.size G' ∧ Mod [] w w', ?_, some ad, l, c, cb hm2, ?_⟩
    · rintro A' N' C' - w3 ⟨G3, hs3, hG3, hm3⟩
      exact ⟨l - (j + 1), by omega, j + 1, G3, by rw [w64 (by omega) (by omega)]; omega, by omega, rfl, hs3, hG3, hm3⟩
    rw [nilK_some, Int.toNat_natCast]
    refine ⟨⟨by omega, by omega⟩, m.2.1, c1, fun heq => ⟨some ad, l, c, cb hm2, ?_⟩, fun hne => ?_⟩
    · rw [nilK_some]
      refine ⟨⟨by omega, by omega⟩, m.1, c0, ?_⟩
      refine push_K slT_int (by decide) hs2 hG2 hm2 (us := [.int .i64 m.1]) rfl (by simp [isCell]) (by omega) (by omega) fun A' C' w5 G' hs' hG' hm' _ _ => ⟨_, _, _, rfl, G', ?_, hG', hm'⟩
      rw [et, show ([x] : List RMsg) = [(x.1, x.2.1, x.2.2)] from rfl, projQ_snoc]
      unfold qput
      rw [if_pos (by rw [← e2]; exact heq), ← e2, heq, List.map_append, i64s_append, ← e1]
      exact hs'
    · refine ⟨G', ?_, hG2, hm2⟩
      rw [et, show ([x] : List RMsg) = [(x.1, x.2.1, x.2.2)] from rfl, projQ_snoc]
      unfold qput
      rw [if_neg (by rw [← e2]; exact hne)]
      exact hs2
  · have : j = l := by omega
    subst this
    rw [List.take_of_length_le (by omega)] at hs2
    exact hK A N C G' w2 hs2 hG2 hm2

theorem ipcr_waiting {w : World} {b : Nat} {L : List RMsg} {F : List Nat} (h : IpcR w b L F) (hl3 : L.length ≤ 1000) (e : Int) {K : Value → World → Prop} (hK : ∀ w', Mod [] w w' → K (.int .i64 ((projQ L e).length : Int)) w') :
    CallsR Try.prog F_janusref11_Ipc_Waiting #[.pointer (some ⟨b, 0, none⟩), .int .i64 e] w K := by
  apply R_janusref11_Ipc_Waiting_ok
  refine ipcr_from h hl3 e fun A N C G w' hs _ hm => ⟨_, _, _, rfl, ?_⟩
  have := hs.i64
  rw [List.length_map] at this
  rw [← this]
  exact hK w' hm

def rsend (L : List RMsg) (f t : Int) (ws : List Int) : List RMsg := if sendE (projQ L) f t ws.length = 0 then L ++ [(f, t, ws)] else L
theorem projQ_send (L : List RMsg) (f t : Int) (ws : List Int) : projQ (rsend L f t ws) = sendQ (projQ L) f t ws := by
  unfold rsend sendQ
  split
  · exact projQ_snoc L f t ws
  · rfl

theorem ipcr_send {w : World} {b : Nat} {L : List RMsg} {F : List Nat} (h : IpcR w b L F) (hl3 : L.length ≤ 1000) (f t : Int) {wa : Option Addr} {wl wc : Nat} {ws : List Int} {H : List Nat} (hw : Rd w wa wl 1 (u64s ws) H) {K : Value → World → Prop}
    (hK : ∀ w' F', IpcR w' b (rsend L f t ws) F' → Mod F w w' → Own w F F' → K (.int .i64 (sendE (projQ L) f t ws.length)) w') :
    CallsR Try.prog F_janusref11_Ipc_Send #[.pointer (some ⟨b, 0, none⟩), .int .i64 f, .int .i64 t, .slice wa wl wc] w K := by
  apply R_janusref11_Ipc_Send_ok
  simp only [R_janusref11_Ipc_Send, nilK_some, newK_eq]
  have hwl := hw.u64
  have err : ∀ e : Int, e ≠ 0 → sendE (projQ L) f t ws.length = e → ∀ u, Mod [] w u → K (.int .i64 e) u := fun e he hh u hm => by
    have := hK u F (by unfold rsend; rw [hh, if_neg he]; exact h.keep (hm.at0 h.lt)) hm.of0 (Own.refl _ _)
    rwa [hh] at this
  refine env_run f ⟨_, rfl, ?_⟩
  rw [spl_decide]
  refine ⟨fun hf => env_run t ⟨_, rfl, ?_⟩, fun hf => err 101 (by decide) (if_pos (.inl hf)) w (Mod.refl _ _)⟩
  rw [spl_decide, spl_decide]
  refine ⟨fun ht => ⟨fun hgt => err 101 (by decide) (if_pos (.inr (.inr (by omega)))) w (Mod.refl _ _), fun hle => ?_⟩, fun ht => err 101 (by decide) (if_pos (.inr (.inl ht))) w (Mod.refl _ _)⟩
  have hgood : ¬ (¬ in12 f ∨ ¬ in12 t ∨ 8 < ws.length) := by
    rintro (h | h | h)
    · exact h hf
    · exact h ht
    · omega
  refine ipcr_waiting h hl3 t fun w1 hm1 => ⟨_, rfl, ?_⟩
  rw [spl_decide]
  refine ⟨fun hge => err 105 (by decide) (by unfold sendE; rw [if_neg hgood, if_pos (by omega)]) w1 hm1, fun hlt => ?_⟩
  have hE : sendE (projQ L) f t ws.length = 0 := by unfold sendE; rw [if_neg hgood, if_neg (by omega)]
  rw [hE] at hK
  unfold rsend at hK
  rw [hE, if_pos rfl] at hK
  obtain ⟨a, l, c, ph, G, W, T, hb, hs, hms, hW, hGW, hbG, hbW, rfl⟩ := h
  have hlen := hs.length
  rw [rrow_len] at hlen
  have hpl := hms.1
  have hblt := lt_of_get hb
  refine ⟨a, l, c, by rw [cell_get (hm1.get hb (by simp))]; rfl, ?_⟩
  refine push_rd_K (w0 := w) slT_janusref11_M (by decide) (SlB.nil _ 3) (by simp [Beyond]) hm1 (hs.keep (hm1.at0 hs.lt)).rd (rrow_cell _) (by omega) (by omega) fun A2 C2 w2 G2 hs2 hG2 hm2 _ _ => ⟨_, _, _, rfl, ?_⟩
  refine push_rd_K (w0 := w2) slT_u64 (by decide) (SlB.nil _ 1) (by simp [Beyond]) (Mod.refl _ _) (hw.mod0 hm2) (u64s_cell _) (by omega) (by omega) fun A3 C3 w3 G3 hs3 hG3 hm23 _ _ => ⟨_, _, _, rfl, ?_⟩
  have hm3 := hm2.trans' hm23
  rw [List.nil_append, Nat.zero_add] at hs3 hs2
  have hs23 := hs2.keep (hm23.at0 hs2.lt)
  simp only [Nat.zero_add]
  have hG2lt := hs2.lt
  refine push_K (w0 := w) slT_janusref11_M (by decide) hs23 hG2 hm3 (us := rcell (f, t, A3, wl, C3)) rfl (by simp [isCell, rcell]) (by omega) (by omega) fun A4 C4 w4 G4 hs4 hG4 hm4 hmm4 ho4 => ⟨_, _, _, rfl, ?_⟩
  have hb4 := hm4.get hb (by simp)
  refine stK_of hb4 (by simp) ?_
  have hG4' : ∀ x ∈ G4, x ∈ G2 ∨ w3.heap.size ≤ x := ho4
  have hG3lt := hs3.lt
  have hw2 := hm2.size
  have n4 : ∀ x ∈ G4, x ∉ W ++ G3 := fun x hx hh => by
    have h1 := hG4 x hx
    rcases List.mem_append.1 hh with h | h
    · have := hW x h; omega
    · rcases hG4' x hx with h' | h'
      · have := hG2lt x h'; have := hG3 x h; omega
      · have := hG3lt x h; omega
  have hbG4 : b ∉ G4 := fun hh => by have := hG4 b hh; omega
  have hbG3 : b ∉ G3 := fun hh => by have := hG3 b hh; omega
  have kW : ∀ x, b ≠ x → (w4.upd b (.cells (splice #[.slice a l c] 0 [.slice A4 (l + 1) C4]) T (0, 0))).heap[x]? = w4.heap[x]? := fun x hx => upd_ne _ hx
  refine hK _ (b :: (G4 ++ (W ++ G3))) ⟨A4, l + 1, C4, ph ++ [(f, t, A3, wl, C3)], G4, W ++ G3, T, by rw [upd_same hb4]; simp, ?_, ?_, ?_, n4, hbG4, ?_, rfl⟩ (hm4.of0.upd (.inl (by simp)) _) ?_
  · rw [rrow_app, rrow_one]
    exact hs4.keep fun x hx => kW x (by rintro rfl; exact hbG4 hx)
  · refine RsOk.append ((hms.keep fun x hx => ?_).mono (by simp +contextual)) (RsOk.single ⟨rfl, rfl, G3, ?_, by simp +contextual, hs3.le⟩)
    · rw [kW x (by rintro rfl; exact hbW hx)]
      exact hm4.keep x (hW x hx) (by simp)
    · refine hs3.rd.keep fun x hx => ?_
      rw [kW x (by rintro rfl; exact hbG3 hx)]
      refine hmm4.keep x (hG3lt x hx) fun hh => ?_
      have := hG2lt x hh; have := hG3 x hx; omega
  · intro x hx
    rw [upd_size]
    have := hm4.size
    have := hmm4.size
    rcases List.mem_append.1 hx with h | h
    · have := hW x h; omega
    · have := hG3lt x h; omega
  · simp only [List.mem_append, not_or]
    exact ⟨hbW, hbG3⟩
  · intro x hx
    simp only [List.mem_cons, List.mem_append] at hx ⊢
    rcases hx with rfl | hx | hx | hx
    · exact .inl (.inl rfl)
    · exact .inr (hG4 x hx)
    · exact .inl (.inr (.inr hx))
    · have := hG3 x hx; exact .inr (by omega)

theorem ipcr_recv {w : World} {b : Nat} {L : List RMsg} {F : List Nat} (h : IpcR w b L F) (hl3 : L.length ≤ 1000) (e : Int) {K : Value → World → Prop} (h0 : projQ L e = [] → K (.tuple #[.int .i64 0, .slice none 0 0, .bool false]) w)
    (hK : ∀ A x B w' F' wa wl wc H, L = A ++ x :: B → x.2.1 = e → (∀ y ∈ A, y.2.1 ≠ e) → IpcR w' b (A ++ B) F' → Mod F w w' → Own w F F' → Rd w' wa wl 1 (u64s x.2.2) H → wl ≤ wc → K (.tuple #[.int .i64 x.1, .slice wa wl wc, .bool true]) w') :
    CallsR Try.prog F_janusref11_Ipc_Recv #[.pointer (some ⟨b, 0, none⟩), .int .i64 e] w K := by
  apply R_janusref11_Ipc_Recv_ok
  simp only [R_janusref11_Ipc_Recv, nilK_some, spl_decide, spl_beq, newK_eq, drK_eq]
  obtain ⟨a, l, c, ph, G, W, T, hb, hs, hms, hW, hGW, hbG, hbW, rfl⟩ := h
  have hlen := hs.length
  rw [rrow_len] at hlen
  have hpl := hms.1
  have hblt := lt_of_get hb
  have cb : w.cell? ⟨b, 0, none⟩ = some (.slice a l c) := by rw [cell_get hb]; rfl
  refine ⟨fun k i w' => ∃ j : Nat, i = j ∧ j ≤ l ∧ k = l - j ∧ w' = w ∧ ∀ y ∈ L.take j, y.2.1 ≠ e, ⟨l, 0, rfl, by omega, rfl, rfl, by simp⟩, ?_⟩
  rintro k i - w2 ⟨j, rfl, hj, rfl, rfl, hbef⟩
  refine ⟨a, l, c, cb, fun hlt => ⟨a, l, c, cb, ?_⟩, fun hge => h0 (projQ_none fun x hx => hbef x (by rw [List.take_of_length_le (by omega)]; exact hx))⟩
  obtain ⟨ad, m, rfl, hm, c0, c1, c2⟩ := rrow_at hs (i := j) (by omega)
  obtain ⟨x, hx⟩ : ∃ x, L[j]? = some x := ⟨_, List.getElem?_eq_getElem (by omega)⟩
  obtain ⟨e1, e2, H, hrd, hHW, hmc⟩ := hms.2 j m x hm hx
  rw [nilK_some, Int.toNat_natCast]
  refine ⟨⟨by omega, by omega⟩, m.2.1, c1, fun heq => ⟨some ad, l, c, cb, ?_⟩, fun hne => ⟨l - (j + 1), by omega, j + 1, by rw [w64 (by omega) (by omega)]; omega, by omega, rfl, rfl, fun y hy => ?_⟩⟩
  · rw [nilK_some]
    refine ⟨⟨by omega, by omega⟩, m.1, m.2.1, m.2.2.1, m.2.2.2.1, m.2.2.2.2, ⟨c0, c1, c2⟩, ?_⟩
    refine (Sep.nil (Mod.refl [] w2)).stK rfl fun w3 s3 m3 => ?_
    have m3d : Mod [] w2 w3.drew := m3.drew
    have hbm : w3.drew.heap[w2.heap.size]? = some _ := s3.nth 0 rfl
    generalize hbmn : w2.heap.size = bm at hbm ⊢
    clear s3 m3
    have hb3 := m3d.get hb (by simp)
    have cb3 : w3.drew.cell? ⟨b, 0, none⟩ = some (.slice (some ad) l c) := by rw [cell_get hb3]; rfl
    have hs3 := hs.keep (m3d.at0 hs.lt)
    generalize w3.drew = w4 at m3d hbm hb3 cb3 hs3 ⊢
    have kp : ∀ {u : World}, Mod [] w4 u → keepB [b] w4 u := fun hm => keepB1 (hm.keep b (lt_of_get hb3) (by simp))
    refine ⟨[b], by simp, some ad, l, c, cb3, ?_⟩
    refine slK_rd hs3.rd hs3.le (L := 0) (H := j) (.inr ⟨rfl, rfl⟩) (.inl rfl) (by omega) (by omega) fun a5 G5 hr5 _ => ?_
    refine ⟨by simp, some ad, l, c, cb3, ?_⟩
    have ej : IntKind.i64.wrap ((j : Int) + 1) = ((j + 1 : Nat) : Int) := by rw [w64 (by omega) (by omega)]; omega
    refine slK_rd hs3.rd hs3.le (L := j + 1) (H := l) (.inl (by rw [ej])) (.inr ⟨rfl, rfl⟩) (by omega) (Nat.le_refl _) fun a6 G6 hr6 _ => ?_
    have d5 : ((rrow ph).drop (0 * 3)).take ((j - 0) * 3) = rrow (ph.take j) := by rw [Nat.zero_mul, List.drop_zero, Nat.sub_zero, rrow_take]
    have d6 : ((rrow ph).drop ((j + 1) * 3)).take ((l - (j + 1)) * 3) = rrow (ph.drop (j + 1)) := by
      rw [rrow_drop, rrow_take, List.take_of_length_le (by rw [List.length_drop]; omega)]
    rw [d5] at hr5
    rw [d6] at hr6
    refine push_rd_K (w0 := w4) slT_janusref11_M (by decide) (SlB.nil _ 3) (by simp [Beyond]) (Mod.refl _ _) hr5 (rrow_cell _) (by omega) (by omega) fun A7 C7 w7 G7 hs7 hG7 hm7 _ _ => ⟨_, _, _, rfl, kp hm7, ?_⟩
    refine push_rd_K (w0 := w4) slT_janusref11_M (by decide) hs7 hG7 hm7 (hr6.mod0 hm7) (rrow_cell _) (by omega) (by omega) fun A8 C8 w8 G8 hs8 hG8 hm8 _ _ => ⟨_, _, _, rfl, kp hm8, ?_⟩
    have hb8 := hm8.get hb3 (by simp)
    have hbm8 := hm8.get hbm (by simp)
    have hbbm : b ≠ bm := by omega
    refine stK_of hb8 (by simp) ?_
    have kW : ∀ y, b ≠ y → (w8.upd b (.cells (splice #[.slice (some ad) l c] 0 [.slice A8 (0 + (j - 0) + (l - (j + 1))) C8]) T (0, 0))).heap[y]? = w8.heap[y]? := fun y hy => upd_ne _ hy
    have hb9 := upd_same (x := .cells (splice #[.slice (some ad) l c] 0 [.slice A8 (0 + (j - 0) + (l - (j + 1))) C8]) T (0, 0)) hb8
    have hm9 : Mod [b] w2 (w8.upd b (.cells (splice #[.slice (some ad) l c] 0 [.slice A8 (0 + (j - 0) + (l - (j + 1))) C8]) T (0, 0))) := ((m3d.trans' hm8).of0).upd (.inl (by simp)) _
    have hbm9 := (kW bm hbbm).trans hbm8
    generalize w8.upd b _ = w9 at kW hb9 hm9 hbm9 ⊢
    have hbm9' : w9.drew.heap[bm]? = some _ := hbm9
    refine ⟨m.1, by rw [cell_get hbm9']; rfl, m.2.2.1, m.2.2.2.1, m.2.2.2.2, by rw [cell_get hbm9']; rfl, ?_⟩
    have kF : ∀ y ∈ W, w9.drew.heap[y]? = w2.heap[y]? := fun y hy => hm9.keep y (hW y hy) (by simp; rintro rfl; exact hbW hy)
    have hw4 := m3d.size
    have hG8' : ∀ y ∈ G8, w2.heap.size ≤ y := fun y hy => by have := hG8 y hy; omega
    have hbG8 : b ∉ G8 := fun hh => by have := hG8' b hh; omega
    have hL : L = L.take j ++ x :: L.drop (j + 1) := by
      have hxj : L[j]'(by omega) = x := (List.getElem?_eq_some_iff.1 hx).2
      rw [← hxj, ← List.drop_eq_getElem_cons, List.take_append_drop]
    rw [e1]
    refine hK (L.take j) x (L.drop (j + 1)) w9.drew (b :: (G8 ++ W)) m.2.2.1 m.2.2.2.1 m.2.2.2.2 H hL (by rw [← e2]; exact heq) hbef ⟨A8, 0 + (j - 0) + (l - (j + 1)), C8, ph.take j ++ ph.drop (j + 1), G8, W, T, by show w9.heap[b]? = _; rw [hb9]; rfl, ?_, ((hms.take j).append (hms.drop (j + 1))).keep kF, fun y hy => lt_keep (hW y hy) (kF y hy), fun y hy hh => by have := hG8' y hy; have := hW y hh; omega, hbG8, hbW, rfl⟩ (hm9.drew.mono (by simp)) ?_ (hrd.keep fun y hy => kF y (hHW y hy)) hmc
    · rw [rrow_app]
      exact hs8.keep fun y hy => kW y (by rintro rfl; exact hbG8 hy)
    · intro y hy
      simp only [List.mem_cons, List.mem_append] at hy ⊢
      rcases hy with rfl | hy | hy
      · exact .inl (.inl rfl)
      · exact .inr (hG8' y hy)
      · exact .inl (.inr (.inr hy))
  · rw [List.take_add_one, hx] at hy
    rcases List.mem_append.1 hy with h | h
    · exact hbef y h
    · simp at h; subst h; rw [← e2]; exact hne

def rgone (L : List RMsg) (e : Int) : List RMsg := L.filter fun m => decide (m.2.1 ≠ e) && decide (m.1 ≠ e)

theorem ipcr_gone {w : World} {b : Nat} {L : List RMsg} {F : List Nat} (h : IpcR w b L F) (hl3 : L.length ≤ 1000) (e : Int) {K : Value → World → Prop} (hK : ∀ w' F', IpcR w' b (rgone L e) F' → Mod F w w' → Own w F F' → K (.tuple #[]) w') :
    CallsR Try.prog F_janusref11_Ipc_Gone #[.pointer (some ⟨b, 0, none⟩), .int .i64 e] w K := by
  apply R_janusref11_Ipc_Gone_ok
  simp only [R_janusref11_Ipc_Gone, nilK_some, spl_decide, spl_bne, newK_eq]
  obtain ⟨a, l, c, ph, G, W, T, hb, hs, hms, hW, hGW, hbG, hbW, rfl⟩ := h
  have hlen := hs.length
  rw [rrow_len] at hlen
  have hpl := hms.1
  have hblt := lt_of_get hb
  have cb : ∀ {u : World}, Mod [] w u → u.cell? ⟨b, 0, none⟩ = some (.slice a l c) := fun hm => by rw [cell_get (hm.get hb (by simp))]; rfl
  refine ⟨fun k A N C i w' => ∃ (j : Nat) (ph' : List RPM) (G' : List Nat), i = j ∧ j ≤ l ∧ k = l - j ∧ SlB w' A N C 3 (rrow ph') G' ∧ RsOk w W ph' (rgone (L.take j) e) ∧ Beyond w.heap.size G' ∧ Mod [] w w', ⟨l, 0, [], [], rfl, by omega, rfl, SlB.nil _ 3, RsOk.nil _ _, by simp [Beyond], Mod.refl _ _⟩, ?_⟩
  rintro k A N C i - w2 ⟨j, ph', G', rfl, hj, rfl, hs2, hms2, hG2, hm2⟩
  refine ⟨a, l, c, cb hm2, fun hlt => ?_, fun hge => ?_⟩
  · obtain ⟨ad, m, rfl, hm, c0, c1, c2⟩ := rrow_at (hs.keep (hm2.at0 hs.lt)) (i := j) (by omega)
    obtain ⟨x, hx⟩ : ∃ x, L[j]? = some x := ⟨_, List.getElem?_eq_getElem (by omega)⟩
    have hmx := hms.2 j m x hm hx
    obtain ⟨e1, e2, -⟩ := hmx
    have et : rgone (L.take (j + 1)) e = rgone (L.take j) e ++ rgone [x] e := by
      unfold rgone
      rw [List.take_add_one, hx, List.filter_append]; rfl
    have hl2 := hs2.length
    rw [rrow_len] at hl2
    have hgl : (rgone (L.take j) e).length ≤ 1000 := Nat.le_trans (List.length_filter_le _ _) (by rw [List.length_take]; omega)
    have := hms2.1
    refine ⟨fun A' N' C' w' => ∃ ph' G', SlB w' A' N' C' 3 (rrow ph') G' ∧ RsOk w W ph' (rgone (L.take (j + 1)) e) ∧ Beyond w.heap.size G' ∧ Mod [] w w', ?_, some ad, l, c, cb hm2, ?_⟩
    · rintro A' N' C' - w3 ⟨ph3, G3, hs3, hms3, hG3, hm3⟩
      exact ⟨l - (j + 1), by omega, j + 1, ph3, G3, by rw [w64 (by omega) (by omega)]; omega, by omega, rfl, hs3, hms3, hG3, hm3⟩
    have skip : (x.2.1 = e ∨ x.1 = e) → RsOk w W ph' (rgone (L.take (j + 1)) e) := fun hh => by
      rw [et]
      have : rgone [x] e = [] := by
        unfold rgone
        rw [List.filter_cons_of_neg (by rcases hh with h | h <;> simp [h])]; rfl
      rw [this, List.append_nil]
      exact hms2
    rw [nilK_some, Int.toNat_natCast]
    refine ⟨⟨by omega, by omega⟩, m.2.1, c1, fun hne => ⟨some ad, l, c, cb hm2, ?_⟩, fun heq => ⟨ph', G', hs2, skip (.inl (by rw [← e2]; exact heq)), hG2, hm2⟩⟩
    rw [nilK_some]
    refine ⟨⟨by omega, by omega⟩, m.1, c0, fun hne2 => ⟨some ad, l, c, cb hm2, ?_⟩, fun heq => ⟨ph', G', hs2, skip (.inr (by rw [← e1]; exact heq)), hG2, hm2⟩⟩
    rw [nilK_some]
    refine ⟨⟨by omega, by omega⟩, m.1, m.2.1, m.2.2.1, m.2.2.2.1, m.2.2.2.2, ⟨c0, c1, c2⟩, ?_⟩
    refine push_K slT_janusref11_M (by decide) hs2 hG2 hm2 (us := rcell m) rfl (by simp [isCell, rcell]) (by omega) (by omega) fun A' C' w5 G' hs' hG' hm' _ _ => ⟨_, _, _, rfl, ph' ++ [m], G', ?_, ?_, hG', hm'⟩
    · rw [rrow_app, rrow_one]; exact hs'
    · rw [et]
      have : rgone [x] e = [x] := by
        unfold rgone
        rw [List.filter_cons_of_pos (by rw [← e1, ← e2]; simp [hne, hne2])]; rfl
      rw [this]
      exact hms2.append (RsOk.single (hms.2 j m x hm hx))
  · have : j = l := by omega
    subst this
    rw [List.take_of_length_le (by omega)] at hms2
    have hb2 := hm2.get hb (by simp)
    refine stK_of hb2 (by simp) ?_
    have hbG' : b ∉ G' := fun hx => by have := hG2 b hx; omega
    have kW : ∀ y, b ≠ y → (w2.upd b (.cells (splice #[.slice a j c] 0 [.slice A N C]) T (0, 0))).heap[y]? = w2.heap[y]? := fun y hy => upd_ne _ hy
    have kF : ∀ y ∈ W, (w2.upd b (.cells (splice #[.slice a j c] 0 [.slice A N C]) T (0, 0))).heap[y]? = w.heap[y]? := fun y hy => (kW y (by rintro rfl; exact hbW hy)).trans (hm2.keep y (hW y hy) (by simp))
    refine hK _ (b :: (G' ++ W)) ⟨A, N, C, ph', G', W, T, by rw [upd_same hb2]; simp, hs2.keep fun x hx => kW x (by rintro rfl; exact hbG' hx), hms2.keep kF, fun y hy => lt_keep (hW y hy) (kF y hy), fun y hy hh => by have := hG2 y hy; have := hW y hh; omega, hbG', hbW, rfl⟩ (hm2.of0.upd (.inl (by simp)) _) (fun x hx => ?_)
    simp only [List.mem_cons, List.mem_append] at hx ⊢
    rcases hx with rfl | hx | hx
    · exact .inl (.inl rfl)
    · exact .inr (hG2 x hx)
    · exact .inl (.inr (.inr hx))

end Go.Proofs
