/-
  Layer 18: the reference's files and descriptors: how they lie; what is read.
  Layer 18: the reference's files by their lowest descriptors.
  Layer 18: the reference's deeds.
  Layer 18: the reference's deeds: Get, Seek, Dup, Fork, Ids.
  Layer 18: the reference's deeds: Close, Gone, Open.
  Layer 18: the reference's deeds: Open; its words.
  Layer 18: the reference's words.
-/
import Derived.Test.YtmpaiobapmpngaaF18A
import Derived.Test.YtmpaiobapmpngaaP18B
set_option linter.unusedVariables false
set_option linter.unusedSimpArgs false
namespace Go.Proofs
open Go Go.Den

def pr2 (k : Nat) : List Value := [.int .i64 (((k / 6 : Nat) : Int) + 1), .int .i64 ((k % 6 : Nat) : Int)]
theorem pr2_len (k : Nat) : (pr2 k).length = 2 := rfl
theorem pr2_cell (k : Nat) : ∀ u ∈ pr2 k, isCell u = true := by
  intro u hu
  simp only [pr2, List.mem_cons, List.not_mem_nil, or_false] at hu
  rcases hu with rfl | rfl <;> rfl
abbrev Hd := Option Addr × Nat
def e6 (x : E18 × Hd) : List Value := fxc x.1.x x.1.r ++ [.slice x.2.1 x.1.d.length x.2.2]
theorem e6_len (x : E18 × Hd) : (e6 x).length = 6 := rfl
theorem e6_cell (x : E18 × Hd) : ∀ u ∈ e6 x, isCell u = true := by
  intro u hu
  simp only [e6, fxc, List.cons_append, List.nil_append, List.mem_cons, List.not_mem_nil, or_false] at hu
  rcases hu with rfl | rfl | rfl | rfl | rfl | rfl <;> rfl

/-- A file's row of descriptors, which is only read. -/
def DRow (w : World) (Dd : List Nat) (x : E18 × Hd) : Prop := x.1.d.length ≤ x.2.2 ∧ x.1.d.length ≤ 48 ∧ (∀ k ∈ x.1.d, k < 48) ∧ ∃ G, Rd w x.2.1 x.1.d.length 2 (rows pr2 x.1.d) G ∧ ∀ b ∈ G, b ∈ Dd
theorem DRow.keep {w w' : World} {Dd : List Nat} {x : E18 × Hd} (h : DRow w Dd x) (hk : ∀ b ∈ Dd, w'.heap[b]? = w.heap[b]?) : DRow w' Dd x := by
  obtain ⟨h1, h2, h3, G, h4, h5⟩ := h
  exact ⟨h1, h2, h3, G, h4.keep fun b hb => hk b (h5 b hb), h5⟩
theorem DRow.more {w : World} {Dd Dd' : List Nat} {x : E18 × Hd} (h : DRow w Dd x) (hs : ∀ b ∈ Dd, b ∈ Dd') : DRow w Dd' x := by
  obtain ⟨h1, h2, h3, G, h4, h5⟩ := h
  exact ⟨h1, h2, h3, G, h4, fun b hb => hs b (h5 b hb)⟩
theorem DRow.get {w : World} {Dd : List Nat} {x : E18 × Hd} (h : DRow w Dd x) {j : Nat} (hj : j < x.1.d.length) :
    ∃ ad k, x.2.1 = some ad ∧ x.1.d[j]? = some k ∧ k < 48 ∧ ad.block ∈ Dd ∧ w.cell? (Addr.add ad (j * 2)) = some (.int .i64 (((k / 6 : Nat) : Int) + 1)) ∧ w.cell? (Addr.add (Addr.add ad (j * 2)) 1) = some (.int .i64 ((k % 6 : Nat) : Int)) := by
  obtain ⟨h1, h2, h3, G, h4, h5⟩ := h
  obtain ⟨ad, k, e, hk, rfl, hb, hc⟩ := h4.row pr2_len (by decide) hj
  have c0 := hc 0 (by omega)
  have c1 := hc 1 (by omega)
  rw [add_zero] at c0
  exact ⟨ad, k, e, hk, h3 k (List.mem_of_getElem? hk), h5 _ (by simp), c0, c1⟩

/-- The reference's state at block 'r': the row of files lies in 'R', their descriptors in 'Dd'. -/
structure RawP (w : World) (r : Nat) (LH : List (E18 × Hd)) (R Dd : List Nat) : Prop where
  hd : ∃ T A C, w.heap[r]? = some (.cells #[.slice A LH.length C] T (0, 0)) ∧ SlB w A LH.length C 6 (rows e6 LH) R
  d : ∀ x ∈ LH, DRow w Dd x
  dj : ∀ b ∈ R, b ∉ Dd
  lt : ∀ b ∈ Dd, b < w.heap.size
  rR : r ∉ R
  rD : r ∉ Dd
def RefP (w : World) (r : Nat) (L : List E18) (F : List Nat) : Prop := ∃ LH R Dd, RawP w r LH R Dd ∧ LH.map (·.1) = L ∧ F = r :: (R ++ Dd)

section
variable {w w' : World} {r : Nat} {LH : List (E18 × Hd)} {R Dd F : List Nat} {L : List E18}
theorem lt_keep18 {b : Nat} (h : b < w.heap.size) (hk : w'.heap[b]? = w.heap[b]?) : b < w'.heap.size := by
  rw [Array.getElem?_eq_getElem h] at hk
  exact (Array.getElem?_eq_some_iff.1 hk).1
theorem RawP.keep (h : RawP w r LH R Dd) (hk : ∀ b ∈ r :: (R ++ Dd), w'.heap[b]? = w.heap[b]?) : RawP w' r LH R Dd := by
  obtain ⟨⟨T, A, C, h1, h2⟩, h3, h4, h5, h6, h7⟩ := h
  have hR : ∀ b ∈ R, w'.heap[b]? = w.heap[b]? := fun b hb => hk b (by simp [hb])
  have hD : ∀ b ∈ Dd, w'.heap[b]? = w.heap[b]? := fun b hb => hk b (by simp [hb])
  exact ⟨⟨T, A, C, (hk r (by simp)).trans h1, h2.keep hR⟩, fun x hx => (h3 x hx).keep hD, h4, fun b hb => lt_keep18 (h5 b hb) (hD b hb), h6, h7⟩
theorem RawP.ltF (h : RawP w r LH R Dd) : ∀ b ∈ r :: (R ++ Dd), b < w.heap.size := by
  obtain ⟨⟨T, A, C, h1, h2⟩, h3, h4, h5, h6, h7⟩ := h
  intro b hb
  rcases List.mem_cons.1 hb with rfl | hb
  · exact lt_of_get h1
  · rcases List.mem_append.1 hb with hb | hb
    · exact h2.lt b hb
    · exact h5 b hb
theorem RawP.mod (h : RawP w r LH R Dd) (hm : Mod [] w w') : RawP w' r LH R Dd := h.keep (hm.at0 h.ltF)
theorem RefP.keep (h : RefP w r L F) (hk : ∀ b ∈ F, w'.heap[b]? = w.heap[b]?) : RefP w' r L F := by
  obtain ⟨LH, R, Dd, h1, h2, rfl⟩ := h
  exact ⟨LH, R, Dd, h1.keep hk, h2, rfl⟩
theorem RefP.lt (h : RefP w r L F) : ∀ b ∈ F, b < w.heap.size := by
  obtain ⟨LH, R, Dd, h1, h2, rfl⟩ := h
  exact h1.ltF
theorem RefP.mod (h : RefP w r L F) (hm : Mod [] w w') : RefP w' r L F := h.keep (hm.at0 h.lt)
end
def refPart (r : Nat) (L : List E18) (F : List Nat) : Part := ⟨F, fun w => RefP w r L F, fun h k => h.keep k, fun h => h.lt⟩

theorem arT2 : ArT Try.prog 81 2 3 := ⟨by kernel_rfl, by kernel_rfl, (Try.prog.info? 3).getD default, by kernel_rfl⟩
theorem unI : Try.prog.underlying 3 = some (.int .i64) := by kernel_rfl

/-! ### Which file a descriptor names -/

def mtc (pid fd : Int) (k : Nat) : Bool := decide (((k / 6 : Nat) : Int) + 1 = pid ∧ ((k % 6 : Nat) : Int) = fd)
def hit (pid fd : Int) (e : E18) : Bool := e.d.any (mtc pid fd)
def atI (L : List E18) (pid fd : Int) : Int := match L.findIdx? (hit pid fd) with
  | none => -1
  | some i => (i : Int)

theorem atI_can (t : Tb) (ht : t.length = 48) (ob : Nat → FX) (pid fd : Int) : atI (can t ob) pid fd = match nam t pid fd with
    | none => -1
    | some q => ((dd t).idxOf q : Int) := by
  unfold atI
  have hk48 : ∀ q k, k ∈ plc t q → k < 48 := fun q k h => by have := plc_lt h; omega
  by_cases ho : okPF pid fd
  · have e : (can t ob).findIdx? (hit pid fd) = atL (can t ob) (pl pid fd) := by
      unfold atL can
      rw [List.findIdx?_map, List.findIdx?_map]
      congr 1
      funext q
      simp only [Function.comp_apply]
      change (plc t q).any (mtc pid fd) = decide (pl pid fd ∈ plc t q)
      rw [Bool.eq_iff_iff, List.any_eq_true, decide_eq_true_eq]
      constructor
      · rintro ⟨k, hk, hm⟩
        simp only [mtc, decide_eq_true_eq] at hm
        have := ((pl_inj (hk48 q k hk)).1 hm).2
        rw [this]
        exact hk
      · intro hk
        refine ⟨_, hk, ?_⟩
        simp only [mtc, decide_eq_true_eq]
        exact (pl_inj (pl_lt ho)).2 ⟨ho, rfl⟩
    rw [e, atL_can, nam_get ht ho, Option.getD_some]
    cases nam t pid fd <;> rfl
  · have e : (can t ob).findIdx? (hit pid fd) = none := by
      rw [List.findIdx?_eq_none_iff]
      intro x hx
      obtain ⟨q, _, rfl⟩ := List.mem_map.1 hx
      rw [← Bool.not_eq_true]
      intro hh
      simp only [hit, mk18, List.any_eq_true] at hh
      obtain ⟨k, hk, hm⟩ := hh
      simp only [mtc, decide_eq_true_eq] at hm
      exact ho ((pl_inj (hk48 q k hk)).1 hm).1
    have e2 : nam t pid fd = none := by unfold nam; rw [if_neg ho]
    rw [e, e2]

section
variable {w : World} {r : Nat} {L : List E18} {F : List Nat} {t : Tb} {ob : Nat → FX}

theorem rat_run (h : RefP w r L F) (hL : L.length ≤ 1000) (pid fd : Int) {K : Value → World → Prop} (hK : K (.int .i64 (atI L pid fd)) w) : CallsR Try.prog F_janusref18_Fds_at #[.pointer (some ⟨r, 0, none⟩), .int .i64 pid, .int .i64 fd] w K := by
  obtain ⟨LH, R, Dd, h1, rfl, rfl⟩ := h
  rw [List.length_map] at hL
  obtain ⟨T, A, C, hr, hs⟩ := h1.hd
  have hcr : w.cell? ⟨r, 0, none⟩ = some (.slice A LH.length C) := by rw [cell_get hr]; rfl
  apply R_janusref18_Fds_at_ok
  simp only [R_janusref18_Fds_at, nilK_some]
  refine ⟨fun m i w' => ∃ k : Nat, i = k ∧ k ≤ LH.length ∧ m = LH.length - k ∧ w' = w ∧ ∀ j x, j < k → LH[j]? = some x → hit pid fd x.1 = false, ⟨LH.length, 0, rfl, by omega, by omega, rfl, fun j x hj => by omega⟩, ?_⟩
  rintro m i - w' ⟨k, rfl, hk, rfl, rfl, hno⟩
  refine ⟨_, _, _, hcr, ?_⟩
  rw [spl_decide]
  refine ⟨fun hlt => ?_, fun hge => ?_⟩
  · have hkl : k < LH.length := by omega
    obtain ⟨ad, x, rfl, hx, -, -, hc⟩ := hs.rd.row e6_len (by decide) hkl
    have hxm := List.mem_of_getElem? hx
    have hd := h1.d x hxm
    have c5 : w'.cell? (Addr.add (Addr.add ad (k * 6)) 5) = some (.slice x.2.1 x.1.d.length x.2.2) := hc 5 (by omega)
    have hd48 := hd.2.1
    refine ⟨fun m i w2 => ∃ j : Nat, i = j ∧ j ≤ x.1.d.length ∧ m = x.1.d.length - j ∧ w2 = w' ∧ ∀ q y, q < j → x.1.d[q]? = some y → mtc pid fd y = false, ⟨x.1.d.length, 0, rfl, by omega, by omega, rfl, fun q y hq => by omega⟩, ?_⟩
    rintro m i - w2 ⟨j, rfl, hj, rfl, rfl, hnj⟩
    simp only [nilK_some, Int.toNat_natCast]
    refine ⟨_, _, _, hcr, ⟨by omega, by omega⟩, _, _, _, c5, ?_⟩
    rw [spl_decide]
    refine ⟨fun hlt2 => ?_, fun hge2 => ?_⟩
    · have hjl : j < x.1.d.length := by omega
      obtain ⟨ad2, y, e2, hy, hy48, -, c0, c1⟩ := hd.get hjl
      refine ⟨_, _, _, hcr, ⟨by omega, by omega⟩, _, _, _, c5, ?_⟩
      rw [e2]
      simp only [nilK_some]
      refine ⟨⟨by omega, by omega⟩, _, _, ⟨c0, c1⟩, ?_⟩
      refine eqTwo_K arT2 unI ?_
      rw [spl_decide]
      refine ⟨fun heq => ?_, fun hne => ⟨x.1.d.length - (j + 1), by omega, j + 1, by rw [w64 (by omega) (by omega)]; omega, by omega, rfl, trivial, fun q z hq hz => ?_⟩⟩
      · have hh : hit pid fd x.1 = true := List.any_eq_true.2 ⟨y, List.mem_of_getElem? hy, by simpa [mtc] using heq⟩
        have e : atI (LH.map (·.1)) pid fd = k := by
          unfold atI
          have : (LH.map (·.1)).findIdx? (hit pid fd) = some k := by
            rw [List.findIdx?_eq_some_iff_getElem]
            refine ⟨by simpa using hkl, ?_, fun q hq => ?_⟩
            · have h0 := (List.getElem?_eq_some_iff.1 hx).2
              simp only [List.getElem_map, h0, hh]
            · have h0 := hno q _ hq (List.getElem?_eq_getElem (by omega))
              simp only [List.getElem_map, h0, Bool.false_eq_true, not_false_eq_true]
          rw [this]
        rw [e] at hK
        exact hK
      · rcases Nat.lt_or_ge q j with h2 | h2
        · exact hnj q z h2 hz
        · obtain rfl : q = j := by omega
          rw [hy] at hz
          cases hz
          simpa [mtc] using hne
    · refine ⟨LH.length - (k + 1), by omega, k + 1, by rw [w64 (by omega) (by omega)]; omega, by omega, rfl, trivial, fun q z hq hz => ?_⟩
      rcases Nat.lt_or_ge q k with h2 | h2
      · exact hno q z h2 hz
      · obtain rfl : q = k := by omega
        rw [hx] at hz
        cases hz
        unfold hit
        rw [List.any_eq_false]
        intro y hy
        obtain ⟨i, hi⟩ := List.getElem?_of_mem hy
        have := hnj i y (by have := (List.getElem?_eq_some_iff.1 hi).1; omega) hi
        simp [this]
  · have e : atI (LH.map (·.1)) pid fd = -1 := by
      unfold atI
      have : (LH.map (·.1)).findIdx? (hit pid fd) = none := by
        rw [List.findIdx?_eq_none_iff]
        intro e he
        obtain ⟨x, hx, rfl⟩ := List.mem_map.1 he
        obtain ⟨i, hi⟩ := List.getElem?_of_mem hx
        exact hno i x (by have := (List.getElem?_eq_some_iff.1 hi).1; omega) hi
      rw [this]
    rw [e] at hK
    exact hK

/-- Of the files as they are by their first places. -/
theorem rat_can (h : RefP w r (can t ob) F) (ht : t.length = 48) (pid fd : Int) {K : Value → World → Prop} (hK : K (.int .i64 (match nam t pid fd with
    | none => -1
    | some q => ((dd t).idxOf q : Int))) w) : CallsR Try.prog F_janusref18_Fds_at #[.pointer (some ⟨r, 0, none⟩), .int .i64 pid, .int .i64 fd] w K := by
  refine rat_run h ?_ pid fd ?_
  · have := dd_len t
    simp only [can, List.length_map]
    omega
  · rw [atI_can t ht]
    exact hK

theorem idx_neg (t : Tb) (pid fd : Int) : (match nam t pid fd with
    | none => (-1 : Int)
    | some q => ((dd t).idxOf q : Int)) < 0 ↔ nam t pid fd = none := by
  cases nam t pid fd with
  | none => simp
  | some q => simp

theorem rfree_run (h : RefP w r (can t ob) F) (ht : t.length = 48) (pid : Int) {K : Value → World → Prop} (hK : K (.int .i64 (match free18 t pid with
    | some n => (n : Int)
    | none => -1)) w) : CallsR Try.prog F_janusref18_Fds_free #[.pointer (some ⟨r, 0, none⟩), .int .i64 pid] w K := by
  apply R_janusref18_Fds_free_ok
  simp only [R_janusref18_Fds_free]
  refine ⟨fun m i w' => ∃ k : Nat, i = k ∧ k ≤ 6 ∧ m = 6 - k ∧ w' = w ∧ ∀ j : Nat, j < k → nam t pid j ≠ none, ⟨6, 0, rfl, by omega, by omega, rfl, fun j hj => by omega⟩, ?_⟩
  rintro m i - w' ⟨k, rfl, hk, rfl, rfl, hno⟩
  rw [spl_decide]
  refine ⟨fun hlt => ?_, fun hge => ?_⟩
  · refine rat_can h ht pid k ⟨_, rfl, ?_⟩
    rw [spl_decide]
    refine ⟨fun hneg => ?_, fun hpos => ⟨6 - (k + 1), by omega, k + 1, by rw [w64 (by omega) (by omega)]; omega, by omega, rfl, rfl, fun j hj => ?_⟩⟩
    · rw [free_some (r := k) (by omega) ((idx_neg t pid k).1 hneg) hno] at hK
      exact hK
    · rcases Nat.lt_or_ge j k with h2 | h2
      · exact hno j h2
      · obtain rfl : j = k := by omega
        exact fun hh => hpos ((idx_neg t pid j).2 hh)
  · obtain rfl : k = 6 := by omega
    rw [free_no hno] at hK
    exact hK

theorem rpid_run {w : World} (pid : Int) {K : Value → World → Prop} (hK : K (.bool (decide (1 ≤ pid ∧ pid ≤ 8))) w) : CallsR Try.prog F_janusref18_Pid #[.int .i64 pid] w K := by
  apply R_janusref18_Pid_ok
  simp only [R_janusref18_Pid, spl_decide]
  refine ⟨fun h1 => ?_, fun h1 => ?_⟩
  · rwa [show decide (pid ≤ 8) = decide (1 ≤ pid ∧ pid ≤ 8) from decide_eq_decide.2 (by omega)]
  · rwa [show false = decide (1 ≤ pid ∧ pid ≤ 8) from (decide_eq_false (by omega)).symm]

theorem rleft_run (h : RefP w r (can t ob) F) (ht : t.length = 48) (pid : Int) {K : Value → World → Prop} (hK : K (.int .i64 (left18 t pid : Int)) w) : CallsR Try.prog F_janusref18_Fds_Left #[.pointer (some ⟨r, 0, none⟩), .int .i64 pid] w K := by
  apply R_janusref18_Fds_Left_ok
  simp only [R_janusref18_Fds_Left]
  refine ⟨fun m n i w' => ∃ k : Nat, i = k ∧ k ≤ 6 ∧ m = 6 - k ∧ n = (leftN t pid k : Int) ∧ w' = w, ⟨6, 0, rfl, by omega, by omega, rfl, rfl⟩, ?_⟩
  rintro m n i - w' ⟨k, rfl, hk, rfl, rfl, rfl⟩
  have hle := leftN_le t pid k
  rw [spl_decide]
  refine ⟨fun hlt => ?_, fun hge => ?_⟩
  · refine rpid_run pid ⟨_, rfl, ?_⟩
    rw [spl_decide]
    refine ⟨fun hv => ?_, fun hv => ?_⟩
    · refine ⟨fun n' w2 => n' = (leftN t pid (k + 1) : Int) ∧ w2 = w', fun n' _ w2 hn => ⟨6 - (k + 1), by omega, k + 1, by rw [w64 (by omega) (by omega)]; omega, by omega, rfl, hn⟩, ?_⟩
      have ho : okPF pid k := ⟨hv.1, hv.2, by omega, by omega⟩
      refine rat_can h ht pid k ⟨_, rfl, ?_⟩
      rw [spl_decide, leftN_succ]
      refine ⟨fun hneg => ?_, fun hpos => ?_⟩
      · have hn := (idx_neg t pid k).1 hneg
        rw [w64 (by omega) (by omega)]
        simp [ho, hn]
      · have hn : ¬ nam t pid k = none := fun hh => hpos ((idx_neg t pid k).2 hh)
        simp [hn]
    · have e : left18 t pid = 0 := by
        unfold left18 leftN
        rw [List.length_eq_zero_iff, List.filter_eq_nil_iff]
        intro fd _
        have : ¬ okPF pid fd := fun h => hv ⟨h.1, h.2.1⟩
        simp [this]
      have e2 : leftN t pid k = 0 := by
        unfold leftN
        rw [List.length_eq_zero_iff, List.filter_eq_nil_iff]
        intro fd _
        have : ¬ okPF pid fd := fun h => hv ⟨h.1, h.2.1⟩
        simp [this]
      rw [e] at hK
      rw [e2]
      exact hK
  · obtain rfl : k = 6 := by omega
    exact hK

theorem rless_run {w : World} (a b : Nat) {K : Value → World → Prop} (hK : ∀ w', Mod [] w w' → K (.bool (decide (a < b))) w') : CallsR Try.prog F_janusref18_less #[.agg #[.int .i64 (((a / 6 : Nat) : Int) + 1), .int .i64 ((a % 6 : Nat) : Int)], .agg #[.int .i64 (((b / 6 : Nat) : Int) + 1), .int .i64 ((b % 6 : Nat) : Int)]] w K := by
  apply R_janusref18_less_ok
  simp only [R_janusref18_less]
  refine (Den.Sep.nil (Den.Mod.refl [] w)).new fun b1 w1 s1 m1 _ => ?_
  refine s1.new fun b2 w2 s2 m2 _ => ?_
  have hK := hK w2 s2.mod
  refine ⟨by decide, _, s2.cell 1 rfl rfl, by decide, _, s2.cell 0 rfl rfl, ?_⟩
  rw [spl_decide]
  refine ⟨fun h => ?_, fun h => ⟨by decide, _, s2.cell 1 rfl rfl, by decide, _, s2.cell 0 rfl rfl, ?_⟩⟩
  · rwa [show decide (a < b) = true from decide_eq_true (by omega)] at hK
  · rw [spl_beq]
    refine ⟨fun h2 => ⟨by decide, _, s2.cell 1 rfl rfl, by decide, _, s2.cell 0 rfl rfl, ?_⟩, fun h2 => ?_⟩
    · rwa [show decide (a < b) = decide (((a % 6 : Nat) : Int) < ((b % 6 : Nat) : Int)) from decide_eq_decide.2 (by omega)] at hK
    · rwa [show decide (a < b) = false from decide_eq_false (by omega)] at hK

end

end Go.Proofs

set_option linter.unusedSimpArgs false
namespace Go.Proofs
open Go Go.Den

theorem rows_set1 {α : Type} {f : α → List Value} {k : Nat} (hf : ∀ x, (f x).length = k) : ∀ {L : List α} {i m : Nat} {x x' : α} {v : Value}, L[i]? = some x → m < k → f x' = (f x).set m v → (rows f L).set (i * k + m) v = rows f (L.set i x')
  | [], i, m, x, x', v, h, _, _ => by simp at h
  | y :: L, 0, m, x, x', v, h, hm, e => by
    simp at h
    subst h
    rw [rows_cons, List.set_cons_zero, rows_cons, e, Nat.zero_mul, Nat.zero_add, List.set_append_left _ _ (by rw [hf]; exact hm)]
  | y :: L, i + 1, m, x, x', v, h, hm, e => by
    rw [rows_cons, List.set_cons_succ, rows_cons, List.set_append_right _ _ (by rw [hf, Nat.succ_mul]; omega), hf, show (i + 1) * k + m - k = i * k + m by rw [Nat.succ_mul]; omega]
    rw [rows_set1 hf (by simpa using h) hm e]

theorem e6_at (x : E18 × Hd) : (e6 x)[0]? = some (.int .i64 x.1.x.k) ∧ (e6 x)[1]? = some (.int .i64 x.1.x.i) ∧ (e6 x)[2]? = some (.int .i64 x.1.x.o) ∧ (e6 x)[3]? = some (.bool x.1.x.a) ∧ (e6 x)[4]? = some (.int .i64 x.1.r) ∧ (e6 x)[5]? = some (.slice x.2.1 x.1.d.length x.2.2) := ⟨rfl, rfl, rfl, rfl, rfl, rfl⟩

section
variable {w : World} {r : Nat} {R Dd : List Nat} {t : Tb} {ob : Nat → FX}

theorem rsort_run {ks : List Nat} {g : Nat → E18 × Hd} (h : RawP w r (ks.map g) R Dd) (hl : t.length = 48) (hg : ∀ q, q ∈ ks → (g q).1.x = ob q ∧ (g q).1.d = plc t q) (hnd : ks.Nodup) (hsub : ∀ q, q ∈ dd t → q ∈ ks) (hks : ks.length ≤ 1000) {K : Value → World → Prop}
    (hK : ∀ w' F', RefP w' r (can t ob) F' → (∀ b ∈ F', b ∈ r :: (R ++ Dd) ∨ w.heap.size ≤ b) → Mod [r] w w' → K (.tuple #[]) w') : CallsR Try.prog F_janusref18_Fds_sort #[.pointer (some ⟨r, 0, none⟩)] w K := by
  have hdl := dd_len t
  have hrlt := h.ltF r (by simp)
  obtain ⟨oK, hoK⟩ : ∃ oK : Nat → List Nat, ∀ k, oK k = (dd t).filter fun x => decide (x ∈ ks.take k) := ⟨_, fun _ => rfl⟩
  have hoL : ∀ k, (oK k).length ≤ 48 := fun k => by
    rw [hoK]
    have := List.length_filter_le (fun x => decide (x ∈ ks.take k)) (dd t)
    omega
  have hoD : ∀ k x, x ∈ oK k → x ∈ dd t := fun k x hx => by rw [hoK] at hx; exact (List.mem_filter.1 hx).1
  have hoK0 : oK 0 = [] := by
    rw [hoK]
    exact List.filter_eq_nil_iff.2 fun x _ => by simp
  have drow : ∀ {w'}, RawP w' r (ks.map g) R Dd → ∀ q, q ∈ ks → DRow w' Dd (g q) := fun hw q hq => hw.d _ (List.mem_map.2 ⟨q, hq, rfl⟩)
  apply R_janusref18_Fds_sort_ok
  simp only [R_janusref18_Fds_sort, nilK_some]
  refine ⟨fun m A L C i w' => ∃ k : Nat, i = k ∧ k ≤ ks.length ∧ m = ks.length - k ∧ L = (oK k).length ∧ ∃ G, SlB w' A L C 6 (rows e6 ((oK k).map g)) G ∧ Beyond w.heap.size G ∧ Mod [] w w',
    ⟨ks.length, 0, rfl, by omega, by omega, by rw [hoK0]; rfl, [], by rw [hoK0]; simpa using SlB.nil w 6, (by intro x hx; cases hx), Mod.refl _ _⟩, ?_⟩
  rintro m A L C i - w1 ⟨k, rfl, hk, rfl, hLeq, G, hs, hG, m1⟩
  have h1 := h.mod m1
  obtain ⟨T1, A0, C0, hr1, hs1⟩ := h1.hd
  rw [List.length_map] at hr1 hs1
  refine ⟨_, _, _, by rw [cell_get hr1]; rfl, ?_⟩
  rw [spl_decide]
  refine ⟨fun hlt => ?_, fun hge => ?_⟩
  · have hkl : k < ks.length := by omega
    have hgk : ks[k]? = some ks[k] := List.getElem?_eq_getElem hkl
    obtain ⟨q, hq⟩ : ∃ q, q = ks[k] := ⟨_, rfl⟩
    rw [← hq] at hgk
    have hqk : q ∈ ks := List.mem_of_getElem? hgk
    have htk : ks.take (k + 1) = ks.take k ++ [q] := by rw [List.take_succ_eq_append_getElem hkl, ← hq]
    have hqn : q ∉ ks.take k := fun hm => by
      obtain ⟨j, hj⟩ := List.getElem?_of_mem hm
      have hjl := (List.getElem?_eq_some_iff.1 hj).1
      rw [List.length_take] at hjl
      rw [List.getElem?_take, if_pos (by omega)] at hj
      have h3 := List.getElem?_eq_some_iff.1 hj
      have h4 := List.getElem?_eq_some_iff.1 hgk
      have := (List.getElem_inj hnd).1 (h3.2.trans h4.2.symm)
      omega
    obtain ⟨hgx, hgd⟩ := hg q hqk
    refine ⟨fun A' L' C' w' => L' = (oK (k + 1)).length ∧ ∃ G', SlB w' A' L' C' 6 (rows e6 ((oK (k + 1)).map g)) G' ∧ Beyond w.heap.size G' ∧ Mod [] w w', fun A' L' C' _ w' hj => ⟨ks.length - (k + 1), by omega, k + 1, by rw [w64 (by omega) (by omega)]; omega, by omega, rfl, hj⟩, ?_⟩
    refine ⟨_, _, _, by rw [cell_get hr1]; rfl, ?_⟩
    obtain ⟨ad, x, rfl, hx, -, hadb, hc⟩ := hs1.rd.row e6_len (by decide) hkl
    rw [List.getElem?_map, hgk, Option.map_some] at hx
    cases hx
    simp only [nilK_some, Int.toNat_natCast]
    refine ⟨⟨by omega, by omega⟩, _, _, _, hc 5 (by omega), ?_⟩
    rw [spl_beq]
    refine ⟨fun h0 => ?_, fun hn0 => ?_⟩
    · have hqd : q ∉ dd t := fun hm => by
        have := List.length_pos_iff.2 (plc_ne hm)
        rw [hgd] at h0
        omega
      have e : oK (k + 1) = oK k := by rw [hoK, hoK, htk, ins_dd_none hqd]
      rw [e]
      exact ⟨hLeq, G, hs, hG, m1⟩
    · have hqd : q ∈ dd t := by
        by_cases hm : q ∈ dd t
        · exact hm
        · exfalso
          apply hn0
          rw [hgd, plc_nil hm]
          rfl
      have hSq : ∀ {w'}, RawP w' r (ks.map g) R Dd → ∀ x, x ∈ dd t → ∃ ad2, (g x).2.1 = some ad2 ∧ w'.cell? ad2 = some (.int .i64 (((fst1 t x / 6 : Nat) : Int) + 1)) ∧ w'.cell? (Addr.add ad2 1) = some (.int .i64 ((fst1 t x % 6 : Nat) : Int)) := fun {w'} hw x hx => by
        have hxk := hsub x hx
        have hd := drow hw x hxk
        have hpos : 0 < (g x).1.d.length := by rw [(hg x hxk).2]; exact List.length_pos_iff.2 (plc_ne hx)
        obtain ⟨ad2, y, e2, hy, -, -, c0, c1⟩ := hd.get hpos
        rw [(hg x hxk).2, fst1_get hx] at hy
        cases hy
        rw [Nat.zero_mul, add_zero] at c0 c1
        exact ⟨ad2, e2, c0, c1⟩
      have hdpos : ∀ x, x ∈ dd t → 0 < (g x).1.d.length ∧ (g x).1.d.length ≤ 48 := fun x hx => by
        have hxk := hsub x hx
        exact ⟨by rw [(hg x hxk).2]; exact List.length_pos_iff.2 (plc_ne hx), (drow h x hxk).2.1⟩
      refine ⟨fun a w2 => ∃ j : Nat, a = j ∧ j ≤ (oK k).length ∧ (∀ i x, i < j → (oK k)[i]? = some x → fst1 t x < fst1 t q) ∧ (∀ x, (oK k)[j]? = some x → ¬ fst1 t x < fst1 t q) ∧ SlB w2 A L C 6 (rows e6 ((oK k).map g)) G ∧ Mod [] w w2, fun a _ w2 hj => ?_, ?_⟩
      · obtain ⟨j, rfl, hjl, hj1, hj2, hs2, m2⟩ := hj
        rw [drK_eq]
        have m3 : Mod [] w w2.drew := m2.drew
        have h3 := h.mod m3
        obtain ⟨T3, A3, C3, hr3, hs3⟩ := h3.hd
        rw [List.length_map] at hr3 hs3
        obtain ⟨ad3, x3, rfl, hx3, -, had3, hc3⟩ := hs3.rd.row e6_len (by decide) hkl
        rw [List.getElem?_map, hgk, Option.map_some] at hx3
        cases hx3
        have hso : SlB w2.drew A L C 6 (rows e6 ((oK k).map g)) G := hs2.keep fun _ _ => rfl
        have hc30 := hc3 0 (by omega)
        rw [add_zero] at hc30
        refine ⟨[r, ad3.block], by simp, _, _, _, by rw [cell_get hr3]; rfl, ?_⟩
        simp only [nilK_some]
        refine ⟨⟨by omega, by omega⟩, by rw [add_block]; simp, _, _, _, _, _, _, _, _, ⟨hc30, hc3 1 (by omega), hc3 2 (by omega), hc3 3 (by omega), hc3 4 (by omega), hc3 5 (by omega)⟩, ?_⟩
        have hoL48 := hoL k
        refine slK_rd hso.rd hso.le (L := j) (H := L) (.inl rfl) (.inr ⟨rfl, rfl⟩) (by omega) (Nat.le_refl _) fun a4 G4 hr4 hG4 => ?_
        have e4 : ((rows e6 ((oK k).map g)).drop (j * 6)).take ((L - j) * 6) = rows e6 (((oK k).map g).drop j) := by
          rw [rows_drop e6_len, List.take_of_length_le]
          rw [rows_len e6_len, List.length_drop, List.length_map]
          exact Nat.mul_le_mul_right _ (by omega)
        rw [e4] at hr4
        rw [newK_eq]
        have ms : Mod [] w (w2.drew.alloc (.cells (e6 (g q)).toArray 80)) := m3.alloc _
        have hnew := SlB.new w2.drew (e6 (g q)) 80 (l := 1) (sz := 6) rfl
        have hGlt := hso.lt
        refine push_rd_K (w0 := w) slT_janusref18_F (by decide) hnew (by intro x hx; simp only [List.mem_singleton] at hx; have := m3.size; omega) ms (hr4.keep fun b hb => alloc_old _ (hr4.lt b hb)) (rows_cell e6_cell _) (by omega) (by omega) fun A5 C5 w5 G5 hs5 hG5 m5 n5 o5 => ⟨_, _, _, rfl, ?_⟩
        have hso5 : SlB w5 A L C 6 (rows e6 ((oK k).map g)) G := (hso.keep (w' := w2.drew.alloc (.cells (e6 (g q)).toArray 80)) fun b hb => alloc_old _ (hGlt b hb)).mod n5 fun b hb hb5 => by
          simp only [List.mem_singleton] at hb5
          have := hGlt b hb
          omega
        refine slK_rd hso5.rd hso5.le (L := 0) (H := j) (.inr ⟨rfl, rfl⟩) (.inl rfl) (by omega) (by omega) fun a6 G6 hr6 hG6 => ?_
        have e6' : ((rows e6 ((oK k).map g)).drop (0 * 6)).take ((j - 0) * 6) = rows e6 (((oK k).map g).take j) := by
          rw [Nat.zero_mul, List.drop_zero, Nat.sub_zero, rows_take e6_len]
        rw [e6', Nat.sub_zero] at hr6
        refine push_rd_K (w0 := w) slT_janusref18_F (by decide) (SlB.nil w5 6) (by intro x hx; cases hx) m5 hr6 (rows_cell e6_cell _) (by omega) (by omega) fun A7 C7 w7 G7 hs7 hG7 m7 n7 o7 => ⟨_, _, _, rfl, ?_⟩
        have hs57 := hs5.mod n7 (by simp)
        refine push_rd_K (w0 := w) slT_janusref18_F (by decide) hs7 hG7 m7 hs57.rd (by
          intro u hu
          rcases List.mem_append.1 hu with hu | hu
          · exact e6_cell _ u hu
          · exact rows_cell e6_cell _ u hu) (by omega) (by omega) fun A8 C8 w8 G8 hs8 hG8 m8 n8 o8 => ⟨_, _, _, rfl, ?_⟩
        have eR : (oK k).take j ++ q :: (oK k).drop j = oK (k + 1) := by
          rw [hoK (k + 1), htk]
          exact ins_dd hqd hqn (hoK k) hjl hj1 hj2
        have eV : [] ++ rows e6 (((oK k).map g).take j) ++ (e6 (g q) ++ rows e6 (((oK k).map g).drop j)) = rows e6 ((oK (k + 1)).map g) := by
          rw [← eR, List.map_append, List.map_cons, rows_app, rows_cons, List.map_take, List.map_drop, List.nil_append]
        rw [eV] at hs8
        have hcnt := hs8.count e6_len (by decide)
        rw [List.length_map] at hcnt
        exact ⟨hcnt.symm, G8, hs8, hG8, m8⟩
      · refine ⟨fun m a w2 => ∃ j : Nat, a = j ∧ j ≤ (oK k).length ∧ m = (oK k).length - j ∧ (∀ i x, i < j → (oK k)[i]? = some x → fst1 t x < fst1 t q) ∧ SlB w2 A L C 6 (rows e6 ((oK k).map g)) G ∧ Mod [] w w2, ⟨(oK k).length, 0, rfl, by omega, by omega, fun i x hi => by omega, hs, m1⟩, ?_⟩
        rintro m a - w2 ⟨j, rfl, hjl, rfl, hj1, hs2, m2⟩
        rw [drK_eq]
        have m3 : Mod [] w w2.drew := m2.drew
        have h3 := h.mod m3
        have hso : SlB w2.drew A L C 6 (rows e6 ((oK k).map g)) G := hs2.keep fun _ _ => rfl
        rw [spl_decide]
        refine ⟨fun hlt2 => ?_, fun hge2 => ?_⟩
        · have hjL : j < (oK k).length := by omega
          have hgo : (oK k)[j]? = some (oK k)[j] := List.getElem?_eq_getElem hjL
          obtain ⟨x, hxe⟩ : ∃ x, x = (oK k)[j] := ⟨_, rfl⟩
          rw [← hxe] at hgo
          have hxd := hoD k x (List.mem_of_getElem? hgo)
          obtain ⟨ad4, y4, rfl, hy4, -, -, hc4⟩ := hso.rd.row e6_len (by decide) (show j < L by omega)
          rw [List.getElem?_map, hgo, Option.map_some] at hy4
          cases hy4
          obtain ⟨adx, ex, cx0, cx1⟩ := hSq h3 x hxd
          obtain ⟨adq, eq, cq0, cq1⟩ := hSq h3 q hqd
          obtain ⟨T3, A3, C3, hr3, hs3⟩ := h3.hd
          rw [List.length_map] at hr3 hs3
          obtain ⟨ad3, x3, rfl, hx3, -, had3, hc3⟩ := hs3.rd.row e6_len (by decide) hkl
          rw [List.getElem?_map, hgk, Option.map_some] at hx3
          cases hx3
          simp only [nilK_some, Int.toNat_natCast]
          have hoL48 := hoL k
          have hpx := hdpos x hxd
          have hpq := hdpos q hqd
          refine ⟨⟨by omega, by omega⟩, _, _, _, hc4 5 (by omega), ?_⟩
          rw [ex]
          simp only [nilK_some]
          refine ⟨⟨by omega, by omega⟩, _, _, ⟨cx0, cx1⟩, _, _, _, by rw [cell_get hr3]; rfl, ?_⟩
          simp only [nilK_some]
          refine ⟨⟨by omega, by omega⟩, _, _, _, hc3 5 (by omega), ?_⟩
          rw [eq]
          simp only [nilK_some]
          refine ⟨⟨by omega, by omega⟩, _, _, ⟨cq0, cq1⟩, ?_⟩
          refine rless_run _ _ fun w4 m4 => ⟨_, rfl, ?_⟩
          have hso4 := hso.keep (m4.at0 hso.lt)
          rw [spl_decide]
          refine ⟨fun hlt3 => ⟨(oK k).length - (j + 1), by omega, j + 1, by rw [w64 (by omega) (by omega)]; omega, by omega, rfl, fun i y hi hy => ?_, hso4, m3.trans' m4⟩, fun hge3 => ⟨j, rfl, by omega, hj1, fun y hy => ?_, hso4, m3.trans' m4⟩⟩
          · rcases Nat.lt_or_ge i j with h5 | h5
            · exact hj1 i y h5 hy
            · obtain rfl : i = j := by omega
              rw [hgo] at hy
              cases hy
              exact hlt3
          · rw [hgo] at hy
            cases hy
            exact hge3
        · exact ⟨j, rfl, hjl, hj1, fun y hy => by have := (List.getElem?_eq_some_iff.1 hy).1; omega, hso, m3⟩
  · obtain rfl : k = ks.length := by omega
    have eO : oK ks.length = dd t := by
      rw [hoK, List.take_length]
      exact List.filter_eq_self.2 fun x hx => decide_eq_true (hsub x hx)
    rw [eO] at hs hLeq
    obtain ⟨g2, hg2⟩ : ∃ g2 : Nat → E18 × Hd, ∀ x, g2 x = (mk18 t ob x, (g x).2) := ⟨_, fun _ => rfl⟩
    refine ⟨fun m i w' => ∃ j : Nat, i = j ∧ j ≤ (dd t).length ∧ m = (dd t).length - j ∧ SlB w' A L C 6 (rows e6 (((dd t).take j).map g2 ++ ((dd t).drop j).map g)) G ∧ Mod [] w w', ⟨(dd t).length, 0, rfl, by omega, by omega, by simpa using hs, m1⟩, ?_⟩
    rintro m i - w2 ⟨j, rfl, hj, rfl, hs2, m2⟩
    rw [spl_decide]
    refine ⟨fun hlt2 => ?_, fun hge2 => ?_⟩
    · have hjl : j < (dd t).length := by omega
      have hgo : (dd t)[j]? = some (dd t)[j] := List.getElem?_eq_getElem hjl
      obtain ⟨x, hxe⟩ : ∃ x, x = (dd t)[j] := ⟨_, rfl⟩
      rw [← hxe] at hgo
      have hxd := List.mem_of_getElem? hgo
      have hxk := hsub x hxd
      have hLj : (((dd t).take j).map g2 ++ ((dd t).drop j).map g)[j]? = some (g x) := by
        rw [List.getElem?_append_right (by simp; omega), List.length_map, List.length_take, Nat.min_eq_left hj, Nat.sub_self, List.getElem?_map, List.getElem?_drop, Nat.add_zero, hgo]
        rfl
      obtain ⟨b, o, rfl, rfl⟩ := hs2.isNone (by omega)
      obtain ⟨ad4, y4, e4, hy4, -, -, hc4⟩ := hs2.rd.row e6_len (by decide) (show j < L by omega)
      cases e4
      rw [hLj] at hy4
      cases hy4
      simp only [nilK_some, Int.toNat_natCast]
      refine ⟨⟨by omega, by omega⟩, _, _, _, hc4 5 (by omega), ⟨by omega, by omega⟩, ?_⟩
      obtain ⟨arr, T2, hb2, hcap, -⟩ := hs2.block
      have hsl := hs2.length
      have hle := hs2.le
      simp only [addr_add]
      have hjm : j * 6 + 4 < L * 6 := by
        have : (j + 1) * 6 ≤ L * 6 := Nat.mul_le_mul_right _ (by omega)
        omega
      have hLC : L * 6 ≤ C * 6 := Nat.mul_le_mul_right _ hle
      refine stK_of hb2 (by simp; omega) ?_
      simp only [splice_cons, splice_nil]
      have hset := hs2.set hb2 (j := j * 6 + 4) (by omega) (.int .i64 ((g x).1.d.length : Int))
      rw [← Nat.add_assoc] at hset
      have eset : (rows e6 (((dd t).take j).map g2 ++ ((dd t).drop j).map g)).set (j * 6 + 4) (.int .i64 ((g x).1.d.length : Int)) = rows e6 (((dd t).take (j + 1)).map g2 ++ ((dd t).drop (j + 1)).map g) := by
        rw [rows_set1 e6_len (x' := g2 x) hLj (by decide) (by
          rw [hg2]
          obtain ⟨h8, h9⟩ := hg x hxk
          simp only [e6, fxc, mk18, h8, h9]
          rfl)]
        congr 1
        rw [List.set_append_right _ _ (by simp; omega), List.length_map, List.length_take, Nat.min_eq_left hj, Nat.sub_self, List.drop_eq_getElem_cons hjl, List.map_cons, List.set_cons_zero, List.take_succ_eq_append_getElem hjl, List.map_append, List.append_assoc]
        simp [hxe]
      rw [eset] at hset
      refine ⟨(dd t).length - (j + 1), by omega, j + 1, by rw [w64 (by omega) (by omega)]; omega, by omega, rfl, hset, m2.upd (.inr (hG b (by simp))) _⟩
    · obtain rfl : j = (dd t).length := by omega
      rw [List.take_length, List.drop_length, List.map_nil, List.append_nil] at hs2
      have h2 := h.mod m2
      obtain ⟨T3, A3, C3, hr3, -⟩ := h2.hd
      refine stK_of hr3 (by simp) ?_
      simp only [splice_cons, splice_nil]
      have hrG : r ∉ G := fun hm => by have := hG r hm; omega
      have hm3 : Mod [r] w2 (w2.upd r (.cells ((#[Value.slice A3 (ks.map g).length C3]).setIfInBounds 0 (.slice A L C)) T3 (0, 0))) := (Mod.refl _ _).upd (.inl (by simp)) _
      have hs3 := hs2.mod hm3 fun b hb hbr => hrG (by simp only [List.mem_singleton] at hbr; exact hbr ▸ hb)
      refine hK _ (r :: (G ++ Dd)) ⟨(dd t).map g2, G, Dd, ⟨⟨T3, A, C, ?_, ?_⟩, fun x hx => ?_, fun b hb hbD => ?_, fun b hb => ?_, hrG, h.rD⟩, ?_, rfl⟩ (fun b hb => ?_) (m2.of0.trans' hm3)
      · rw [show (List.map g2 (dd t)).length = L from by rw [List.length_map, hLeq]]
        exact upd_same hr3
      · rw [show (List.map g2 (dd t)).length = L from by rw [List.length_map, hLeq]]
        exact hs3
      · obtain ⟨y, hy, rfl⟩ := List.mem_map.1 hx
        have hyk := hsub y hy
        have hd := drow h y hyk
        have hd3 : DRow _ Dd (g y) := (hd.keep fun b hb => m2.keep b (h.lt b hb) (by simp)).keep fun b hb => hm3.keep b (Nat.lt_of_lt_of_le (h.lt b hb) m2.size) (by simp only [List.mem_singleton]; rintro rfl; exact h.rD hb)
        obtain ⟨a1, a2, a3, G9, a4, a5⟩ := hd3
        rw [(hg y hyk).2] at a1 a2 a3 a4
        rw [hg2]
        exact ⟨a1, a2, a3, G9, a4, a5⟩
      · have h4 := hG b hb
        have h5 := h.lt b hbD
        omega
      · rw [upd_size]
        exact Nat.lt_of_lt_of_le (h.lt b hb) m2.size
      · rw [List.map_map]
        unfold can
        apply List.map_congr_left
        intro y _
        simp only [Function.comp_apply, hg2]
      · rcases List.mem_cons.1 hb with rfl | hb
        · left; simp
        · rcases List.mem_append.1 hb with hb | hb
          · right; exact hG b hb
          · left; simp [hb]

end

end Go.Proofs

set_option linter.unusedSimpArgs false
namespace Go.Proofs
open Go Go.Den

theorem keys_of {ks : List Nat} (hnd : ks.Nodup) {f : Nat → E18} {LH : List (E18 × Hd)} (h : LH.map (·.1) = ks.map f) : ∃ g : Nat → E18 × Hd, LH = ks.map g ∧ ∀ q, q ∈ ks → (g q).1 = f q := by
  have hl : LH.length = ks.length := by have := congrArg List.length h; simpa using this
  refine ⟨fun q => (f q, ((LH[ks.idxOf q]?).map (·.2)).getD (none, 0)), ?_, fun q _ => rfl⟩
  apply List.ext_getElem?
  intro i
  rw [List.getElem?_map]
  rcases Nat.lt_or_ge i ks.length with hi | hi
  · have hg : ks[i]? = some ks[i] := List.getElem?_eq_getElem hi
    have hL : LH[i]? = some (LH[i]'(by omega)) := List.getElem?_eq_getElem _
    rw [hg, Option.map_some, hnd.idxOf_getElem i hi, hL]
    simp only [Option.map_some, Option.getD_some, Option.some.injEq]
    have h2 : (LH.map (·.1))[i]? = (ks.map f)[i]? := by rw [h]
    rw [List.getElem?_map, List.getElem?_map, hL, hg] at h2
    have h3 : (LH[i]'(by omega)).1 = f ks[i] := Option.some.inj h2
    rw [← h3]
  · rw [List.getElem?_eq_none (by omega), List.getElem?_eq_none hi]
    rfl

/-- The files as they are by their first places, each with its row of descriptors. -/
theorem RefP.open18 {w : World} {r : Nat} {t : Tb} {ob : Nat → FX} {F : List Nat} (h : RefP w r (can t ob) F) : ∃ g R Dd, RawP w r ((dd t).map g) R Dd ∧ (∀ q, q ∈ dd t → (g q).1 = mk18 t ob q) ∧ F = r :: (R ++ Dd) := by
  obtain ⟨LH, R, Dd, h1, h2, rfl⟩ := h
  obtain ⟨g, rfl, hg⟩ := keys_of (dd_nodup t) h2
  exact ⟨g, R, Dd, h1, hg, rfl⟩

section
variable {w : World} {r : Nat} {R Dd F : List Nat} {t : Tb} {ob : Nat → FX}

/-- A file's descriptors are replaced; then the files are put by their first places. -/
theorem rput_sort {g : Nat → E18 × Hd} {ad : Addr} {n C : Nat} {T : TypeId} (h : RawP w r ((dd t).map g) R Dd) (hr : w.heap[r]? = some (.cells #[.slice (some ad) n C] T (0, 0))) (hgm : ∀ q, q ∈ dd t → (g q).1 = mk18 t ob q) (ht : t.length = 48)
    {q i : Nat} (hi : (dd t)[i]? = some q) {dA : Option Addr} {dC : Nat} {G : List Nat} {t' : Tb} (hl' : t'.length = 48) (hdr : SlB w dA (plc t' q).length dC 2 (rows pr2 (plc t' q)) G) (hG : ∀ b ∈ G, b ∉ r :: (R ++ Dd))
    (hoth : ∀ y, y ∈ dd t → y ≠ q → plc t' y = plc t y) (hsub : ∀ y, y ∈ dd t' → y ∈ dd t) {K : World → Prop}
    (hK : ∀ w' F', RefP w' r (can t' ob) F' → (∀ b ∈ F', b ∈ r :: (R ++ Dd) ∨ b ∈ G ∨ w.heap.size ≤ b) → Mod (r :: R) w w' → K w') :
    stK (Addr.add (Addr.add ad (i * 6)) 5) [.slice dA (plc t' q).length dC] w fun w46 => CallsR Try.prog F_janusref18_Fds_sort #[.pointer (some ⟨r, 0, none⟩)] w46 fun v w' => v = .tuple #[] ∧ K w' := by
  have hdl := dd_len t
  have hil := (List.getElem?_eq_some_iff.1 hi).1
  have hqd := List.mem_of_getElem? hi
  obtain ⟨T1, A1, C1, hr1, hs⟩ := h.hd
  rw [hr] at hr1
  cases hr1
  rw [List.length_map] at hr hs
  obtain ⟨b, o, e, hRb⟩ := hs.isNone (by omega)
  cases e
  subst hRb
  obtain ⟨arr, T2, hb2, hcap, -⟩ := hs.block
  have hsl := hs.length
  have hle := hs.le
  have hjm : i * 6 + 5 < (dd t).length * 6 := by
    have : (i + 1) * 6 ≤ (dd t).length * 6 := Nat.mul_le_mul_right _ (by omega)
    omega
  have hLC : (dd t).length * 6 ≤ C * 6 := Nat.mul_le_mul_right _ hle
  simp only [addr_add]
  refine stK_of hb2 (by simp; omega) ?_
  simp only [splice_cons, splice_nil]
  have hset := hs.set hb2 (j := i * 6 + 5) (by omega) (.slice dA (plc t' q).length dC)
  rw [← Nat.add_assoc] at hset
  obtain ⟨g', hg'⟩ : ∃ g' : Nat → E18 × Hd, ∀ y, g' y = if y = q then (⟨ob q, ((plc t q).length : Int), plc t' q⟩, (dA, dC)) else g y := ⟨_, fun _ => rfl⟩
  have hg'q : g' q = (⟨ob q, ((plc t q).length : Int), plc t' q⟩, (dA, dC)) := by rw [hg', if_pos rfl]
  have hLi : ((dd t).map g)[i]? = some (g q) := by rw [List.getElem?_map, hi]; rfl
  have eset : (rows e6 ((dd t).map g)).set (i * 6 + 5) (.slice dA (plc t' q).length dC) = rows e6 ((dd t).map g') := by
    rw [rows_set1 e6_len (x' := g' q) hLi (by decide) (by
      have h1 := hgm q hqd
      rw [hg'q]
      simp only [e6, h1]
      rfl)]
    congr 1
    apply List.ext_getElem?
    intro j
    rw [List.getElem?_set, List.getElem?_map, List.getElem?_map]
    by_cases hij : i = j
    · subst hij
      rw [if_pos rfl, if_pos (by simpa using hil), hi]
      rfl
    · rw [if_neg hij]
      cases hj : (dd t)[j]? with
      | none => rfl
      | some y =>
        have hyq : y ≠ q := fun e => hij (by
          have h3 := List.getElem?_eq_some_iff.1 hi
          have h4 := List.getElem?_eq_some_iff.1 hj
          exact (List.getElem_inj (dd_nodup t)).1 (h3.2.trans (e.symm.trans h4.2.symm)))
        simp only [Option.map_some, hg', if_neg hyq]
  rw [eset] at hset
  obtain ⟨w2, hw2⟩ : ∃ w2, w2 = w.upd b (.cells (arr.setIfInBounds (o + i * 6 + 5) (.slice dA (plc t' q).length dC)) T2 (0, 0)) := ⟨_, rfl⟩
  rw [← hw2] at hset ⊢
  have mb : Mod [b] w w2 := by rw [hw2]; exact (Mod.refl _ _).upd (.inl (by simp)) _
  have hrb : r ≠ b := fun e => h.rR (by simp [e])
  have hbG : b ∉ G := fun hm => hG b hm (by simp)
  have hDlt : ∀ x ∈ Dd ++ G, x < w.heap.size := fun x hx => by
    rcases List.mem_append.1 hx with hx | hx
    · exact h.lt x hx
    · exact hdr.lt x hx
  have hkD : ∀ x ∈ Dd ++ G, w2.heap[x]? = w.heap[x]? := fun x hx => mb.keep x (hDlt x hx) fun hxb => by
    simp only [List.mem_singleton] at hxb
    subst hxb
    rcases List.mem_append.1 hx with hx | hx
    · exact h.dj x (by simp) hx
    · exact hbG hx
  have h2 : RawP w2 r ((dd t).map g') [b] (Dd ++ G) := by
    refine ⟨⟨T, some ⟨b, o, none⟩, C, ?_, ?_⟩, fun x hx => ?_, fun x hx hxD => ?_, fun x hx => ?_, by simpa using hrb, fun hm => ?_⟩
    · rw [List.length_map]
      exact (mb.keep r (lt_of_get hr) (by simpa using hrb)).trans hr
    · rw [List.length_map]
      exact hset
    · obtain ⟨y, hy, rfl⟩ := List.mem_map.1 hx
      by_cases hyq : y = q
      · subst hyq
        rw [hg'q]
        refine ⟨?_, ?_, fun k hk => ?_, G, ?_, fun x hx => by simp [hx]⟩
        · have := hdr.le; exact this
        · have := plc_len_le t' y; rw [hl'] at this; exact this
        · have := plc_lt hk; rw [hl'] at this; exact this
        · exact (hdr.keep fun x hx => hkD x (by simp [hx])).rd
      · rw [hg', if_neg hyq]
        exact ((h.d _ (List.mem_map.2 ⟨y, hy, rfl⟩)).keep fun x hx => hkD x (by simp [hx])).more fun x hx => by simp [hx]
    · simp only [List.mem_singleton] at hx
      subst hx
      rcases List.mem_append.1 hxD with hx | hx
      · exact h.dj x (by simp) hx
      · exact hbG hx
    · exact Nat.lt_of_lt_of_le (hDlt x hx) mb.size
    · rcases List.mem_append.1 hm with hm | hm
      · exact h.rD hm
      · exact hG r hm (by simp)
  refine rsort_run h2 hl' (fun y hy => ?_) (dd_nodup t) hsub (by omega) fun w3 F3 h3 hF3 m3 => ⟨rfl, hK w3 F3 h3 (fun x hx => ?_) ?_⟩
  · by_cases hyq : y = q
    · subst hyq
      rw [hg'q]
      exact ⟨rfl, rfl⟩
    · rw [hg', if_neg hyq, hgm y hy]
      exact ⟨rfl, (hoth y hy hyq).symm⟩
  · rcases hF3 x hx with hx | hx
    · rcases List.mem_cons.1 hx with rfl | hx
      · left; simp
      · rcases List.mem_append.1 hx with hx | hx
        · left; simp only [List.mem_singleton] at hx; simp [hx]
        · rcases List.mem_append.1 hx with hx | hx
          · left; simp [hx]
          · right; left; exact hx
    · right; right; exact Nat.le_trans mb.size hx
  · exact (mb.mono (by simp)).trans' (m3.mono (by simp))

theorem rname_run (h : RefP w r (can t ob) F) (ht : t.length = 48) {q i : Nat} {pid fd : Int} (hi : (dd t)[i]? = some q) (ho : okPF pid fd) (h0 : t[pl pid fd]? = some none) {K : World → Prop}
    (hK : ∀ w' F', RefP w' r (can (t.set (pl pid fd) (some q)) ob) F' → (∀ b ∈ F', b ∈ F ∨ w.heap.size ≤ b) → Mod F w w' → K w') :
    CallsR Try.prog F_janusref18_Fds_name #[.pointer (some ⟨r, 0, none⟩), .int .i64 (i : Int), .int .i64 pid, .int .i64 fd] w fun v w' => v = .tuple #[] ∧ K w' := by
  obtain ⟨g, R, Dd, h1, hgm, rfl⟩ := h.open18
  have hdl := dd_len t
  have hil := (List.getElem?_eq_some_iff.1 hi).1
  have hqd := List.mem_of_getElem? hi
  obtain ⟨k0, hk0⟩ : ∃ k0, k0 = pl pid fd := ⟨_, rfl⟩
  rw [← hk0] at h0 hK
  have hk48 : k0 < 48 := by rw [hk0]; exact pl_lt ho
  obtain ⟨hp1, hp2⟩ := (pl_inj hk48).2 ⟨ho, hk0.symm⟩
  have hdq : (g q).1.d = plc t q := by rw [hgm q hqd]; rfl
  have hdl48 : (plc t q).length ≤ 48 := by have := plc_len_le t q; omega
  obtain ⟨T, A, C, hr, hs⟩ := h1.hd
  rw [List.length_map] at hr hs
  have hLi : ((dd t).map g)[i]? = some (g q) := by rw [List.getElem?_map, hi]; rfl
  obtain ⟨ad, x, rfl, hx, hRad, hadb, hc⟩ := hs.rd.row e6_len (by decide) hil
  rw [hLi] at hx
  cases hx
  have hrlt := h1.ltF r (by simp)
  have hdrow := h1.d _ (List.mem_of_getElem? hLi)
  -- what the state tells behind whatever leaves it
  have st : ∀ {w'}, Mod [] w w' → w'.cell? ⟨r, 0, none⟩ = some (.slice (some ad) (dd t).length C) ∧ w'.cell? (Addr.add (Addr.add ad (i * 6)) 5) = some (.slice (g q).2.1 (plc t q).length (g q).2.2) := fun {w'} hm => by
    have hr' := hm.get hr (by simp)
    refine ⟨by rw [cell_get hr']; rfl, ?_⟩
    rw [hm.cell (by rw [add_block, add_block]; exact hadb), hc 5 (by omega), ← hdq]
    rfl
  apply R_janusref18_Fds_name_ok
  simp only [R_janusref18_Fds_name]
  refine (Den.Sep.nil (Den.Mod.refl [] w)).new fun b5 w6 s6 m6 _ => s6.st0 0 rfl rfl fun w7 s7 m7 => ?_
  rw [← hp1, ← hp2] at s7
  have hb5 : ∀ {w' : World} {l : List Part}, Den.Sep w w' (blk b5 (.cells #[.int .i64 (((k0 / 6 : Nat) : Int) + 1), .int .i64 ((k0 % 6 : Nat) : Int)] 81 (0, 0)) :: l) → w'.cell? ⟨b5, 0, none⟩ = some (.int .i64 (((k0 / 6 : Nat) : Int) + 1)) ∧ w'.cell? ⟨b5, 1, none⟩ = some (.int .i64 ((k0 % 6 : Nat) : Int)) := fun s => ⟨s.cell 0 rfl rfl, s.cell 0 rfl rfl⟩
  refine ⟨fun dA dL dC k w' => ∃ (j : Nat) (G : List Nat), k = j ∧ j = dL ∧ j ≤ (plc t q).length ∧ (∀ i x, i < j → (plc t q)[i]? = some x → x < k0) ∧ (∀ x, (plc t q)[j]? = some x → ¬ x < k0) ∧ Den.Sep w w' [blk b5 (.cells #[.int .i64 (((k0 / 6 : Nat) : Int) + 1), .int .i64 ((k0 % 6 : Nat) : Int)] 81 (0, 0)), sl dA j dC 2 (rows pr2 ((plc t q).take j)) G], fun dA dL dC k _ w' hj => ?_, ?_⟩
  · obtain ⟨j, G, rfl, rfl, hjl, hj1, hj2, s8⟩ := hj
    obtain ⟨cb0, cb1⟩ := hb5 s8
    refine ⟨_, _, ⟨cb0, cb1⟩, ?_⟩
    rw [newK_eq]
    have hs8 : SlB w' dA j dC 2 (rows pr2 ((plc t q).take j)) G := s8.nth 1 rfl
    refine grow_K slT_A2_int (by decide) hs8 (us := pr2 k0) (n := 1) rfl (pr2_cell k0) (by omega) (by omega) fun A9 C9 w9 G9 hs9 m9 o9 => ⟨_, _, _, rfl, ?_⟩
    have s9 := s8.step 1 rfl (sl A9 (j + 1) C9 2 (rows pr2 ((plc t q).take j ++ [k0])) G9) (by rw [rows_app, rows_one]; exact hs9) m9 o9
    rw [drK_eq]
    have s10 := s9.mod0 (Mod.refl [] w9).drew
    obtain ⟨d1, d2⟩ := st s10.mod
    have hh1 := h1.mod s10.mod
    have hdr10 := hdrow.keep fun b hb => s10.mod.keep b (h1.lt b hb) (by simp)
    obtain ⟨q1, q2, q3, Gd, q4, q5⟩ := hdr10
    rw [hdq] at q1 q2 q4
    simp only [nilK_some, Int.toNat_natCast]
    refine ⟨[r, ad.block], by simp, _, _, _, d1, by simp, _, _, _, d1, ?_⟩
    simp only [nilK_some]
    refine ⟨⟨by omega, by omega⟩, by rw [add_block, add_block]; simp, _, _, _, d2, ?_⟩
    refine slK_rd q4 q1 (L := j) (H := (plc t q).length) (.inl rfl) (.inr ⟨rfl, rfl⟩) hjl (Nat.le_refl _) fun a11 G11 hr11 hG11 => ?_
    have e11 : ((rows pr2 (plc t q)).drop (j * 2)).take (((plc t q).length - j) * 2) = rows pr2 ((plc t q).drop j) := by
      rw [rows_drop pr2_len, List.take_of_length_le]
      rw [rows_len pr2_len, List.length_drop]
      exact Nat.le_refl _
    rw [e11] at hr11
    have hs10 : SlB w9.drew A9 (j + 1) C9 2 (rows pr2 ((plc t q).take j ++ [k0])) G9 := s10.nth 1 rfl
    refine grow_rd_K slT_A2_int (by decide) hs10 hr11 (rows_cell pr2_cell _) (by omega) (by omega) fun A12 C12 w12 G12 hs12 m12 o12 => ⟨_, _, _, rfl, ?_⟩
    have epl : plc (t.set k0 (some q)) q = (plc t q).take j ++ k0 :: (plc t q).drop j := plc_set_q h0 hjl hj1 hj2
    have hs12' : SlB w12 A12 (plc (t.set k0 (some q)) q).length C12 2 (rows pr2 (plc (t.set k0 (some q)) q)) G12 := by
      rw [← rows_app, List.append_assoc, List.singleton_append, ← epl] at hs12
      have := hs12.count pr2_len (by decide)
      rw [this]
      exact hs12
    have hlen12 : j + 1 + ((plc t q).length - j) = (plc (t.set k0 (some q)) q).length := by
      rw [epl]
      simp
      omega
    rw [hlen12]
    have s12 := s10.step 1 rfl (sl A12 (plc (t.set k0 (some q)) q).length C12 2 (rows pr2 (plc (t.set k0 (some q)) q)) G12) hs12' m12 o12
    have hGb : Beyond w.heap.size G9 := s10.bey 1 rfl
    have hG12 : Beyond w.heap.size G12 := s12.bey 1 rfl
    refine ⟨fun x hx => m12.keep x ?_ fun hx9 => ?_, ?_⟩
    · simp only [List.mem_cons, List.not_mem_nil, or_false] at hx
      rcases hx with rfl | rfl
      · exact Nat.lt_of_lt_of_le hrlt s10.mod.size
      · exact Nat.lt_of_lt_of_le hadb s10.mod.size
    · have := hGb x hx9
      simp only [List.mem_cons, List.not_mem_nil, or_false] at hx
      rcases hx with rfl | rfl <;> omega
    · refine ⟨⟨by omega, by omega⟩, ?_⟩
      have hr12 := s12.mod.get hr (by simp)
      have hsubd : ∀ y, y ∈ dd (t.set k0 (some q)) → y ∈ dd t := fun y hy => ((mem_dd_add h0).1 hy).elim (fun e => e ▸ hqd) id
      refine rput_sort (ob := ob) (h1.mod s12.mod) hr12 hgm ht hi (t' := t.set k0 (some q)) (by simpa using ht) hs12' (fun b hb hbF => ?_) (fun y _ hyq => plc_set_ne h0 hyq) hsubd fun w' F' h' hF' m' => ?_
      · have h6 := hG12 b hb
        have h7 := h1.ltF b hbF
        omega
      · refine ⟨trivial, hK w' F' h' (fun b hb => ?_) ?_⟩
        · rcases hF' b hb with h8 | h8 | h8
          · exact .inl h8
          · exact .inr (hG12 b h8)
          · exact .inr (Nat.le_trans s12.mod.size h8)
        · refine (s12.mod.of0).trans' (m'.mono fun b hb => ?_)
          rcases List.mem_cons.1 hb with rfl | hb
          · simp
          · simp [hb]
  · refine ⟨fun m dA dL dC k w' => ∃ (j : Nat) (G : List Nat), k = j ∧ j = dL ∧ j ≤ (plc t q).length ∧ m = (plc t q).length - j ∧ (∀ i x, i < j → (plc t q)[i]? = some x → x < k0) ∧ Den.Sep w w' [blk b5 (.cells #[.int .i64 (((k0 / 6 : Nat) : Int) + 1), .int .i64 ((k0 % 6 : Nat) : Int)] 81 (0, 0)), sl dA j dC 2 (rows pr2 ((plc t q).take j)) G],
      ⟨(plc t q).length, 0, [], rfl, rfl, by omega, by omega, fun i x hi => by omega, ?_⟩, ?_⟩
    · refine Den.Sep.of_prts s7.mod ((Den.Prts.nil w7 |>.cons (p := sl none 0 0 2 (rows pr2 ((plc t q).take 0)) []) (by show SlB _ _ _ _ _ _ _; simpa using SlB.nil w7 2) (by simp [sl])).cons (s7.nth 0 rfl) (by simp [PF, sl])) fun x hx => ?_
      simp [PF, sl, blk] at hx
      subst hx
      exact s7.bey 0 rfl x (by simp [blk])
    · rintro m dA dL dC k - w8 ⟨j, G, rfl, rfl, hjl, rfl, hj1, s8⟩
      rw [drK_eq]
      have s9 := s8.mod0 (Mod.refl [] w8).drew
      obtain ⟨d1, d2⟩ := st s9.mod
      simp only [nilK_some, Int.toNat_natCast]
      refine ⟨_, _, _, d1, ?_⟩
      simp only [nilK_some]
      refine ⟨⟨by omega, by omega⟩, _, _, _, d2, ?_⟩
      rw [spl_decide]
      refine ⟨fun hlt => ?_, fun hge => ⟨j, G, rfl, rfl, hjl, hj1, fun x hx => by have := (List.getElem?_eq_some_iff.1 hx).1; omega, s9⟩⟩
      have hjL : j < (plc t q).length := by omega
      have dget : ∀ {w'}, Mod [] w w' → ∃ ad2 k, (g q).2.1 = some ad2 ∧ (plc t q)[j]? = some k ∧ k < 48 ∧ w'.cell? (Addr.add ad2 (j * 2)) = some (.int .i64 (((k / 6 : Nat) : Int) + 1)) ∧ w'.cell? (Addr.add (Addr.add ad2 (j * 2)) 1) = some (.int .i64 ((k % 6 : Nat) : Int)) := fun {w'} hm => by
        have hd2 := hdrow.keep (w' := w') fun b hb => hm.keep b (h1.lt b hb) (by simp)
        obtain ⟨ad2, k, e1, e2, e3, -, e4, e5⟩ := hd2.get (j := j) (by rw [hdq]; exact hjL)
        rw [hdq] at e2
        exact ⟨ad2, k, e1, e2, e3, e4, e5⟩
      obtain ⟨ad2, k, e1, e2, e3, e4, e5⟩ := dget s9.mod
      obtain ⟨cb0, cb1⟩ := hb5 s9
      refine ⟨_, _, _, d1, ?_⟩
      simp only [nilK_some]
      refine ⟨⟨by omega, by omega⟩, _, _, _, d2, ?_⟩
      rw [e1]
      simp only [nilK_some]
      refine ⟨⟨by omega, by omega⟩, _, _, ⟨e4, e5⟩, _, _, ⟨cb0, cb1⟩, ?_⟩
      refine rless_run k k0 fun w10 m10 => ⟨_, rfl, ?_⟩
      have s10 := s9.mod0 m10
      rw [spl_decide]
      refine ⟨fun hl => ?_, fun hnl => ⟨j, G, rfl, rfl, hjl, hj1, fun x hx => by rw [e2] at hx; cases hx; exact hnl, s10⟩⟩
      obtain ⟨d1', d2'⟩ := st s10.mod
      obtain ⟨ad3, k', f1, f2, f3, f4, f5⟩ := dget s10.mod
      rw [e2] at f2
      cases f2
      rw [e1] at f1
      cases f1
      refine ⟨_, _, _, d1', ?_⟩
      simp only [nilK_some]
      refine ⟨⟨by omega, by omega⟩, _, _, _, d2', ?_⟩
      rw [e1]
      simp only [nilK_some]
      refine ⟨⟨by omega, by omega⟩, _, _, ⟨f4, f5⟩, ?_⟩
      rw [newK_eq]
      have hs10 : SlB w10 dA j dC 2 (rows pr2 ((plc t q).take j)) G := s10.nth 1 rfl
      refine grow_K slT_A2_int (by decide) hs10 (us := pr2 k) (n := 1) rfl (pr2_cell k) (by omega) (by omega) fun A11 C11 w11 G11 hs11 m11 o11 => ⟨_, _, _, rfl, ?_⟩
      have etk : (plc t q).take (j + 1) = (plc t q).take j ++ [k] := by
        rw [List.take_succ_eq_append_getElem hjL, (List.getElem?_eq_some_iff.1 e2).2]
      have s11 := s10.step 1 rfl (sl A11 (j + 1) C11 2 (rows pr2 ((plc t q).take (j + 1))) G11) (by rw [etk, rows_app, rows_one]; exact hs11) m11 o11
      refine ⟨(plc t q).length - (j + 1), by omega, j + 1, G11, by rw [w64 (by omega) (by omega)]; omega, rfl, by omega, rfl, fun i x hi hx => ?_, s11⟩
      rcases Nat.lt_or_ge i j with h5 | h5
      · exact hj1 i x h5 hx
      · obtain rfl : i = j := by omega
        rw [e2] at hx
        cases hx
        exact hl

end

end Go.Proofs

set_option linter.unusedSimpArgs false
namespace Go.Proofs
open Go Go.Den

theorem idx_get {t : Tb} {q : Nat} (h : q ∈ dd t) : (dd t)[(dd t).idxOf q]? = some q := by
  rw [List.getElem?_eq_getElem (List.idxOf_lt_length_iff.2 h), List.getElem_idxOf]

theorem map_set_key {α : Type} {t : Tb} {q i : Nat} (hi : (dd t)[i]? = some q) {g g' : Nat → α} (h : ∀ y, y ≠ q → g' y = g y) : ((dd t).map g).set i (g' q) = (dd t).map g' := by
  have hil := (List.getElem?_eq_some_iff.1 hi).1
  apply List.ext_getElem?
  intro j
  rw [List.getElem?_set, List.getElem?_map, List.getElem?_map]
  by_cases hij : i = j
  · subst hij
    rw [if_pos rfl, if_pos (by simpa using hil), hi]
    rfl
  · rw [if_neg hij]
    cases hj : (dd t)[j]? with
    | none => rfl
    | some y =>
      have hyq : y ≠ q := fun e => hij (by
        have h3 := List.getElem?_eq_some_iff.1 hi
        have h4 := List.getElem?_eq_some_iff.1 hj
        exact (List.getElem_inj (dd_nodup t)).1 (h3.2.trans (e.symm.trans h4.2.symm)))
      simp only [Option.map_some, h y hyq]

section
variable {w : World} {r : Nat} {F : List Nat} {t : Tb} {ob : Nat → FX}

theorem rat_q (h : RefP w r (can t ob) F) (ht : t.length = 48) (pid fd : Int) {K : Value → World → Prop} (h0 : nam t pid fd = none → K (.int .i64 (-1)) w)
    (h1 : ∀ (q i : Nat), nam t pid fd = some q → (dd t)[i]? = some q → i < (dd t).length → K (.int .i64 (i : Int)) w) : CallsR Try.prog F_janusref18_Fds_at #[.pointer (some ⟨r, 0, none⟩), .int .i64 pid, .int .i64 fd] w K := by
  refine rat_can h ht pid fd ?_
  cases hn : nam t pid fd with
  | none => exact h0 hn
  | some q =>
    have hq := (nam_dd hn).1
    exact h1 q _ hn (idx_get hq) (List.idxOf_lt_length_iff.2 hq)
theorem rfree_q (h : RefP w r (can t ob) F) (ht : t.length = 48) (pid : Int) {K : Value → World → Prop} (h0 : free18 t pid = none → K (.int .i64 (-1)) w)
    (h1 : ∀ n : Nat, free18 t pid = some n → K (.int .i64 (n : Int)) w) : CallsR Try.prog F_janusref18_Fds_free #[.pointer (some ⟨r, 0, none⟩), .int .i64 pid] w K := by
  refine rfree_run h ht pid ?_
  cases hn : free18 t pid with
  | none => exact h0 hn
  | some n => exact h1 n hn

/-- A file, as the reference has it. -/
theorem RefP.file (h : RefP w r (can t ob) F) {i q : Nat} (hi : (dd t)[i]? = some q) : ∃ ad C, w.cell? ⟨r, 0, none⟩ = some (.slice (some ad) (dd t).length C) ∧ ad.block ∈ F ∧
    w.cell? (Addr.add ad (i * 6)) = some (.int .i64 (ob q).k) ∧ w.cell? (Addr.add (Addr.add ad (i * 6)) 1) = some (.int .i64 (ob q).i) ∧ w.cell? (Addr.add (Addr.add ad (i * 6)) 2) = some (.int .i64 (ob q).o) ∧
    w.cell? (Addr.add (Addr.add ad (i * 6)) 3) = some (.bool (ob q).a) ∧ w.cell? (Addr.add (Addr.add ad (i * 6)) 4) = some (.int .i64 ((plc t q).length : Int)) := by
  obtain ⟨g, R, Dd, h1, hgm, rfl⟩ := h.open18
  have hil := (List.getElem?_eq_some_iff.1 hi).1
  have hqd := List.mem_of_getElem? hi
  obtain ⟨T, A, C, hr, hs⟩ := h1.hd
  rw [List.length_map] at hr hs
  obtain ⟨ad, x, rfl, hx, hRad, hadb, hc⟩ := hs.rd.row e6_len (by decide) hil
  rw [List.getElem?_map, hi, Option.map_some] at hx
  cases hx
  have hg := hgm q hqd
  have c0 := hc 0 (by omega)
  rw [add_zero] at c0
  refine ⟨ad, C, by rw [cell_get hr]; rfl, ?_, ?_, ?_, ?_, ?_, ?_⟩
  · simp [hRad]
  · rw [c0]; simp only [e6, fxc, hg]; rfl
  · rw [hc 1 (by omega)]; simp only [e6, fxc, hg]; rfl
  · rw [hc 2 (by omega)]; simp only [e6, fxc, hg]; rfl
  · rw [hc 3 (by omega)]; simp only [e6, fxc, hg]; rfl
  · rw [hc 4 (by omega)]; simp only [e6, fxc, hg]; rfl

/-- How many files there are. -/
theorem RefP.cnt (h : RefP w r (can t ob) F) : ∃ A C, w.cell? ⟨r, 0, none⟩ = some (.slice A (dd t).length C) := by
  obtain ⟨g, R, Dd, h1, hgm, rfl⟩ := h.open18
  obtain ⟨T, A, C, hr, hs⟩ := h1.hd
  rw [List.length_map] at hr hs
  exact ⟨A, C, by rw [cell_get hr]; rfl⟩

theorem rget_run (h : RefP w r (can t ob) F) (ht : t.length = 48) (pid fd : Int) {K : Value → World → Prop} (h0 : ∀ w', nam t pid fd = none → Mod [] w w' → K (fxe fx0 0 9) w')
    (h1 : ∀ w' q, nam t pid fd = some q → Mod [] w w' → K (fxe (ob q) (plc t q).length 0) w') : CallsR Try.prog F_janusref18_Fds_Get #[.pointer (some ⟨r, 0, none⟩), .int .i64 pid, .int .i64 fd] w K := by
  apply R_janusref18_Fds_Get_ok
  simp only [R_janusref18_Fds_Get, spl_decide, nilK_some]
  refine (Den.Sep.nil (Den.Mod.refl [] w)).new fun b w1 s1 m1 _ => ?_
  refine rat_q (h.mod m1) ht pid fd (fun hn => ⟨_, rfl, fun _ => ?_, fun h => absurd (by decide) h⟩) (fun q i hn hi hil => ⟨_, rfl, fun h => absurd h (by omega), fun _ => ?_⟩)
  · refine s1.st0 0 rfl rfl fun w2 s2 m2 => ⟨_, _, _, _, _, ⟨s2.cell 0 rfl rfl, s2.cell 0 rfl rfl, s2.cell 0 rfl rfl, s2.cell 0 rfl rfl, s2.cell 0 rfl rfl⟩, ?_⟩
    exact h0 w2 hn s2.mod
  · obtain ⟨ad, C, c, -, c0, c1, c2, c3, c4⟩ := (h.mod m1).file hi
    refine ⟨_, _, _, c, ?_⟩
    simp only [nilK_some, Int.toNat_natCast]
    refine ⟨⟨by omega, by omega⟩, _, _, _, _, _, ⟨c0, c1, c2, c3, c4⟩, ?_⟩
    refine s1.st0 0 rfl rfl fun w2 s2 m2 => ⟨_, _, _, _, _, ⟨s2.cell 0 rfl rfl, s2.cell 0 rfl rfl, s2.cell 0 rfl rfl, s2.cell 0 rfl rfl, s2.cell 0 rfl rfl⟩, ?_⟩
    exact h1 w2 q hn s2.mod

theorem rseek_run (h : RefP w r (can t ob) F) (ht : t.length = 48) (pid fd off : Int) {K : Value → World → Prop} (h0 : nam t pid fd = none → K (.int .i64 9) w) (h1 : ∀ q, nam t pid fd = some q → off < 0 → K (.int .i64 22) w)
    (h2 : ∀ q w', nam t pid fd = some q → 0 ≤ off → RefP w' r (can t (upO ob q ⟨(ob q).k, (ob q).i, off, (ob q).a⟩)) F → Mod F w w' → K (.int .i64 0) w') :
    CallsR Try.prog F_janusref18_Fds_Seek #[.pointer (some ⟨r, 0, none⟩), .int .i64 pid, .int .i64 fd, .int .i64 off] w K := by
  apply R_janusref18_Fds_Seek_ok
  simp only [R_janusref18_Fds_Seek, spl_decide, nilK_some]
  refine rat_q h ht pid fd (fun hn => ⟨_, rfl, fun _ => h0 hn, fun h => absurd (by decide) h⟩) (fun q i hn hi hil => ⟨_, rfl, fun h => absurd h (by omega), fun _ => ⟨fun hneg => h1 q hn hneg, fun hpos => ?_⟩⟩)
  obtain ⟨g, R, Dd, hh, hgm, rfl⟩ := h.open18
  have hqd := List.mem_of_getElem? hi
  obtain ⟨T, A, C, hr, hs⟩ := hh.hd
  rw [List.length_map] at hr hs
  obtain ⟨b, o, rfl, hRb⟩ := hs.isNone (by omega)
  subst hRb
  obtain ⟨arr, T2, hb2, hcap, -⟩ := hs.block
  have hsl := hs.length
  have hle := hs.le
  refine ⟨_, _, _, by rw [cell_get hr]; rfl, ?_⟩
  simp only [nilK_some, Int.toNat_natCast, addr_add]
  refine ⟨⟨by omega, by omega⟩, ?_⟩
  have hjm : i * 6 + 2 < (dd t).length * 6 := by
    have : (i + 1) * 6 ≤ (dd t).length * 6 := Nat.mul_le_mul_right _ (by omega)
    omega
  have hLC : (dd t).length * 6 ≤ C * 6 := Nat.mul_le_mul_right _ hle
  refine stK_of hb2 (by simp; omega) ?_
  simp only [splice_cons, splice_nil]
  have hset := hs.set hb2 (j := i * 6 + 2) (by omega) (.int .i64 off)
  rw [← Nat.add_assoc] at hset
  obtain ⟨g', hg'⟩ : ∃ g' : Nat → E18 × Hd, ∀ y, g' y = if y = q then (⟨⟨(ob q).k, (ob q).i, off, (ob q).a⟩, (g q).1.r, (g q).1.d⟩, (g q).2) else g y := ⟨_, fun _ => rfl⟩
  have hg'q : g' q = (⟨⟨(ob q).k, (ob q).i, off, (ob q).a⟩, (g q).1.r, (g q).1.d⟩, (g q).2) := by rw [hg', if_pos rfl]
  have hLi : ((dd t).map g)[i]? = some (g q) := by rw [List.getElem?_map, hi]; rfl
  have eset : (rows e6 ((dd t).map g)).set (i * 6 + 2) (.int .i64 off) = rows e6 ((dd t).map g') := by
    rw [rows_set1 e6_len (x' := g' q) hLi (by decide) (by
      have h1 := hgm q hqd
      rw [hg'q]
      simp only [e6, h1]
      rfl)]
    rw [map_set_key hi fun y hy => by rw [hg', if_neg hy]]
  rw [eset] at hset
  obtain ⟨w2, hw2⟩ : ∃ w2, w2 = w.upd b (.cells (arr.setIfInBounds (o + i * 6 + 2) (.int .i64 off)) T2 (0, 0)) := ⟨_, rfl⟩
  rw [← hw2] at hset ⊢
  have mb : Mod [b] w w2 := by rw [hw2]; exact (Mod.refl _ _).upd (.inl (by simp)) _
  have hrb : r ≠ b := fun e => hh.rR (by simp [e])
  have hkD : ∀ x ∈ Dd, w2.heap[x]? = w.heap[x]? := fun x hx => mb.keep x (hh.lt x hx) fun hxb => by
    simp only [List.mem_singleton] at hxb
    subst hxb
    exact hh.dj x (by simp) hx
  refine h2 q w2 hn (by omega) ⟨(dd t).map g', [b], Dd, ⟨⟨T, some ⟨b, o, none⟩, C, ?_, ?_⟩, fun x hx => ?_, hh.dj, fun x hx => Nat.lt_of_lt_of_le (hh.lt x hx) mb.size, hh.rR, hh.rD⟩, ?_, rfl⟩ (mb.mono (by simp))
  · rw [List.length_map]
    exact (mb.keep r (lt_of_get hr) (by simpa using hrb)).trans hr
  · rw [List.length_map]
    exact hset
  · obtain ⟨y, hy, rfl⟩ := List.mem_map.1 hx
    have hd := (hh.d _ (List.mem_map.2 ⟨y, hy, rfl⟩)).keep hkD
    by_cases hyq : y = q
    · subst hyq
      rw [hg'q]
      exact hd
    · rw [hg', if_neg hyq]
      exact hd
  · rw [List.map_map]
    unfold can
    apply List.map_congr_left
    intro y hy
    have hgy := hgm y hy
    by_cases hyq : y = q
    · subst hyq
      simp only [Function.comp_apply, hg'q, mk18, upO, if_true, hgy]
    · simp only [Function.comp_apply, hg', if_neg hyq, hgy, mk18, upO, if_neg (Ne.symm hyq)]

theorem rdup_run (h : RefP w r (can t ob) F) (ht : t.length = 48) (pid fd : Int) {K : Value → World → Prop} (h0 : nam t pid fd = none → K (.tuple #[.int .i64 0, .int .i64 9]) w) (h1 : ∀ q, nam t pid fd = some q → free18 t pid = none → K (.tuple #[.int .i64 0, .int .i64 24]) w)
    (h2 : ∀ (q n : Nat) w' F', nam t pid fd = some q → free18 t pid = some n → RefP w' r (can (t.set (pl pid n) (some q)) ob) F' → (∀ b ∈ F', b ∈ F ∨ w.heap.size ≤ b) → Mod F w w' → K (.tuple #[.int .i64 (n : Int), .int .i64 0]) w') :
    CallsR Try.prog F_janusref18_Fds_Dup #[.pointer (some ⟨r, 0, none⟩), .int .i64 pid, .int .i64 fd] w K := by
  apply R_janusref18_Fds_Dup_ok
  simp only [R_janusref18_Fds_Dup, spl_decide]
  refine rat_q h ht pid fd (fun hn => ⟨_, rfl, fun _ => h0 hn, fun h => absurd (by decide) h⟩) (fun q i hn hi hil => ⟨_, rfl, fun h => absurd h (by omega), fun _ => ?_⟩)
  refine rfree_q h ht pid (fun hf => ⟨_, rfl, fun _ => h1 q hn hf, fun h => absurd (by decide) h⟩) (fun n hf => ⟨_, rfl, fun h => absurd h (by omega), fun _ => ?_⟩)
  obtain ⟨-, ⟨hp1, hp2, -, -⟩, -⟩ := nam_dd hn
  obtain ⟨ho, hg, -⟩ := free_none ht hp1 hp2 hf
  exact rname_run h ht hi ho hg fun w' F' h' hF' m' => h2 q n w' F' hn hf h' hF' m'

theorem forkT_len (t : Tb) (pid child : Int) (fd : Nat) : (forkT t pid child fd).length = t.length := by
  unfold forkT
  cases nam t pid fd with
  | none => rfl
  | some q =>
    simp only
    split
    · simp
    · rfl
theorem forkN_len (t : Tb) (pid child : Int) (n : Nat) : (forkN t pid child n).length = t.length := by
  induction n with
  | zero => rfl
  | succ n ih => rw [forkN_succ, forkT_len, ih]
theorem forkN_bad {t : Tb} {pid child : Int} (h : ¬ (1 ≤ pid ∧ pid ≤ 8) ∨ ¬ (1 ≤ child ∧ child ≤ 8)) (n : Nat) : forkN t pid child n = t := by
  induction n with
  | zero => rfl
  | succ n ih =>
    rw [forkN_succ, ih]
    unfold forkT
    cases hn : nam t pid n with
    | none => rfl
    | some q =>
      simp only
      rw [if_neg]
      rintro ⟨⟨h1, h2, -, -⟩, -⟩
      obtain ⟨-, ⟨h3, h4, -, -⟩, -⟩ := nam_dd hn
      rcases h with h | h
      · exact h ⟨h3, h4⟩
      · exact h ⟨h1, h2⟩

theorem rfork_run (h : RefP w r (can t ob) F) (ht : t.length = 48) (pid child : Int) {K : Value → World → Prop}
    (hK : ∀ w' F', RefP w' r (can (fork18 t pid child) ob) F' → (∀ b ∈ F', b ∈ F ∨ w.heap.size ≤ b) → Mod F w w' → K (.tuple #[]) w') :
    CallsR Try.prog F_janusref18_Fds_Fork #[.pointer (some ⟨r, 0, none⟩), .int .i64 pid, .int .i64 child] w K := by
  apply R_janusref18_Fds_Fork_ok
  simp only [R_janusref18_Fds_Fork]
  refine ⟨fun m i w' => ∃ (k : Nat) (F' : List Nat), i = k ∧ k ≤ 6 ∧ m = 6 - k ∧ (k = 0 ∨ pid ≠ child) ∧ RefP w' r (can (forkN t pid child k) ob) F' ∧ (∀ b ∈ F', b ∈ F ∨ w.heap.size ≤ b) ∧ Mod F w w', ⟨6, 0, F, rfl, by omega, by omega, .inl rfl, h, fun b hb => .inl hb, Mod.refl _ _⟩, ?_⟩
  rintro m i - w1 ⟨k, F1, rfl, hk, rfl, hk0, h1, hF1, m1⟩
  have hlen : (forkN t pid child k).length = 48 := by rw [forkN_len, ht]
  have out : (¬ (1 ≤ pid ∧ pid ≤ 8) ∨ ¬ (1 ≤ child ∧ child ≤ 8)) → K (.tuple #[]) w1 := fun hb => by
    have e : fork18 t pid child = forkN t pid child k := by
      unfold fork18
      rw [forkN_bad hb, forkN_bad hb]
      split <;> rfl
    rw [← e] at h1
    exact hK w1 F1 h1 hF1 m1
  rw [spl_decide]
  refine ⟨fun hlt => ?_, fun hge => ?_⟩
  · refine rpid_run pid ⟨_, rfl, ?_⟩
    rw [spl_decide]
    refine ⟨fun hp => ?_, fun hp => out (.inl hp)⟩
    refine rpid_run child ⟨_, rfl, ?_⟩
    rw [spl_decide]
    refine ⟨fun hc => ?_, fun hc => out (.inr hc)⟩
    rw [spl_bne]
    refine ⟨fun hne => ?_, fun he => ?_⟩
    · refine ⟨fun w2 => ∃ F2, RefP w2 r (can (forkN t pid child (k + 1)) ob) F2 ∧ (∀ b ∈ F2, b ∈ F ∨ w.heap.size ≤ b) ∧ Mod F w w2, fun _ w2 ⟨F2, hj⟩ => ⟨6 - (k + 1), by omega, k + 1, F2, by rw [w64 (by omega) (by omega)]; omega, by omega, rfl, .inr hne, hj⟩, ?_⟩
      rw [forkN_succ]
      obtain ⟨tk, htk⟩ : ∃ tk, tk = forkN t pid child k := ⟨_, rfl⟩
      rw [← htk] at h1 hlen ⊢
      have stay : forkT tk pid child k = tk → ∃ F2, RefP w1 r (can (forkT tk pid child k) ob) F2 ∧ (∀ b ∈ F2, b ∈ F ∨ w.heap.size ≤ b) ∧ Mod F w w1 := fun e => by
        rw [e]
        exact ⟨F1, h1, hF1, m1⟩
      simp only [spl_decide]
      refine rat_q h1 hlen pid k (fun hn => ⟨_, rfl, fun h => absurd h (by decide), fun _ => stay (by unfold forkT; rw [hn])⟩) (fun q i hn hi hil => ⟨_, rfl, fun _ => ?_, fun h => absurd (by omega) h⟩)
      refine rat_q h1 hlen child k (fun hnc => ⟨_, rfl, fun _ => ?_, fun h => absurd (by decide) h⟩) (fun q' i' hnc _ _ => ⟨_, rfl, fun h => absurd h (by omega), fun _ => stay (by unfold forkT; rw [hn]; simp [hnc])⟩)
      have ho : okPF child k := ⟨hc.1, hc.2, by omega, by omega⟩
      have h0 := nam_get hlen ho
      rw [hnc] at h0
      refine rname_run h1 hlen hi ho h0 fun w' F' h' hF' m' => ⟨F', ?_, fun b hb => ?_, ?_⟩
      · have ef : forkT tk pid child k = tk.set (pl child k) (some q) := by unfold forkT; rw [hn]; simp [ho, hnc]
        rw [ef]
        exact h'
      · rcases hF' b hb with h5 | h5
        · exact hF1 b h5
        · exact .inr (Nat.le_trans m1.size h5)
      · exact m1.trans m' fun b hb hlt => (hF1 b hb).resolve_right (by omega)
    · have hk0 : k = 0 := hk0.resolve_right (by simp [he])
      subst hk0
      have e : fork18 t pid child = forkN t pid child 0 := by unfold fork18; rw [if_pos he]; rfl
      rw [← e] at h1
      exact hK w1 F1 h1 hF1 m1
  · obtain rfl : k = 6 := by omega
    have hne : pid ≠ child := hk0.resolve_left (by decide)
    have e : fork18 t pid child = forkN t pid child 6 := by unfold fork18; rw [if_neg hne]
    rw [← e] at h1
    exact hK w1 F1 h1 hF1 m1

theorem rids_run (h : RefP w r (can t ob) F) (ht : t.length = 48) (kind : Int) {K : Value → World → Prop} (hK : ∀ A C w' G, SlB w' A (ids18 t ob kind).length C 1 (i64s (ids18 t ob kind)) G → Beyond w.heap.size G → Mod [] w w' → K (.slice A (ids18 t ob kind).length C) w') :
    CallsR Try.prog F_janusref18_Fds_Ids #[.pointer (some ⟨r, 0, none⟩), .int .i64 kind] w K := by
  apply R_janusref18_Fds_Ids_ok
  simp only [R_janusref18_Fds_Ids, spl_decide, spl_beq, nilK_some]
  have hdl := dd_len t
  obtain ⟨out, hout⟩ : ∃ out : Nat → List Int, ∀ k, out k = ((((dd t).take k).filter fun q => decide ((ob q).k = kind)).map fun q => (ob q).i).foldl putL [] := ⟨_, fun _ => rfl⟩
  have hol : ∀ k, (out k).length ≤ k := fun k => by
    rw [hout]
    have : ∀ (l out : List Int), (l.foldl putL out).length ≤ out.length + l.length := by
      intro l
      induction l with
      | nil => intro out; simp
      | cons a l ih =>
        intro out
        have := ih (putL out a)
        have h2 := putL_len out a
        simp only [List.foldl_cons, List.length_cons]
        omega
    have h1 := this ((((dd t).take k).filter fun q => decide ((ob q).k = kind)).map fun q => (ob q).i) []
    have h2 := List.length_filter_le (fun q => decide ((ob q).k = kind)) ((dd t).take k)
    simp only [List.length_map, List.length_nil, List.length_take] at h1 h2
    omega
  refine ⟨fun m A L C i w' => ∃ (k : Nat) (G : List Nat), i = k ∧ k ≤ (dd t).length ∧ m = (dd t).length - k ∧ SlB w' A L C 1 (i64s (out k)) G ∧ Beyond w.heap.size G ∧ Mod [] w w', ⟨(dd t).length, 0, [], rfl, by omega, by omega, by rw [hout]; exact SlB.nil w 1, (by intro x hx; cases hx), Mod.refl _ _⟩, ?_⟩
  rintro m A L C i - w1 ⟨k, G, rfl, hk, rfl, hs, hG, m1⟩
  have hcount := hs.i64
  have hok := hol k
  obtain ⟨A0, C0, hc0⟩ := (h.mod m1).cnt
  refine ⟨_, _, _, hc0, fun hlt => ?_, fun hge => ?_⟩
  · have hkl : k < (dd t).length := by omega
    have hgk : (dd t)[k]? = some (dd t)[k] := List.getElem?_eq_getElem hkl
    obtain ⟨q, hq⟩ : ∃ q, q = (dd t)[k] := ⟨_, rfl⟩
    rw [← hq] at hgk
    obtain ⟨ad, C1, c, -, c0, c1, -⟩ := (h.mod m1).file hgk
    have etk : (dd t).take (k + 1) = (dd t).take k ++ [q] := by rw [List.take_succ_eq_append_getElem hkl, ← hq]
    refine ⟨fun A L C w' => ∃ G : List Nat, SlB w' A L C 1 (i64s (out (k + 1))) G ∧ Beyond w.heap.size G ∧ Mod [] w w', fun A L C _ w' ⟨G, hj⟩ => ⟨(dd t).length - (k + 1), by omega, k + 1, G, by rw [w64 (by omega) (by omega)]; omega, by omega, rfl, hj⟩, ?_⟩
    refine ⟨_, _, _, c, ?_⟩
    simp only [nilK_some, Int.toNat_natCast]
    refine ⟨⟨by omega, by omega⟩, _, c0, fun hkk => ⟨_, _, _, c, ?_⟩, fun hkk => ?_⟩
    · simp only [nilK_some, Int.toNat_natCast]
      refine ⟨⟨by omega, by omega⟩, _, c1, ?_⟩
      have e : out (k + 1) = putL (out k) (ob q).i := by
        rw [hout, hout, etk, List.filter_append, List.map_append, List.foldl_append]
        simp [hkk]
      rw [e]
      exact put_rd hs.rd hs.le (by omega) (ob q).i fun A' L' C' w' G' hs' hG' m' => ⟨_, _, _, rfl, G', hs', fun x hx => Nat.le_trans m1.size (hG' x hx), m1.trans' m'⟩
    · have e : out (k + 1) = out k := by
        rw [hout, hout, etk, List.filter_append]
        simp [hkk]
      rw [e]
      exact ⟨G, hs, hG, m1⟩
  · obtain rfl : k = (dd t).length := by omega
    have e : out (dd t).length = ids18 t ob kind := by rw [hout, List.take_length]; rfl
    rw [e] at hs hcount
    obtain rfl : L = (ids18 t ob kind).length := by omega
    exact hK A C w1 G hs hG m1

end

end Go.Proofs

set_option linter.unusedSimpArgs false
namespace Go.Proofs
open Go Go.Den

theorem st_whole {w : World} {b : Nat} {arr : Array Value} {T : TypeId} {vs : List Value} {K : World → Prop} (h : w.heap[b]? = some (.cells arr T (0, 0))) (hl : vs.length = arr.size)
    (hK : ∀ w', w' = w.upd b (.cells vs.toArray T (0, 0)) → w'.heap[b]? = some (.cells vs.toArray T (0, 0)) → K w') : stK ⟨b, 0, none⟩ vs w K := by
  refine stK_of h (by omega) ?_
  have e : splice arr 0 vs = vs.toArray := by
    have := splice_all vs [] arr.toList (by simpa using hl)
    simpa using this
  rw [e]
  exact hK _ rfl (upd_same h)

section
variable {w : World} {r : Nat} {F : List Nat} {t : Tb} {ob : Nat → FX}

theorem rclose_run (h : RefP w r (can t ob) F) (ht : t.length = 48) (pid fd : Int) {K : Value → World → Prop} (h0 : ∀ w', nam t pid fd = none → Mod [] w w' → K (fxe fx0 0 9) w')
    (h1 : ∀ q w' F', nam t pid fd = some q → RefP w' r (can (t.set (pl pid fd) none) ob) F' → (∀ b ∈ F', b ∈ F ∨ w.heap.size ≤ b) → Mod F w w' → K (fxe (ob q) ((plc t q).length - 1 : Int) 0) w') :
    CallsR Try.prog F_janusref18_Fds_Close #[.pointer (some ⟨r, 0, none⟩), .int .i64 pid, .int .i64 fd] w K := by
  apply R_janusref18_Fds_Close_ok
  simp only [R_janusref18_Fds_Close, spl_decide, nilK_some]
  refine (Den.Sep.nil (Den.Mod.refl [] w)).new fun b4 w1 s1 m1 hb4 => ?_
  refine rat_q (h.mod m1) ht pid fd (fun hn => ⟨_, rfl, fun _ => ?_, fun h => absurd (by decide) h⟩) (fun q i hn hi hil => ⟨_, rfl, fun h => absurd h (by omega), fun _ => ?_⟩)
  · refine s1.st0 0 rfl rfl fun w2 s2 m2 => ⟨_, _, _, _, _, ⟨s2.cell 0 rfl rfl, s2.cell 0 rfl rfl, s2.cell 0 rfl rfl, s2.cell 0 rfl rfl, s2.cell 0 rfl rfl⟩, ?_⟩
    exact h0 w2 hn s2.mod
  obtain ⟨ad0, C0, c, -, c0, c1, c2, c3, c4⟩ := (h.mod m1).file hi
  refine ⟨_, _, _, c, ?_⟩
  simp only [nilK_some, Int.toNat_natCast]
  refine ⟨⟨by omega, by omega⟩, _, _, _, _, _, ⟨c0, c1, c2, c3, c4⟩, ?_⟩
  clear c c0 c1 c2 c3 c4 ad0 C0
  obtain ⟨hqd, ho, hg0⟩ := nam_dd hn
  obtain ⟨k0, hk0⟩ : ∃ k0, k0 = pl pid fd := ⟨_, rfl⟩
  rw [← hk0] at h1 hg0
  have hk48 : k0 < 48 := by rw [hk0]; exact pl_lt ho
  have hmt : ∀ y, y < 48 → ((((y / 6 : Nat) : Int) + 1 = pid ∧ ((y % 6 : Nat) : Int) = fd) ↔ y = k0) := fun y hy => by
    rw [pl_inj hy]
    exact ⟨fun h => by rw [hk0]; exact h.2.symm, fun h => ⟨ho, by rw [h, hk0]⟩⟩
  have hdl48 : (plc t q).length ≤ 48 := by have := plc_len_le t q; omega
  have hpos : 0 < (plc t q).length := List.length_pos_iff.2 (plc_ne hqd)
  obtain ⟨g, R, Dd, hh, hgm, rfl⟩ := h.open18
  have hdq : (g q).1.d = plc t q := by rw [hgm q hqd]; rfl
  obtain ⟨T, A, C, hr, hs⟩ := hh.hd
  rw [List.length_map] at hr hs
  have hLi : ((dd t).map g)[i]? = some (g q) := by rw [List.getElem?_map, hi]; rfl
  obtain ⟨ad, x, rfl, hx, hRad, hadb, hc⟩ := hs.rd.row e6_len (by decide) hil
  rw [hLi] at hx
  cases hx
  have hrlt := hh.ltF r (by simp)
  have hdrow := hh.d _ (List.mem_of_getElem? hLi)
  have st : ∀ {w'}, Mod [] w w' → w'.cell? ⟨r, 0, none⟩ = some (.slice (some ad) (dd t).length C) ∧ w'.cell? (Addr.add (Addr.add ad (i * 6)) 5) = some (.slice (g q).2.1 (plc t q).length (g q).2.2) := fun {w'} hm => by
    have hr' := hm.get hr (by simp)
    refine ⟨by rw [cell_get hr']; rfl, ?_⟩
    rw [hm.cell (by rw [add_block, add_block]; exact hadb), hc 5 (by omega), ← hdq]
    rfl
  refine s1.new fun b25 w2 s2 m2 hb25 => s2.st0 0 rfl rfl fun w3 s3 m3 => ?_
  refine ⟨_, s3.cell 0 rfl rfl, ?_⟩
  rw [w64 (by omega) (by omega)]
  refine s3.st 0 rfl (by simp) fun w4 s4 m4 => ?_
  obtain ⟨xs, hxs⟩ : ∃ xs, xs = (fxc (ob q) ((plc t q).length - 1)).toArray := ⟨_, rfl⟩
  obtain ⟨z5, hz5⟩ : ∃ z5 : Array Value, z5 = #[.int .i64 0, .int .i64 0, .int .i64 0, .bool false, .int .i64 0] := ⟨_, rfl⟩
  have s4 : Den.Sep w w4 [blk b25 (.cells xs 37 (0, 0)), blk b4 (.cells z5 37 (0, 0))] := by rw [hxs, hz5]; exact s4
  obtain ⟨dT', hdT⟩ : ∃ f : Nat → List Nat, ∀ j, f j = ((plc t q).take j).filter (fun x => x != k0) := ⟨_, fun _ => rfl⟩
  have hdl : ∀ j, (dT' j).length ≤ j := fun j => by
    rw [hdT]
    have := List.length_filter_le (fun x => x != k0) ((plc t q).take j)
    rw [List.length_take] at this
    omega
  refine ⟨fun m dA dL dC k w' => ∃ (j : Nat) (G : List Nat), k = j ∧ j ≤ (plc t q).length ∧ m = (plc t q).length - j ∧ (dT' j).length = dL ∧ Den.Sep w w' [sl dA dL dC 2 (rows pr2 (dT' j)) G, blk b25 (.cells xs 37 (0, 0)), blk b4 (.cells z5 37 (0, 0))],
    ⟨(plc t q).length, 0, [], rfl, by omega, by omega, by rw [hdT]; rfl, s4.push (sl none 0 0 2 _ []) (Mod.refl [] w4) (by show SlB _ _ _ _ _ _ _; rw [hdT]; exact SlB.nil w4 2) (by intro x hx; cases hx)⟩, ?_⟩
  rintro m dA dL dC k - w5 ⟨j, G, rfl, hjl, rfl, hjL, s5⟩
  obtain ⟨d1, d2⟩ := st s5.mod
  have hdj := hdl j
  refine ⟨_, _, _, d1, ?_⟩
  simp only [nilK_some, Int.toNat_natCast]
  refine ⟨⟨by omega, by omega⟩, _, _, _, d2, fun hlt => ?_, fun hge => ?_⟩
  · have hjL' : j < (plc t q).length := by omega
    refine ⟨fun dA dL dC w' => ∃ G : List Nat, (dT' (j + 1)).length = dL ∧ Den.Sep w w' [sl dA dL dC 2 (rows pr2 (dT' (j + 1))) G, blk b25 (.cells xs 37 (0, 0)), blk b4 (.cells z5 37 (0, 0))],
      fun dA dL dC _ w' ⟨G, hj1, hj2⟩ => ⟨(plc t q).length - (j + 1), by omega, j + 1, G, by rw [w64 (by omega) (by omega)]; omega, by omega, rfl, hj1, hj2⟩, ?_⟩
    have hd5 := hdrow.keep (w' := w5) fun b hb => s5.mod.keep b (hh.lt b hb) (by simp)
    obtain ⟨ad2, y, e1, e2, e3, -, e4, e5⟩ := hd5.get (j := j) (by rw [hdq]; exact hjL')
    rw [hdq] at e2
    have etk : (plc t q).take (j + 1) = (plc t q).take j ++ [y] := by
      rw [List.take_succ_eq_append_getElem hjL', (List.getElem?_eq_some_iff.1 e2).2]
    refine ⟨_, _, _, d1, ?_⟩
    simp only [nilK_some, Int.toNat_natCast]
    refine ⟨⟨by omega, by omega⟩, _, _, _, d2, ?_⟩
    rw [e1]
    simp only [nilK_some, Int.toNat_natCast]
    refine ⟨⟨by omega, by omega⟩, _, _, ⟨e4, e5⟩, ?_⟩
    refine eqTwo_K arT2 unI ?_
    rw [spl_not, spl_decide]
    refine ⟨fun heq => ?_, fun hne => ?_⟩
    · have hyk : y = k0 := (hmt y e3).1 heq
      have e : dT' (j + 1) = dT' j := by
        rw [hdT, hdT, etk, List.filter_append]
        simp [hyk]
      rw [e]
      exact ⟨G, hjL, s5⟩
    · have hyk : y ≠ k0 := fun hh => hne ((hmt y e3).2 hh)
      have e : dT' (j + 1) = dT' j ++ [y] := by
        rw [hdT, hdT, etk, List.filter_append]
        simp [hyk]
      refine ⟨_, _, _, d1, ?_⟩
      simp only [nilK_some, Int.toNat_natCast]
      refine ⟨⟨by omega, by omega⟩, _, _, _, d2, ?_⟩
      simp only [e1, nilK_some, Int.toNat_natCast]
      refine ⟨⟨by omega, by omega⟩, _, _, ⟨e4, e5⟩, ?_⟩
      rw [newK_eq]
      have hs5 : SlB w5 dA dL dC 2 (rows pr2 (dT' j)) G := s5.nth 0 rfl
      refine grow_K slT_A2_int (by decide) hs5 (us := pr2 y) (n := 1) rfl (pr2_cell y) (by omega) (by omega) fun A6 C6 w6 G6 hs6 m6 o6 => ⟨_, _, _, rfl, G6, by rw [e]; simp; omega, ?_⟩
      have s6 := s5.step 0 rfl (sl A6 (dL + 1) C6 2 (rows pr2 (dT' (j + 1))) G6) (by rw [e, rows_app, rows_one]; exact hs6) m6 o6
      exact s6
  · obtain rfl : j = (plc t q).length := by omega
    have efin : dT' (plc t q).length = plc (t.set k0 none) q := by rw [hdT, List.take_length, plc_close_q hg0]
    rw [efin] at s5 hjL
    subst hjL
    refine ⟨_, _, _, d1, ?_⟩
    simp only [nilK_some, Int.toNat_natCast]
    refine ⟨⟨by omega, by omega⟩, ?_⟩
    have hr5 := s5.mod.get hr (by simp)
    have hGb : Beyond w.heap.size G := s5.bey 0 rfl
    have hb25G : b25 ∉ G := fun hm => s5.dj 0 1 (by decide) rfl rfl b25 hm (by simp [blk])
    have hb4G : b4 ∉ G := fun hm => s5.dj 0 2 (by decide) rfl rfl b4 hm (by simp [blk])
    have hb425 : b25 ≠ b4 := fun e => s5.dj 1 2 (by decide) rfl rfl b25 (by simp [blk]) (by simp [blk, e])
    have h25 : w5.heap[b25]? = some (.cells xs 37 (0, 0)) := s5.nth 1 rfl
    have h4 : w5.heap[b4]? = some (.cells z5 37 (0, 0)) := s5.nth 2 rfl
    have hb25w : w.heap.size ≤ b25 := s5.bey 1 rfl b25 (by simp [blk])
    have hb4w : w.heap.size ≤ b4 := s5.bey 2 rfl b4 (by simp [blk])
    have hFlt : ∀ b ∈ r :: (R ++ Dd), b < w.heap.size := hh.ltF
    have hkl : k0 < t.length := by omega
    have hsub : ∀ y, y ∈ dd (t.set k0 none) → y ∈ dd t := fun y hy => (mem_dd_set hkl hy).resolve_right (by simp)
    refine rput_sort (ob := ob) (hh.mod s5.mod) hr5 hgm ht hi (t' := t.set k0 none) (by simpa using ht) (s5.nth 0 rfl) (fun b hb hbF => ?_) (fun y _ hyq => plc_close_ne hg0 hyq) hsub (K := fun w' => _) fun w6 F6 h6 hF6 m6 => ?_
    · have h6 := hGb b hb
      have h7 := hFlt b hbF
      omega
    · have hsub6 : ∀ b ∈ r :: R, b < w.heap.size := fun b hb => hFlt b (by
        rcases List.mem_cons.1 hb with rfl | hb
        · simp
        · simp [hb])
      have h25' : w6.heap[b25]? = some (.cells xs 37 (0, 0)) := (m6.keep b25 (lt_of_get h25) fun hm => by have := hsub6 b25 hm; omega).trans h25
      have h4' : w6.heap[b4]? = some (.cells z5 37 (0, 0)) := (m6.keep b4 (lt_of_get h4) fun hm => by have := hsub6 b4 hm; omega).trans h4
      rw [hxs] at h25'
      obtain ⟨x0, x1, x2, x3, x4⟩ := fx_cell h25'
      refine ⟨_, _, _, _, _, ⟨x0, x1, x2, x3, x4⟩, ?_⟩
      refine st_whole h4' (by rw [hz5]; rfl) fun w7 hw7 h7 => ?_
      have h7' : w7.heap[b4]? = some (.cells (fxc (ob q) ((plc t q).length - 1)).toArray 37 (0, 0)) := h7
      obtain ⟨y0, y1, y2, y3, y4⟩ := fx_cell h7'
      refine ⟨_, _, _, _, _, ⟨y0, y1, y2, y3, y4⟩, ?_⟩
      have hF6' : ∀ b ∈ F6, b ∈ r :: (R ++ Dd) ∨ w.heap.size ≤ b := fun b hb => by
        rcases hF6 b hb with h | h | h
        · exact .inl h
        · exact .inr (hGb b h)
        · exact .inr (Nat.le_trans s5.mod.size h)
      refine h1 q w7 F6 hn (h6.keep fun b hb => ?_) hF6' ?_
      · rw [hw7, upd_ne]
        rintro rfl
        rcases hF6 b4 hb with h | h | h
        · have := hFlt b4 h; omega
        · exact hb4G h
        · have := lt_of_get h4; omega
      · rw [hw7]
        refine Mod.upd ?_ (.inr hb4w) _
        refine (s5.mod.of0).trans' (m6.mono fun b hb => ?_)
        rcases List.mem_cons.1 hb with rfl | hb
        · simp
        · simp [hb]

theorem gone18_len (t : Tb) (pid : Int) (n : Nat) : (gone18 t pid n).length = t.length := by
  induction n with
  | zero => rfl
  | succ n ih =>
    rw [gone18_succ]
    unfold goneT
    cases nam (gone18 t pid n) pid n with
    | none => exact ih
    | some q => simp only [List.length_set]; exact ih

theorem rgone_run (h : RefP w r (can t ob) F) (ht : t.length = 48) (pid : Int) {K : Value → World → Prop}
    (hK : ∀ A C w' G F', SlB w' A (goneL t ob pid 6).length C 5 (rows fxR (goneL t ob pid 6)) G → Beyond w.heap.size G → (∀ b ∈ G, b ∉ F') → RefP w' r (can (gone18 t pid 6) ob) F' → (∀ b ∈ F', b ∈ F ∨ w.heap.size ≤ b) → Mod F w w' → K (.slice A (goneL t ob pid 6).length C) w') :
    CallsR Try.prog F_janusref18_Fds_Gone #[.pointer (some ⟨r, 0, none⟩), .int .i64 pid] w K := by
  apply R_janusref18_Fds_Gone_ok
  simp only [R_janusref18_Fds_Gone, spl_decide, spl_beq]
  have hold := h.lt
  refine ⟨fun m A L C i w' => ∃ (k : Nat) (G F' : List Nat), i = k ∧ k ≤ 6 ∧ m = 6 - k ∧ SlB w' A L C 5 (rows fxR (goneL t ob pid k)) G ∧ Beyond w.heap.size G ∧ (∀ b ∈ G, b ∉ F') ∧ RefP w' r (can (gone18 t pid k) ob) F' ∧ (∀ b ∈ F', b ∈ F ∨ w.heap.size ≤ b) ∧ Mod F w w',
    ⟨6, 0, [], F, rfl, by omega, by omega, SlB.nil w 5, (by intro x hx; cases hx), (by intro x hx; cases hx), h, fun b hb => .inl hb, Mod.refl _ _⟩, ?_⟩
  rintro m A L C i - w1 ⟨k, G, F1, rfl, hk, rfl, hs1, hG1, hGF1, h1, hF1, m1⟩
  have hlen : (gone18 t pid k).length = 48 := by rw [gone18_len, ht]
  have hcount : (goneL t ob pid k).length = L := hs1.count fxR_len (by decide)
  have hll := goneL_len t ob pid k
  refine ⟨fun hlt => ?_, fun hge => ?_⟩
  · refine ⟨fun A L C w2 => ∃ G F' : List Nat, SlB w2 A L C 5 (rows fxR (goneL t ob pid (k + 1))) G ∧ Beyond w.heap.size G ∧ (∀ b ∈ G, b ∉ F') ∧ RefP w2 r (can (gone18 t pid (k + 1)) ob) F' ∧ (∀ b ∈ F', b ∈ F ∨ w.heap.size ≤ b) ∧ Mod F w w2,
      fun A L C _ w2 ⟨G, F', hj⟩ => ⟨6 - (k + 1), by omega, k + 1, G, F', by rw [w64 (by omega) (by omega)]; omega, by omega, rfl, hj⟩, ?_⟩
    have eN := fun h => goneL_none (t := t) ob (pid := pid) (n := k) h
    have eS := fun q h => goneL_some (t := t) ob (pid := pid) (n := k) (q := q) h
    rw [gone18_succ]
    obtain ⟨tk, htk⟩ : ∃ tk, tk = gone18 t pid k := ⟨_, rfl⟩
    rw [← htk] at h1 hlen eN eS ⊢
    refine rclose_run h1 hlen pid k (fun w2 hn m2 => ?_) (fun q w2 F2 hn h2 hF2 m2 => ?_)
    · refine ⟨_, _, _, _, _, _, rfl, ?_⟩
      refine (Den.Sep.nil (Mod.refl [] w2)).new fun b w3 s3 m3 hb => ?_
      refine s3.st0 0 rfl rfl fun w4 s4 m4 => ⟨fun h => absurd h (by decide), fun _ => ?_⟩
      have m24 : Mod [] w1 w4 := m2.trans' s4.mod
      rw [eN hn, goneT_none hn]
      exact ⟨G, F1, hs1.keep (m24.at0 hs1.lt), hG1, hGF1, h1.mod m24, hF1, m1.trans' m24.of0⟩
    · refine ⟨_, _, _, _, _, _, rfl, ?_⟩
      refine (Den.Sep.nil (Mod.refl [] w2)).new fun b w3 s3 m3 hb => ?_
      refine s3.st0 0 rfl rfl fun w4 s4 m4 => ⟨fun _ => ?_, fun h => absurd rfl h⟩
      refine ⟨_, _, _, _, _, ⟨s4.cell 0 rfl rfl, s4.cell 0 rfl rfl, s4.cell 0 rfl rfl, s4.cell 0 rfl rfl, s4.cell 0 rfl rfl⟩, ?_⟩
      rw [newK_eq]
      have hs2 : SlB w2 A L C 5 (rows fxR (goneL t ob pid k)) G := hs1.mod m2 hGF1
      have hs4 := hs2.keep (s4.mod.at0 hs2.lt)
      have h4 := h2.mod s4.mod
      have hF2' : ∀ b ∈ F2, b ∈ F ∨ w.heap.size ≤ b := fun b hb => by
        rcases hF2 b hb with h | h
        · exact hF1 b h
        · exact .inr (Nat.le_trans m1.size h)
      have m4' : Mod F w w4 := (m1.trans m2 fun b hb hlt => (hF1 b hb).resolve_right (by omega)).trans' s4.mod.of0
      have hGF2 : ∀ b ∈ G, b ∉ F2 := fun b hb hbF => by
        rcases hF2 b hbF with h | h
        · exact hGF1 b hb h
        · have := hs1.lt b hb; omega
      refine grow_K slT_api_File (by decide) hs4 (us := fxR (ob q, (plc tk q).length - 1)) (n := 1) rfl (by intro u hu; simp [fxR, fxc] at hu; rcases hu with rfl | rfl | rfl | rfl | rfl <;> rfl) (by omega) (by omega) fun A' C' w5 G' hs5 m5 o5 => ⟨_, _, _, rfl, ?_⟩
      rw [eS q hn, goneT_some hn]
      have hG' : Beyond w.heap.size G' := hG1.own o5 m4'.size
      refine ⟨G', F2, ?_, hG', fun b hb hbF => ?_, h4.keep fun b hb => m5.keep b (h4.lt b hb) fun hbG => hGF2 b hbG hb, hF2', m4'.trans m5 fun b hb hlt => ?_⟩
      · rw [rows_app, rows_one]
        exact hs5
      · rcases o5 b hb with h | h
        · exact hGF2 b h hbF
        · have := h4.lt b hbF; omega
      · have := hG1 b hb; omega
  · obtain rfl : k = 6 := by omega
    subst hcount
    exact hK A C w1 G F1 hs1 hG1 hGF1 h1 hF1 m1

end

end Go.Proofs

set_option linter.unusedSimpArgs false
namespace Go.Proofs
open Go Go.Den

section
variable {w : World} {r : Nat} {F : List Nat} {t : Tb} {ob : Nat → FX}

theorem ropen_run (h : RefP w r (can t ob) F) (ht : t.length = 48) (pid : Int) (x : FX) (rr : Int) (b : Nat) (hb : b ∉ dd t) {K : Value → World → Prop} (h0 : ∀ w', ¬ (1 ≤ pid ∧ pid ≤ 8) → Mod [] w w' → K (.tuple #[.int .i64 0, .int .i64 9]) w')
    (h1 : ∀ w', 1 ≤ pid → pid ≤ 8 → free18 t pid = none ∨ 32 ≤ (dd t).length → Mod [] w w' → K (.tuple #[.int .i64 0, .int .i64 24]) w')
    (h2 : ∀ (n : Nat) w' F', 1 ≤ pid → pid ≤ 8 → free18 t pid = some n → (dd t).length < 32 → RefP w' r (can (t.set (pl pid n) (some b)) (upO ob b x)) F' → (∀ b ∈ F', b ∈ F ∨ w.heap.size ≤ b) → Mod F w w' → K (.tuple #[.int .i64 (n : Int), .int .i64 0]) w') :
    CallsR Try.prog F_janusref18_Fds_Open #[.pointer (some ⟨r, 0, none⟩), .int .i64 pid, .agg (fxc x rr).toArray] w K := by
  apply R_janusref18_Fds_Open_ok
  simp only [R_janusref18_Fds_Open, nilK_some]
  refine (Den.Sep.nil (Den.Mod.refl [] w)).new fun b8 w1 s1 m1 hb8 => ?_
  refine rpid_run pid ⟨_, rfl, ?_⟩
  simp only [spl_decide]
  refine ⟨fun ⟨hp1, hp2⟩ => ?_, fun hp => h0 w1 hp m1⟩
  have hh1 := h.mod m1
  refine rfree_q hh1 ht pid (fun hf => ⟨_, rfl, fun _ => h1 w1 hp1 hp2 (.inl hf) m1, fun h => absurd (by decide) h⟩) (fun n hf => ⟨_, rfl, fun h => absurd h (by omega), fun _ => ?_⟩)
  obtain ⟨A9, C9, hc9⟩ := hh1.cnt
  refine ⟨_, _, _, hc9, fun hge => h1 w1 hp1 hp2 (.inr (by omega)) m1, fun hlt => ?_⟩
  have h32 : (dd t).length < 32 := by omega
  clear hc9 A9 C9
  obtain ⟨ho, hg0, -⟩ := free_none ht hp1 hp2 hf
  obtain ⟨k0, hk0⟩ : ∃ k0, k0 = pl pid n := ⟨_, rfl⟩
  have hk48 : k0 < 48 := by rw [hk0]; exact pl_lt ho
  obtain ⟨q1, q2⟩ := (pl_inj hk48).2 ⟨ho, hk0.symm⟩
  rw [← hk0] at hg0
  have h2' := h2 n
  rw [← hk0] at h2'
  obtain ⟨g, R, Dd, hh, hgm, rfl⟩ := h.open18
  have hFlt := hh.ltF
  obtain ⟨T, A, C, hr, hs⟩ := hh.hd
  rw [List.length_map] at hr hs
  obtain ⟨nE, hnE⟩ : ∃ nE : Nat → E18 × Hd, ∀ bd, nE bd = (⟨x, rr, [k0]⟩, (some ⟨bd, 0, none⟩, 1)) := ⟨_, fun _ => rfl⟩
  obtain ⟨g', hg'⟩ : ∃ g' : Nat → Nat → E18 × Hd, ∀ bd y, g' bd y = if y = b then nE bd else g y := ⟨_, fun _ _ => rfl⟩
  have hg'b : ∀ bd, g' bd b = nE bd := fun bd => by rw [hg', if_pos rfl]
  have hg'd : ∀ bd, (dd t).map (g' bd) = (dd t).map g := fun bd => List.map_congr_left fun y hy => by
    rw [hg', if_neg]
    rintro rfl
    exact hb hy
  have hplb : plc (t.set k0 (some b)) b = [k0] := by
    have e0 : plc t b = [] := plc_nil hb
    have := plc_set_q (t := t) (k := k0) (q := b) hg0 (j := 0) (by omega) (fun i x hi => by omega) (fun x hx => by rw [e0] at hx; cases hx)
    rw [this, e0]
    rfl
  refine ⟨fun w' => ∃ (bd : Nat) (R' Dd' : List Nat), RawP w' r ((dd t ++ [b]).map (g' bd)) R' Dd' ∧ (∀ y ∈ r :: (R' ++ Dd'), y ∈ r :: (R ++ Dd) ∨ w.heap.size ≤ y) ∧ Mod [r] w w', ?_, ?_⟩
  · rintro - w2 ⟨bd, R', Dd', h3, hF3, m3⟩
    refine rsort_run (t := t.set k0 (some b)) (ob := upO ob b x) h3 (by simpa using ht) (fun y hy => ?_) ?_ (fun y hy => ?_) (by simp; omega) fun w' F' h' hF' m' => ⟨rfl, h2' w' F' hp1 hp2 hf h32 h' (fun y hy => ?_) ?_⟩
    · by_cases hyb : y = b
      · subst hyb
        rw [hg'b, hnE, hplb]
        exact ⟨by simp [upO], rfl⟩
      · have hyd : y ∈ dd t := by
          rcases List.mem_append.1 hy with h | h
          · exact h
          · simp only [List.mem_singleton] at h; exact absurd h hyb
        rw [hg', if_neg hyb, hgm y hyd]
        refine ⟨?_, (plc_set_ne hg0 hyb).symm⟩
        simp only [mk18, upO, if_neg (Ne.symm hyb)]
    · rw [List.nodup_append]
      exact ⟨dd_nodup t, by simp, fun a ha c hc e => by simp only [List.mem_singleton] at hc; subst hc; subst e; exact hb ha⟩
    · rcases (mem_dd_add hg0).1 hy with h | h
      · simp [h]
      · simp [h]
    · rcases hF' y hy with h | h
      · exact hF3 y h
      · exact .inr (Nat.le_trans m3.size h)
    · exact (m3.trans' m').mono (by simp)
  have fin : ∀ {w' : World} {A' : Option Addr} {C' : Nat} {G : List Nat} {bd : Nat} {Td : TypeId} {J : World → Prop}, Mod [] w w' → SlB w' A' ((dd t).length + 1) C' 6 (rows e6 ((dd t).map g) ++ e6 (nE bd)) G → Beyond w.heap.size G → w'.heap[bd]? = some (.cells (pr2 k0).toArray Td (0, 0)) → w.heap.size ≤ bd → bd ∉ G →
      (∀ w2 R' Dd', RawP w2 r ((dd t ++ [b]).map (g' bd)) R' Dd' → (∀ y ∈ r :: (R' ++ Dd'), y ∈ r :: (R ++ Dd) ∨ w.heap.size ≤ y) → Mod [r] w w2 → J w2) → stK ⟨r, 0, none⟩ [.slice A' ((dd t).length + 1) C'] w' J := by
    intro w' A' C' G bd Td J m' hs' hG' hbd hbdw hbdG hJ
    have hr' := m'.get hr (by simp)
    refine st_whole hr' rfl fun w2 hw2 hr2 => ?_
    have hrG : r ∉ G := fun hm => by have := hG' r hm; have := hFlt r (by simp); omega
    have hrbd : r ≠ bd := fun e => by have := hFlt r (by simp); omega
    have mr : Mod [r] w' w2 := by rw [hw2]; exact (Mod.refl _ _).upd (.inl (by simp)) _
    have hkeep : ∀ y, y ≠ r → w2.heap[y]? = w'.heap[y]? := fun y hy => by rw [hw2, upd_ne _ (Ne.symm hy)]
    have e : (dd t ++ [b]).map (g' bd) = (dd t).map g ++ [nE bd] := by rw [List.map_append, hg'd, List.map_singleton, hg'b]
    have hm2 : Mod [r] w w2 := m'.of0.trans' mr
    refine hJ w2 G (bd :: Dd) ⟨⟨T, A', C', ?_, ?_⟩, fun z hz => ?_, fun y hy hyD => ?_, fun y hy => ?_, hrG, fun hm => ?_⟩ (fun y hy => ?_) hm2
    · rw [List.length_map, List.length_append]
      exact hr2
    · rw [List.length_map, List.length_append, e, rows_app, rows_one]
      exact hs'.keep fun y hy => hkeep y fun e => hrG (e ▸ hy)
    · rw [e] at hz
      rcases List.mem_append.1 hz with hz | hz
      · exact ((hh.d z hz).keep fun y hy => (hm2.keep y (hh.lt y hy) (by simp only [List.mem_singleton]; rintro rfl; exact hh.rD hy))).more fun y hy => by simp [hy]
      · simp only [List.mem_singleton] at hz
        subst hz
        rw [hnE]
        have hd := SlB.of (l := 1) (sz := 2) ((hkeep bd (Ne.symm hrbd)).trans hbd) rfl
        refine ⟨Nat.le_refl _, by simp, fun k hk => ?_, [bd], ?_, fun y hy => by simp only [List.mem_singleton] at hy; simp [hy]⟩
        · simp only [List.mem_singleton] at hk
          omega
        · have := hd.rd
          rwa [← rows_one (f := pr2)] at this
    · rcases List.mem_cons.1 hyD with h | h
      · exact hbdG (h ▸ hy)
      · have := hG' y hy; have := hh.lt y h; omega
    · rcases List.mem_cons.1 hy with h | h
      · rw [h]; exact lt_of_get ((hkeep bd (Ne.symm hrbd)).trans hbd)
      · exact Nat.lt_of_lt_of_le (hh.lt y h) hm2.size
    · rcases List.mem_cons.1 hm with h | h
      · exact hrbd h
      · exact hh.rD h
    · rcases List.mem_cons.1 hy with h | h
      · left; simp [h]
      · rcases List.mem_append.1 h with h | h
        · right; exact hG' y h
        · rcases List.mem_cons.1 h with h | h
          · right; rw [h]; exact hbdw
          · left; simp [h]
  rw [drK_eq]
  have s2 := s1.mod0 ((Mod.refl [] w1).drew)
  generalize w1.drew = w2 at s2 ⊢
  have m2 := s2.mod
  have hr2 := m2.get hr (by simp)
  have hs2 := hs.keep (m2.at0 hs.lt)
  have hrlt2 : r < w2.heap.size := lt_of_get hr2
  have hb8lt : b8 < w2.heap.size := lt_of_get (s2.nth 0 rfl : w2.heap[b8]? = some _)
  have hB : ∀ y ∈ [r, b8], y < w2.heap.size := fun y hy => by
    simp only [List.mem_cons, List.not_mem_nil, or_false] at hy
    rcases hy with rfl | rfl
    · exact hrlt2
    · exact hb8lt
  have hc2 : w2.cell? ⟨r, 0, none⟩ = some (.slice A (dd t).length C) := by rw [cell_get hr2]; rfl
  have hle := hs.le
  clear h0 h1 h2 h2'
  rw [← q1, ← q2]
  refine ⟨[r, b8], by simp, _, _, _, hc2, by simp, _, _, _, _, _, ⟨s2.cell 0 rfl rfl, s2.cell 0 rfl rfl, s2.cell 0 rfl rfl, s2.cell 0 rfl rfl, s2.cell 0 rfl rfl⟩, ?_, ?_⟩
  · refine push_rd_K (w0 := w) slT_janusref18_F (by decide) (SlB.nil w2 6) (by intro x hx; cases hx) m2 hs2.rd (rows_cell e6_cell _) (by omega) (by omega) fun A3 C3 w3 G3 hs3 hG3 m3 n3 o3 => ⟨_, _, _, rfl, n3.at0 hB, ?_⟩
    rw [newK_eq]
    refine ⟨(n3.alloc _).at0 hB, ?_⟩
    rw [newK_eq]
    refine ⟨((n3.alloc _).alloc _).at0 hB, ?_⟩
    obtain ⟨w4, hw4⟩ : ∃ w4, w4 = w3.alloc (.cells #[.int .i64 (((k0 / 6 : Nat) : Int) + 1), .int .i64 ((k0 % 6 : Nat) : Int)] 81) := ⟨_, rfl⟩
    have hbd4 : w4.heap[w3.heap.size]? = some (.cells (pr2 k0).toArray 81 (0, 0)) := by rw [hw4]; exact alloc_new w3 _
    have hs4 := hs3.alloc (.cells #[.int .i64 (((k0 / 6 : Nat) : Int) + 1), .int .i64 ((k0 % 6 : Nat) : Int)] 81)
    have m4 := m3.alloc (.cells #[.int .i64 (((k0 / 6 : Nat) : Int) + 1), .int .i64 ((k0 % 6 : Nat) : Int)] 81)
    rw [← hw4] at hs4 m4 ⊢
    have hbd5 := (alloc_old (w := w4) (.cells (e6 (nE w3.heap.size)).toArray 80) (lt_of_get hbd4)).trans hbd4
    have hs5 := hs4.alloc (.cells (e6 (nE w3.heap.size)).toArray 80)
    have hnew := SlB.new w4 (e6 (nE w3.heap.size)) 80 (l := 1) (sz := 6) rfl
    have m5 := m4.alloc (.cells (e6 (nE w3.heap.size)).toArray 80)
    have e5 : (Obj.cells #[Value.int .i64 x.k, .int .i64 x.i, .int .i64 x.o, .bool x.a, .int .i64 rr, .slice (some ⟨w3.heap.size, 0, none⟩) 1 1] 80 (0, 0)) = .cells (e6 (nE w3.heap.size)).toArray 80 (0, 0) := by rw [hnE]; rfl
    rw [e5]
    have hbdG : w3.heap.size ∉ G3 := fun hm => by have := hs3.lt _ hm; omega
    refine push_rd_K (w0 := w) slT_janusref18_F (by decide) hs5 hG3 m5 hnew.rd (e6_cell _) (by omega) (by omega) fun A6 C6 w6 G6 hs6 hG6 m6 n6 o6 => ⟨_, _, _, rfl, ?_⟩
    rw [List.nil_append] at hs6
    rw [Nat.zero_add] at hs6 ⊢
    refine fin m6 hs6 hG6 ((n6.keep _ (lt_of_get hbd5) hbdG).trans hbd5) m3.size (fun hm => ?_) fun w2 R' Dd' a1 a2 a3 => ⟨_, R', Dd', a1, a2, a3⟩
    rcases o6 _ hm with h | h
    · exact hbdG h
    · have := lt_of_get hbd5; omega
  · rw [newK_eq]
    obtain ⟨w4, hw4⟩ : ∃ w4, w4 = w2.alloc (.cells #[.int .i64 (((k0 / 6 : Nat) : Int) + 1), .int .i64 ((k0 % 6 : Nat) : Int)] 81) := ⟨_, rfl⟩
    have hbd4 : w4.heap[w2.heap.size]? = some (.cells (pr2 k0).toArray 81 (0, 0)) := by rw [hw4]; exact alloc_new w2 _
    have n4 : Mod [] w2 w4 := by rw [hw4]; exact (Mod.refl [] w2).alloc _
    have m4 := m2.trans' n4
    have hs4 := hs2.keep (n4.at0 hs2.lt)
    have e5 : ∀ bd, (Obj.cells #[Value.int .i64 x.k, .int .i64 x.i, .int .i64 x.o, .bool x.a, .int .i64 rr, .slice (some ⟨bd, 0, none⟩) 1 1] 80 (0, 0)) = .cells (e6 (nE bd)).toArray 80 (0, 0) := fun bd => by rw [hnE]; rfl
    rw [← hw4]
    refine ⟨n4.at0 hB, ?_, ?_⟩
    · refine push_rd_K (w0 := w) slT_janusref18_F (by decide) (SlB.nil w4 6) (by intro x hx; cases hx) m4 hs4.rd (rows_cell e6_cell _) (by omega) (by omega) fun A3 C3 w3 G3 hs3 hG3 m3 n3 o3 => ⟨_, _, _, rfl, (n4.trans' n3).at0 hB, ?_⟩
      rw [newK_eq, e5]
      refine ⟨((n4.trans' n3).alloc _).at0 hB, ?_⟩
      have hbd3 := (n3.keep _ (lt_of_get hbd4) (by simp)).trans hbd4
      have hbdG : w2.heap.size ∉ G3 := fun hm => by
        rcases o3 _ hm with h | h
        · cases h
        · have := lt_of_get hbd4; omega
      have hbd5 := (alloc_old (w := w3) (.cells (e6 (nE w2.heap.size)).toArray 80) (lt_of_get hbd3)).trans hbd3
      have hs5 := hs3.alloc (.cells (e6 (nE w2.heap.size)).toArray 80)
      have hnew := SlB.new w3 (e6 (nE w2.heap.size)) 80 (l := 1) (sz := 6) rfl
      have m5 := m3.alloc (.cells (e6 (nE w2.heap.size)).toArray 80)
      refine push_rd_K (w0 := w) slT_janusref18_F (by decide) hs5 hG3 m5 hnew.rd (e6_cell _) (by omega) (by omega) fun A6 C6 w6 G6 hs6 hG6 m6 n6 o6 => ⟨_, _, _, rfl, ?_⟩
      rw [List.nil_append] at hs6
      rw [Nat.zero_add] at hs6 ⊢
      refine fin m6 hs6 hG6 ((n6.keep _ (lt_of_get hbd5) hbdG).trans hbd5) m2.size (fun hm => ?_) fun w2 R' Dd' a1 a2 a3 => ⟨_, R', Dd', a1, a2, a3⟩
      rcases o6 _ hm with h | h
      · exact hbdG h
      · have := lt_of_get hbd5; omega
    · rw [newK_eq, e5]
      have n5 := n4.alloc (.cells (e6 (nE w2.heap.size)).toArray 80)
      refine ⟨n5.at0 hB, ?_⟩
      have m5 := m4.alloc (.cells (e6 (nE w2.heap.size)).toArray 80)
      have hs5 := hs4.alloc (.cells (e6 (nE w2.heap.size)).toArray 80)
      have hnew := SlB.new w4 (e6 (nE w2.heap.size)) 80 (l := 1) (sz := 6) rfl
      have hbd5 := (alloc_old (w := w4) (.cells (e6 (nE w2.heap.size)).toArray 80) (lt_of_get hbd4)).trans hbd4
      obtain ⟨b9, hb9⟩ : ∃ b9, b9 = w4.heap.size := ⟨_, rfl⟩
      rw [← hb9] at hnew ⊢
      generalize w4.alloc (.cells (e6 (nE w2.heap.size)).toArray 80) = w5 at n5 m5 hs5 hnew hbd5 ⊢
      refine push_rd_K (w0 := w) slT_janusref18_F (by decide) (SlB.nil w5 6) (by intro x hx; cases hx) m5 hs5.rd (rows_cell e6_cell _) (by omega) (by omega) fun A3 C3 w3 G3 hs3 hG3 m3 n3 o3 => ⟨_, _, _, rfl, (n5.trans' n3).at0 hB, ?_⟩
      have hbd3 := (n3.keep _ (lt_of_get hbd5) (by simp)).trans hbd5
      have hnew3 := hnew.keep (n3.at0 hnew.lt)
      have hbdG : w2.heap.size ∉ G3 := fun hm => by
        rcases o3 _ hm with h | h
        · cases h
        · have := lt_of_get hbd5; omega
      refine push_rd_K (w0 := w) slT_janusref18_F (by decide) hs3 hG3 m3 hnew3.rd (e6_cell _) (by omega) (by omega) fun A6 C6 w6 G6 hs6 hG6 m6 n6 o6 => ⟨_, _, _, rfl, ?_⟩
      rw [List.nil_append] at hs6
      rw [Nat.zero_add] at hs6 ⊢
      refine fin m6 hs6 hG6 ((n6.keep _ (lt_of_get hbd3) hbdG).trans hbd3) m2.size (fun hm => ?_) fun w2 R' Dd' a1 a2 a3 => ⟨_, R', Dd', a1, a2, a3⟩
      rcases o6 _ hm with h | h
      · exact hbdG h
      · have := lt_of_get hbd3; omega

end

end Go.Proofs

set_option linter.unusedSimpArgs false
namespace Go.Proofs
open Go Go.Den

theorem nam_atT' {t : Tb} {q k : Nat} (hq : q < 8) (hk : k < 6) : nam t ((q : Int) + 1) k = atT t (q * 6 + k) := by
  have ho : okPF ((q : Int) + 1) k := ⟨by omega, by omega, by omega, by omega⟩
  have hpl : pl ((q : Int) + 1) k = q * 6 + k := by unfold pl plN; omega
  unfold nam atT
  rw [if_pos ho, hpl]
theorem rbit_run {w : World} (b : Bool) {K : Value → World → Prop} (hK : K (.int .u64 (bit18 b)) w) : CallsR Try.prog F_janusref18_bit #[.bool b] w K := by
  apply R_janusref18_bit_ok
  simp only [R_janusref18_bit]
  refine spl_of (fun h => ?_) (fun h => ?_)
  · subst h; exact hK
  · subst h; exact hK

section
variable {w : World} {r : Nat} {F : List Nat} {t : Tb} {ob : Nat → FX}

theorem rencode_run (h : RefP w r (can t ob) F) (hlen : t.length = 48) {K : Value → World → Prop} (hK : ∀ A C w', WdB w w' A (enc18 t ob).length C (enc18 t ob) → K (.slice A (enc18 t ob).length C) w') : CallsR Try.prog F_janusref18_Fds_Encode #[.pointer (some ⟨r, 0, none⟩)] w K := by
  apply R_janusref18_Fds_Encode_ok
  simp only [R_janusref18_Fds_Encode, nilK_some]
  have hdl := dd_len t
  obtain ⟨A0, C0, hc0⟩ := h.cnt
  refine ⟨_, _, _, hc0, ?_⟩
  rw [newK_eq]
  have hw2 : WdB w (w.alloc (.cells #[.int .u64 (IntKind.u64.wrap ((dd t).length : Int))] 67)) (some ⟨w.heap.size, 0, none⟩) 1 1 [((dd t).length : Int)] := by
    rw [wu64 (by omega) (by omega)]
    exact ⟨[w.heap.size], SlB.new w (u64s [((dd t).length : Int)]) 67 (l := 1) (sz := 1) rfl, (by intro x hx; simp only [List.mem_singleton] at hx; omega), (Mod.refl _ _).alloc _⟩
  refine ⟨fun m A L C i w' => ∃ k : Nat, i = k ∧ k ≤ (dd t).length ∧ m = (dd t).length - k ∧ WdB w w' A L C (((dd t).length : Int) :: (((dd t).take k).map fun q => fxw (ob q)).flatten), ⟨(dd t).length, 0, rfl, by omega, by omega, by simpa using hw2⟩, ?_⟩
  rintro m A L C i - w2 ⟨k, rfl, hk, rfl, hb⟩
  have hbl := hb.len
  rw [List.length_cons, flat4 _ (fun q => fxw_len (ob q)), List.length_take, Nat.min_eq_left hk] at hbl
  have m2 := hb.mod
  have h2 := h.mod m2
  obtain ⟨A1, C1, hc1⟩ := h2.cnt
  refine ⟨_, _, _, hc1, ?_⟩
  rw [spl_decide]
  refine ⟨fun hlt => ?_, fun hge => ?_⟩
  · have hkl : k < (dd t).length := by omega
    have hg : (dd t)[k]? = some (dd t)[k] := List.getElem?_eq_getElem hkl
    obtain ⟨q, hq⟩ : ∃ q, q = (dd t)[k] := ⟨_, rfl⟩
    rw [← hq] at hg
    obtain ⟨ad, C2, c, -, c0, c1, c2, c3, c4⟩ := h2.file hg
    refine ⟨_, _, _, c, ?_⟩
    simp only [nilK_some, Int.toNat_natCast]
    refine ⟨⟨by omega, by omega⟩, _, _, _, _, _, ⟨c0, c1, c2, c3, c4⟩, ?_⟩
    refine (Den.Sep.nil (Mod.refl [] w2)).new fun b3 w3 s3 m3 _ => s3.st0 0 rfl rfl fun w4 s4 m4 => ?_
    rw [drK_eq]
    have s5 := s4.mod0 ((Mod.refl [] w4).drew)
    have hb5 := hb.mod0 s5.mod
    generalize w4.drew = w5 at s5 hb5 ⊢
    refine ⟨[b3], by simp, _, s5.cell 0 rfl rfl, by simp, _, s5.cell 0 rfl rfl, by simp, _, s5.cell 0 rfl rfl, by simp, _, s5.cell 0 rfl rfl, ?_⟩
    refine rbit_run _ ⟨_, rfl, fun _ _ => rfl, ?_⟩
    rw [newK_eq]
    refine hb5.push (vs := fxw (ob q)) (n := 4) rfl (by omega) fun A' C' w6 hb6 => ⟨_, _, _, rfl, (dd t).length - (k + 1), by omega, k + 1, by rw [w64 (by omega) (by omega)]; omega, by omega, rfl, ?_⟩
    rw [List.take_succ_eq_append_getElem hkl, ← hq]
    simpa using hb6
  · obtain rfl : k = (dd t).length := by omega
    rw [List.take_length] at hb
    obtain ⟨pre, hpre⟩ : ∃ pre, pre = ((dd t).length : Int) :: (((dd t).map fun q => fxw (ob q)).flatten) := ⟨_, rfl⟩
    have hpl : pre.length = 1 + 4 * (dd t).length := by rw [hpre, List.length_cons, flat4 _ (fun q => fxw_len (ob q))]; omega
    have hfin : enc18 t ob = pre ++ (List.range (8 * 6)).map (idx18 t) := by rw [hpre]; simp [enc18]
    rw [← hpre] at hb
    refine ⟨fun m A L C p w' => ∃ k : Nat, p = (k : Int) + 1 ∧ k ≤ 8 ∧ m = 8 - k ∧ WdB w w' A L C (pre ++ (List.range (k * 6)).map (idx18 t)), ⟨8, 0, rfl, by omega, by omega, by simpa using hb⟩, ?_⟩
    clear hb hbl hc1 h2
    rintro m A L C p - w3 ⟨k, rfl, hk, rfl, hb⟩
    rw [spl_decide]
    refine ⟨fun hlt => ?_, fun hge => ?_⟩
    · refine ⟨fun m A L C i w' => ∃ j : Nat, i = j ∧ j ≤ 6 ∧ m = 6 - j ∧ WdB w w' A L C (pre ++ (List.range (k * 6 + j)).map (idx18 t)), ⟨6, 0, rfl, by omega, by omega, by simpa using hb⟩, ?_⟩
      clear hb
      rintro m A L C i - w5 ⟨j, rfl, hj, rfl, hb⟩
      have hbl := hb.len
      rw [List.length_append, List.length_map, List.length_range] at hbl
      rw [spl_decide]
      refine ⟨fun hlt => ?_, fun hge => ?_⟩
      · have hat := nam_atT' (t := t) (q := k) (k := j) (by omega) (by omega)
        have h5 := h.mod hb.mod
        have hib := idx_bound hlen (k * 6 + j)
        have step : ∀ v : Int, v = idx18 t (k * 6 + j) → newK w5 (.cells #[.int .u64 (IntKind.u64.wrap v)] 67) fun b68 w69 => runK ((Builtin.append_ #[22, 22] 22 #[.slice A L C, .slice (some ⟨b68, 0, none⟩) 1 1]).run Try.prog w69) fun v70 w71 => ∃ xA72 : Option Addr, ∃ xL73 : Nat, ∃ xC74 : Nat, v70 = .slice xA72 xL73 xC74 ∧ ∃ m64, m64 < 6 - j ∧ ∃ j' : Nat, IntKind.i64.wrap ((j : Int) + 1) = j' ∧ j' ≤ 6 ∧ m64 = 6 - j' ∧ WdB w w71 xA72 xL73 xC74 (pre ++ (List.range (k * 6 + j')).map (idx18 t)) := by
          rintro v rfl
          rw [newK_eq, wu64 (by omega) (by omega)]
          refine hb.push (vs := [idx18 t (k * 6 + j)]) (n := 1) rfl (by omega) fun A' C' w6 hb6 => ⟨_, _, _, rfl, 6 - (j + 1), by omega, j + 1, by rw [w64 (by omega) (by omega)]; omega, by omega, rfl, ?_⟩
          rw [← Nat.add_assoc, List.range_succ, List.map_append, ← List.append_assoc]
          exact hb6
        refine rat_q h5 hlen _ _ (fun hn => ⟨_, rfl, step _ ?_⟩) (fun q i hn hi hil => ⟨_, rfl, step _ ?_⟩)
        · unfold idx18
          rw [hat] at hn
          rw [show (t[k * 6 + j]?).getD none = none from hn]
          show IntKind.i64.wrap (-1 + 1) = 0
          decide
        · unfold idx18
          rw [hat] at hn
          rw [show (t[k * 6 + j]?).getD none = some q from hn]
          have e : (dd t).idxOf q = i := by
            have := (List.getElem?_eq_some_iff.1 hi).2
            rw [← this]
            exact (dd_nodup t).idxOf_getElem i hil
          simp only [e]
          rw [w64 (by omega) (by omega)]
      · obtain rfl : j = 6 := by omega
        refine ⟨8 - (k + 1), by omega, k + 1, by rw [w64 (by omega) (by omega)]; omega, by omega, rfl, ?_⟩
        rw [Nat.succ_mul]
        exact hb
    · obtain rfl : k = 8 := by omega
      rw [← hfin] at hb
      have hbl := hb.len
      subst hbl
      exact hK A C w3 hb

end

end Go.Proofs
