/-
  Layer 3: contracts of the reference's disk; of 'Words' and 'Block'.
-/
import Derived.Test.YtihonlejlognhaaC03a
set_option linter.unusedSimpArgs false
namespace Go.Proofs
open Go Go.Den

/-- The slices 'hs' read as the rows 'bs', which lie in the blocks 'Fs'. -/
def Rows3 (w : World) (hs : List Value) (bs : List (List Int)) (Fs : List Nat) : Prop :=
  hs.length = bs.length ∧ ∀ (i : Nat) (b : List Int), bs[i]? = some b → ∃ (a : Option Addr) (c : Nat) (G : List Nat), hs[i]? = some (.slice a b.length c) ∧ SlB w a b.length c 1 (u64s b) G ∧ ∀ x ∈ G, x ∈ Fs

theorem Rows3.keep {w w' : World} {hs : List Value} {bs : List (List Int)} {Fs : List Nat} (h : Rows3 w hs bs Fs) (hk : ∀ b ∈ Fs, w'.heap[b]? = w.heap[b]?) : Rows3 w' hs bs Fs :=
  ⟨h.1, fun i b hb => by
    obtain ⟨a, c, G, h1, h2, h3⟩ := h.2 i b hb
    exact ⟨a, c, G, h1, h2.keep (fun x hx => hk x (h3 x hx)), h3⟩⟩
theorem Rows3.mono {w : World} {hs : List Value} {bs : List (List Int)} {Fs Fs' : List Nat} (h : Rows3 w hs bs Fs) (hk : ∀ b ∈ Fs, b ∈ Fs') : Rows3 w hs bs Fs' :=
  ⟨h.1, fun i b hb => by
    obtain ⟨a, c, G, h1, h2, h3⟩ := h.2 i b hb
    exact ⟨a, c, G, h1, h2, fun x hx => hk x (h3 x hx)⟩⟩
theorem Rows3.cells {w : World} {hs : List Value} {bs : List (List Int)} {Fs : List Nat} (h : Rows3 w hs bs Fs) : ∀ v ∈ hs, isCell v = true := by
  intro v hv
  obtain ⟨i, hi⟩ := List.mem_iff_getElem?.1 hv
  have hlt : i < bs.length := by rw [← h.1]; exact (List.getElem?_eq_some_iff.1 hi).1
  obtain ⟨a, c, G, h1, _⟩ := h.2 i bs[i] (by simp [hlt])
  rw [hi] at h1
  cases h1
  rfl
theorem Rows3.snoc {w : World} {hs : List Value} {bs : List (List Int)} {Fs : List Nat} (h : Rows3 w hs bs Fs) {a : Option Addr} {c : Nat} {b : List Int} {G : List Nat} (hb : SlB w a b.length c 1 (u64s b) G) :
    Rows3 w (hs ++ [.slice a b.length c]) (bs ++ [b]) (Fs ++ G) := by
  refine ⟨by simp [h.1], fun i b' hb' => ?_⟩
  by_cases hi : i < bs.length
  · rw [List.getElem?_append_left hi] at hb'
    obtain ⟨a, c, G, h1, h2, h3⟩ := h.2 i b' hb'
    exact ⟨a, c, G, by rw [List.getElem?_append_left (by rw [h.1]; exact hi)]; exact h1, h2, fun x hx => by simp [h3 x hx]⟩
  · rw [List.getElem?_append_right (by omega)] at hb'
    have h0 : i - bs.length = 0 := by
      have := (List.getElem?_eq_some_iff.1 hb').1
      simp at this
      omega
    rw [h0] at hb'
    simp at hb'
    subst hb'
    exact ⟨a, c, G, by rw [List.getElem?_append_right (by rw [h.1]; omega), h.1, h0]; simp, hb, fun x hx => by simp [hx]⟩
theorem Rows3.set {w : World} {hs : List Value} {bs : List (List Int)} {Fs : List Nat} (h : Rows3 w hs bs Fs) (k : Nat) {a : Option Addr} {c : Nat} {b : List Int} {G : List Nat} (hb : SlB w a b.length c 1 (u64s b) G) :
    Rows3 w (hs.set k (.slice a b.length c)) (bs.set k b) (Fs ++ G) := by
  refine ⟨by simp [h.1], fun i b' hb' => ?_⟩
  rw [List.getElem?_set] at hb' ⊢
  by_cases hi : k = i
  · rw [if_pos hi] at hb' ⊢
    by_cases hlt : k < bs.length
    · rw [if_pos hlt] at hb'
      cases hb'
      exact ⟨a, c, G, by rw [if_pos (by rw [h.1]; exact hlt)], hb, fun x hx => by simp [hx]⟩
    · rw [if_neg hlt] at hb'; cases hb'
  · rw [if_neg hi] at hb' ⊢
    obtain ⟨a, c, G, h1, h2, h3⟩ := h.2 i b' hb'
    exact ⟨a, c, G, h1, h2, fun x hx => by simp [h3 x hx]⟩

/-- The reference's disk at block 'p'. -/
def DiskR (w : World) (p : Nat) (bs : List (List Int)) (g u : Int) (F : List Nat) : Prop :=
  ∃ (T : TypeId) (a : Option Addr) (c : Nat) (R Fs : List Nat) (hs : List Value), w.heap[p]? = some (.cells #[.slice a bs.length c, .int .i64 g, .int .i64 u] T (0, 0)) ∧ SlB w a bs.length c 1 hs R ∧ Rows3 w hs bs Fs ∧
    p ∉ R ∧ p ∉ Fs ∧ (∀ x ∈ R, x ∉ Fs) ∧ F = p :: (R ++ Fs) ∧ (∀ b ∈ bs, b.length = 32) ∧ bs.length ≤ 1024 ∧ ∀ x ∈ Fs, x < w.heap.size

theorem DiskR.keep {w w' : World} {p : Nat} {bs : List (List Int)} {g u : Int} {F : List Nat} (h : DiskR w p bs g u F) (hk : ∀ b ∈ F, w'.heap[b]? = w.heap[b]?) (hsz : w.heap.size ≤ w'.heap.size) : DiskR w' p bs g u F := by
  obtain ⟨T, a, c, R, Fs, hs, h1, h2, h3, h4, h5, h6, rfl, h7, h8, h9⟩ := h
  exact ⟨T, a, c, R, Fs, hs, (hk p (by simp)).trans h1, h2.keep (fun b hb => hk b (by simp [hb])), h3.keep (fun b hb => hk b (by simp [hb])), h4, h5, h6, rfl, h7, h8, fun x hx => Nat.lt_of_lt_of_le (h9 x hx) hsz⟩
theorem DiskR.lt {w : World} {p : Nat} {bs : List (List Int)} {g u : Int} {F : List Nat} (h : DiskR w p bs g u F) : ∀ b ∈ F, b < w.heap.size := by
  obtain ⟨T, a, c, R, Fs, hs, h1, h2, h3, h4, h5, h6, rfl, h7, h8, h9⟩ := h
  intro b hb
  simp at hb
  rcases hb with rfl | hb | hb
  · exact lt_of_get h1
  · exact h2.lt b hb
  · exact h9 b hb

theorem ref_new (n : Int) (w : World) {K : Value → World → Prop} (h0 : n < 1 ∨ 1024 < n → K (.pointer none) w)
    (h1 : ∀ (k p : Nat) (F : List Nat) (w' : World), n = k → 1 ≤ k → k ≤ 1024 → DiskR w' p (List.replicate k (List.replicate 32 0)) 0 0 F → Mod [] w w' → (∀ b ∈ F, w.heap.size ≤ b) → K (.pointer (some ⟨p, 0, none⟩)) w') :
    CallsR Try.prog F_janusref03_New #[.int .i64 n] w K := by
  apply R_janusref03_New_ok
  simp only [R_janusref03_New, spl_decide]
  refine ⟨fun h => h0 (.inl h), fun hge => ⟨fun h => h0 (.inr h), fun hle => ?_⟩⟩
  obtain ⟨N, rfl⟩ := nat_of (by omega : 0 ≤ n)
  simp only [newK_eq]
  refine ⟨fun m i wi => ∃ (k : Nat) (F : List Nat), i = k ∧ k ≤ N ∧ m = N - k ∧ DiskR wi w.heap.size (List.replicate k (List.replicate 32 0)) 0 0 F ∧ Mod [] w wi ∧ (∀ b ∈ F, w.heap.size ≤ b), ⟨N, 0, [w.heap.size], rfl, by omega, rfl, ?_, (Mod.refl _ _).alloc _, by simp⟩, ?_⟩
  · exact ⟨_, none, 0, [], [], [], alloc_new _ _, SlB.nil _ 1, ⟨rfl, fun i b hb => by simp at hb⟩, by simp, by simp, by simp, rfl, by simp, by simp, by simp⟩
  · rintro m i _ wi ⟨k, F, rfl, hk, rfl, hd, hm, hF⟩
    refine ⟨fun hlt => ?_, fun hge' => ?_⟩
    · simp only [drK_eq]
      obtain ⟨T, a, c, R, Fs, hs, hp, hr, hrows, hpR, hpF, hRF, rfl, h32, hle', hFlt⟩ := hd
      simp only [List.length_replicate] at hp hr hle'
      refine ⟨[w.heap.size], by simp, a, k, c, by rw [World.cell?_drew, cell_get hp]; simp, ?_⟩
      obtain ⟨w1, hr1, hs1, hm1⟩ := makeSlice_run slT_u64 wi.drew (k := .i64) (k' := .i64) (l := 32) (c := 32) (Nat.le_refl _) (by omega) (by omega)
      refine ⟨_, _, hr1, _, _, _, rfl, fun b hb => ?_, ?_⟩
      · simp only [List.mem_singleton] at hb; subst hb; exact hm1.keep _ (lt_of_get hp) (by simp)
      have hp1 := hm1.get (b := w.heap.size) (by simpa using hp) (by simp)
      have hr2 := (hr.mod (S := []) ((Mod.refl _ wi).drew.trans' hm1) (by simp)).alloc (.cells #[.slice (some ⟨wi.drew.heap.size, 0, none⟩) 32 32] 29)
      have hx2 := SlB.new w1 [.slice (some ⟨wi.drew.heap.size, 0, none⟩) 32 32] 29 (l := 1) (sz := 1) rfl
      refine ⟨fun b hb => ?_, ?_⟩
      · simp at hb; subst hb; exact (alloc_get _ hp1).trans hp.symm
      obtain ⟨a3, c3, w3, R3, hr3, hs3, hm3, ho3⟩ := append_run slT_Sl_u64 (by decide) hr2 hx2 (by simp [isCell]) (by omega) (by omega) 45
      refine ⟨_, _, hr3, _, _, _, rfl, ?_⟩
      have hp3 := hm3.get (alloc_get _ hp1) hpR
      refine stK_of hp3 (by simp) ?_
      simp only [splice_cons, splice_nil]
      have hsz : wi.heap.size ≤ w1.heap.size := hm1.size
      have hm13 : Mod R wi w3 := (((Mod.refl R wi).drew.trans hm1 (by simp)).alloc _).trans hm3 (fun b hb _ => hb)
      have hw3 : w.heap.size < w3.heap.size := lt_of_get hp3
      refine ⟨N - (k + 1), by omega, k + 1, w.heap.size :: (R3 ++ (Fs ++ [wi.heap.size])), by rw [w64 (by omega) (by omega)]; omega, by omega, rfl, ?_, ?_, ?_⟩
      · have hgood : ∀ x ∈ R3, x ∈ R ∨ w1.heap.size < x := fun x hx => by
          rcases ho3 x hx with h | h
          · exact .inl h
          · rw [alloc_size] at h; right; omega
        have hb4 : SlB w3 (some ⟨wi.heap.size, 0, none⟩) 32 32 1 (u64s (List.replicate 32 0)) [wi.heap.size] := by
          have e : zrow (.int .u64 0) (32 * 1) = u64s (List.replicate 32 (0 : Int)) := by rw [zrow_one rfl]; simp [u64s]
          rw [e] at hs1
          refine (hs1.alloc _).mod hm3 ?_
          intro x hx; simp at hx; subst hx
          intro hx; exact Nat.lt_irrefl _ (hr.lt _ hx)
        have hrows3 : Rows3 w3 hs (List.replicate k (List.replicate 32 0)) Fs := hrows.keep fun b hb => hm13.keep b (hFlt b hb) (fun h => hRF b h hb)
        have hp5 : w.heap.size ∉ R3 := fun h => by
          rcases hgood _ h with h | h
          · exact hpR h
          · have := lt_of_get hp1; omega
        have upk : ∀ x, x ≠ w.heap.size → (w3.upd w.heap.size (.cells #[.slice a3 (k + 1) c3, .int .i64 0, .int .i64 0] T (0, 0))).heap[x]? = w3.heap[x]? := fun x hx => upd_ne _ (Ne.symm hx)
        refine ⟨T, a3, c3, R3, Fs ++ [wi.heap.size], hs ++ [.slice (some ⟨wi.heap.size, 0, none⟩) 32 32], ?_, ?_, ?_, hp5, ?_, ?_, rfl, ?_, by simp; omega, ?_⟩
        · rw [upd_same hp3]; simp
        · simp only [List.length_replicate]
          exact hs3.keep fun b hb => upk b (by rintro rfl; exact hp5 hb)
        · have := hrows3.snoc (b := List.replicate 32 (0 : Int)) (a := some ⟨wi.heap.size, 0, none⟩) (c := 32) (G := [wi.heap.size]) hb4
          rw [List.replicate_succ']
          refine this.keep fun b hb => upk b ?_
          simp at hb
          rintro rfl
          rcases hb with hb | hb
          · exact hpF hb
          · have := lt_of_get hp; omega
        · simp
          have := lt_of_get hp
          exact ⟨hpF, by omega⟩
        · intro x hx hm
          simp at hm
          rcases hgood x hx with h | h
          · rcases hm with hm | rfl
            · exact hRF x h hm
            · exact Nat.lt_irrefl _ (hr.lt _ h)
          · rcases hm with hm | rfl
            · have := hFlt x hm; omega
            · omega
        · intro b hb; rw [List.eq_of_mem_replicate hb]; simp
        · intro x hx
          rw [upd_size]
          have := hm13.size
          simp at hx
          rcases hx with hx | rfl
          · exact Nat.lt_of_lt_of_le (hFlt x hx) this
          · exact hb4.lt wi.heap.size (by simp)
      · refine ((hm.trans hm13 ?_).upd (.inr (Nat.le_refl _)) _)
        intro b hb hlt
        have := hF b (by simp [hb])
        omega
      · intro b hb
        simp at hb
        have hws := hm.size
        rcases hb with rfl | hb | hb | rfl
        · omega
        · rcases ho3 b hb with h | h
          · exact hF b (by simp [h])
          · rw [alloc_size] at h; omega
        · exact hF b (by simp [hb])
        · omega
    · have hkN : k = N := by omega
      subst hkN
      exact h1 k w.heap.size F wi rfl (by omega) (by omega) hd hm hF

theorem ref_put {w : World} {p : Nat} {bs : List (List Int)} {g u : Int} {F : List Nat} (h : DiskR w p bs g u F) (hu : 0 ≤ u ∧ u < 4611686018427387904) (block : Int) {a : Option Addr} {l c : Nat} {ws : List Int} {G : List Nat}
    (hw : SlB w a l c 1 (u64s ws) G) (hG : ∀ b ∈ G, b ∉ F) {K : Value → World → Prop} (h0 : block < 0 ∨ (bs.length : Int) ≤ block ∨ ws.length ≠ 32 → K (.int .i64 101) w)
    (h1 : ∀ (k : Nat) (w' : World) (F' : List Nat), block = k → k < bs.length → ws.length = 32 → DiskR w' p (bs.set k ws) g (u + 1) F' → Mod F w w' → Own w F F' → K (.int .i64 0) w') :
    CallsR Try.prog F_janusref03_Disk_Put #[.pointer (some ⟨p, 0, none⟩), .int .i64 block, .slice a l c] w K := by
  apply R_janusref03_Disk_Put_ok
  have hl : ws.length = l := by have := hw.length; simpa [u64s] using this
  obtain ⟨T, ar, cr, R, Fs, hs, hp, hr, hrows, hpR, hpF, hRF, rfl, h32, hle', hFlt⟩ := h
  simp only [R_janusref03_Disk_Put, spl_decide, spl_bne, nilK_some, addr_add, cell_get hp]
  refine ⟨fun h => h0 (.inl h), fun hge => ⟨_, _, _, rfl, fun h => h0 (.inr (.inl h)), fun hlt => ⟨fun h => h0 (.inr (.inr (by omega))), fun heq => ⟨_, rfl, ?_⟩⟩⟩⟩
  obtain ⟨k, rfl⟩ := nat_of (by omega : 0 ≤ block)
  have hk : k < bs.length := by omega
  have hl32 : l = 32 := by omega
  subst hl32
  refine stK_of hp (by simp) ?_
  rw [w64 (by omega) (by omega)]
  simp only [splice_cons, splice_nil, Nat.zero_add]
  generalize hw1 : w.upd p (.cells _ T (0, 0)) = w1
  have hp1 : w1.heap[p]? = some (.cells #[.slice ar bs.length cr, .int .i64 g, .int .i64 (u + 1)] T (0, 0)) := by rw [← hw1, upd_same hp]; simp
  have hk1 : ∀ x, x ≠ p → w1.heap[x]? = w.heap[x]? := fun x hx => by rw [← hw1]; exact upd_ne _ (Ne.symm hx)
  have hm1 : Mod (p :: (R ++ Fs)) w w1 := by rw [← hw1]; exact (Mod.refl _ _).upd (.inl (by simp)) _
  have hsz1 : w1.heap.size = w.heap.size := by rw [← hw1, upd_size]
  have hr1 : SlB w1 ar bs.length cr 1 hs R := hr.keep fun b hb => hk1 b (by rintro rfl; exact hpR hb)
  have hrows1 : Rows3 w1 hs bs Fs := hrows.keep fun b hb => hk1 b (by rintro rfl; exact hpF hb)
  have hww1 : SlB w1 a 32 c 1 (u64s ws) G := hw.keep fun b hb => hk1 b (by rintro rfl; exact hG _ hb (by simp))
  simp only [drK_eq]
  obtain ⟨b, o, har, hRb⟩ := hr.isNone (by omega)
  subst har; subst hRb
  refine ⟨[p], by simp, some ⟨b, o, none⟩, bs.length, cr, by rw [World.cell?_drew, cell_get hp1]; simp, ?_⟩
  have hd1 : SlB w1.drew a 32 c 1 (u64s ws) G := hww1.keep fun _ _ => rfl
  obtain ⟨a3, c3, w3, R3, hr3, hs3, hm3, ho3⟩ := append_run slT_u64 (by decide) (SlB.nil w1.drew 1) hd1 (u64s_cell ws) (by omega) (by omega) 29
  simp only [Nat.zero_add, List.nil_append] at hr3 hs3
  refine ⟨_, _, hr3, _, _, _, rfl, fun x hx => ?_, ?_⟩
  · simp only [List.mem_singleton] at hx; subst hx; exact hm3.keep _ (lt_of_get hp1) (by simp)
  simp only [nilK_some, addr_add]
  refine ⟨⟨by omega, by omega⟩, ?_⟩
  have hr3' : SlB w3 (some ⟨b, o, none⟩) bs.length cr 1 hs [b] := (hr1.keep (w' := w1.drew) fun _ _ => rfl).mod hm3 (by simp)
  obtain ⟨arr, T2, hbk, hcap, _⟩ := hr3'.block
  simp only [Int.toNat_natCast]
  have hlen : hs.length = bs.length := hrows.1
  refine stK_of hbk (by have := hr3'.le; simp; omega) ?_
  simp only [splice_cons, splice_nil]
  have hp3 := hm3.get (b := p) (by simpa using hp1) (by simp)
  have hpb : p ≠ b := by simpa using hpR
  have hR3 : ∀ x ∈ R3, w.heap.size ≤ x := fun x hx => by
    rcases ho3 x hx with h | h
    · simp at h
    · simp only [drew_heap, hsz1] at h; exact h
  have hsz3 : w.heap.size ≤ w3.heap.size := by have := hm3.size; simp only [drew_heap, hsz1] at this; exact this
  have hbR3 : b ∉ R3 := fun h => by have := hR3 b h; have := hr.lt b (by simp); omega
  refine h1 k _ (p :: ([b] ++ (Fs ++ R3))) rfl hk hl ?_ ?_ ?_
  · refine ⟨T, some ⟨b, o, none⟩, cr, [b], Fs ++ R3, hs.set k (.slice a3 32 c3), ?_, ?_, ?_, hpR, ?_, ?_, rfl, ?_, by simpa using hle', ?_⟩
    · rw [upd_ne _ (Ne.symm hpb)]; simpa using hp3
    · simpa using hr3'.set hbk (j := k) (by omega) (.slice a3 32 c3)
    · have h4 : Rows3 w3 hs bs Fs := (hrows1.keep (w' := w1.drew) fun _ _ => rfl).keep fun x hx => hm3.keep x (by simp only [drew_heap, hsz1]; exact hFlt x hx) (by simp)
      have h5 := h4.set k (b := ws) (a := a3) (c := c3) (G := R3) (by rw [hl]; exact hs3)
      rw [hl] at h5
      refine h5.keep fun x hx => upd_ne _ ?_
      rintro rfl
      simp at hx
      rcases hx with hx | hx
      · exact hRF _ (by simp) hx
      · exact hbR3 hx
    · simp
      exact ⟨hpF, fun h => by have := hR3 p h; have := lt_of_get hp; omega⟩
    · intro x hx
      simp at hx; subst hx
      simp
      exact ⟨hRF _ (by simp), hbR3⟩
    · intro x hx
      rcases List.mem_or_eq_of_mem_set hx with hx | rfl
      · exact h32 x hx
      · exact hl
    · intro x hx
      rw [upd_size]
      simp at hx
      rcases hx with hx | hx
      · exact Nat.lt_of_lt_of_le (hFlt x hx) hsz3
      · exact hs3.lt x hx
  · refine Mod.upd ?_ (.inl (by simp)) _
    exact (hm1.drew).trans hm3 (by simp)
  · intro x hx
    simp at hx
    rcases hx with rfl | rfl | hx | hx
    · left; simp
    · left; simp
    · left; simp [hx]
    · right; exact hR3 x hx

theorem ref_get {w : World} {p : Nat} {bs : List (List Int)} {g u : Int} {F : List Nat} (h : DiskR w p bs g u F) (hu : 0 ≤ g ∧ g < 4611686018427387904) (block : Int) {K : Value → World → Prop}
    (h0 : block < 0 ∨ (bs.length : Int) ≤ block → K (.tuple #[.slice none 0 0, .int .i64 101]) w)
    (h1 : ∀ (k : Nat) (b : List Int) (w' : World) (a : Option Addr) (c : Nat) (G : List Nat), block = k → bs[k]? = some b → SlB w' a 32 c 1 (u64s b) G → (∀ b ∈ G, w.heap.size ≤ b) → DiskR w' p bs (g + 1) u F → Mod F w w' → K (.tuple #[.slice a 32 c, .int .i64 0]) w') :
    CallsR Try.prog F_janusref03_Disk_Get #[.pointer (some ⟨p, 0, none⟩), .int .i64 block] w K := by
  apply R_janusref03_Disk_Get_ok
  obtain ⟨T, ar, cr, R, Fs, hs, hp, hr, hrows, hpR, hpF, hRF, rfl, h32, hle', hFlt⟩ := h
  simp only [R_janusref03_Disk_Get, spl_decide, spl_bne, nilK_some, addr_add, cell_get hp]
  refine ⟨fun h => h0 (.inl h), fun hge => ⟨_, _, _, rfl, fun h => h0 (.inr h), fun hlt => ⟨_, rfl, ?_⟩⟩⟩
  obtain ⟨k, rfl⟩ := nat_of (by omega : 0 ≤ block)
  have hk : k < bs.length := by omega
  refine stK_of hp (by simp) ?_
  rw [w64 (by omega) (by omega)]
  simp only [splice_cons, splice_nil, Nat.zero_add]
  generalize hw1 : w.upd p (.cells _ T (0, 0)) = w1
  have hp1 : w1.heap[p]? = some (.cells #[.slice ar bs.length cr, .int .i64 (g + 1), .int .i64 u] T (0, 0)) := by rw [← hw1, upd_same hp]; simp
  have hk1 : ∀ x, x ≠ p → w1.heap[x]? = w.heap[x]? := fun x hx => by rw [← hw1]; exact upd_ne _ (Ne.symm hx)
  have hm1 : Mod (p :: (R ++ Fs)) w w1 := by rw [← hw1]; exact (Mod.refl _ _).upd (.inl (by simp)) _
  have hsz1 : w1.heap.size = w.heap.size := by rw [← hw1, upd_size]
  have hr1 : SlB w1 ar bs.length cr 1 hs R := hr.keep fun b hb => hk1 b (by rintro rfl; exact hpR hb)
  have hrows1 : Rows3 w1 hs bs Fs := hrows.keep fun b hb => hk1 b (by rintro rfl; exact hpF hb)
  obtain ⟨b, o, har, hRb⟩ := hr.isNone (by omega)
  subst har; subst hRb
  obtain ⟨bk, hbk⟩ : ∃ x, bs[k]? = some x := ⟨bs[k], by simp [hk]⟩
  obtain ⟨a2, c2, G2, hh, hsb, hG2⟩ := hrows1.2 k bk hbk
  have hb32 : bk.length = 32 := h32 bk (List.mem_of_getElem? hbk)
  rw [hb32] at hh hsb
  simp only [Int.toNat_natCast]
  refine ⟨_, _, _, cell_get hp1 0, ?_⟩
  simp only [nilK_some]
  refine ⟨⟨by omega, by omega⟩, _, _, _, by rw [hr1.cell (by rw [hrows.1]; exact hk)]; exact hh, ?_⟩
  obtain ⟨a3, c3, w3, R3, hr3, hs3, hm3, ho3⟩ := append_run slT_u64 (by decide) (SlB.nil w1 1) hsb (u64s_cell bk) (by omega) (by omega) 29
  simp only [Nat.zero_add, List.nil_append] at hr3 hs3
  refine ⟨_, _, hr3, _, _, _, rfl, h1 k bk w3 a3 c3 R3 rfl hbk hs3 (fun x hx => ?_) ⟨T, some ⟨b, o, none⟩, cr, [b], Fs, hs, hm3.get hp1 (by simp), hr1.mod hm3 (by simp), hrows1.keep fun x hx => hm3.keep x (by rw [hsz1]; exact hFlt x hx) (by simp),
    hpR, hpF, hRF, rfl, h32, hle', fun x hx => Nat.lt_of_lt_of_le (hFlt x hx) (by rw [← hsz1]; exact hm3.size)⟩ (hm1.trans hm3 (by simp))⟩
  rcases ho3 x hx with h | h
  · simp at h
  · rw [← hsz1]; exact h

end Go.Proofs
