/-
  Layer 18: contracts of the program's descriptors: what is read alone.
  Layer 18: contracts of the program's descriptors: all files; what is told; each deed.
  Layer 18: contracts of the program's descriptors: each deed.
  Layer 18: contracts of the program's descriptors: Fork, Gone, Encode.
  Layer 18: contracts of the program's descriptors: Encode; slices.Equal of words; slices.Compact of numbers.
  Layer 18: slices.Sort and slices.Compact of numbers; Ids.
  Layer 18: Ids of the program's descriptors.
-/
import Derived.Test.YtmpaiobapmpngaaF18A
import Derived.Test.YtmpaiobapmpngaaUtA
import Derived.Test.YtmpaiobapmpngaaDenC
import Derived.Test.YtmpaiobapmpngaaRes
import Derived.Test.YtmpaiobapmpngaaLaid
set_option linter.unusedVariables false
set_option linter.unusedSimpArgs false
namespace Go.Proofs
open Go Go.Den

def fxc (x : FX) (r : Int) : List Value := [.int .i64 x.k, .int .i64 x.i, .int .i64 x.o, .bool x.a, .int .i64 r]
def ptr1 (q : Nat) : Value := .pointer (some ⟨q, 0, none⟩)

/-- The descriptors at block 'p'; a file's key is its block. -/
structure FdsP (w : World) (p : Nat) (t : Tb) (ob : Nat → FX) : Prop where
  row : ∃ T, w.heap[p]? = some (.cells (t.map ptrTo).toArray T (0, 0))
  len : t.length = 48
  at_ : ∀ q, q ∈ dd t → ∃ T, w.heap[q]? = some (.cells (fxc (ob q) (plc t q).length).toArray T (0, 0))
  np : p ∉ dd t

section
variable {w w' : World} {p : Nat} {t : Tb} {ob : Nat → FX}

theorem FdsP.keep (h : FdsP w p t ob) (hk : ∀ b ∈ p :: dd t, w'.heap[b]? = w.heap[b]?) : FdsP w' p t ob := by
  obtain ⟨⟨T, h1⟩, h2, h3, h4⟩ := h
  refine ⟨⟨T, (hk p (by simp)).trans h1⟩, h2, fun q hq => ?_, h4⟩
  obtain ⟨T', h5⟩ := h3 q hq
  exact ⟨T', (hk q (by simp [hq])).trans h5⟩
theorem FdsP.lt (h : FdsP w p t ob) : ∀ b ∈ p :: dd t, b < w.heap.size := by
  obtain ⟨⟨T, h1⟩, h2, h3, h4⟩ := h
  intro b hb
  rcases List.mem_cons.1 hb with rfl | hb
  · exact lt_of_get h1
  · obtain ⟨T', h5⟩ := h3 b hb
    exact lt_of_get h5
theorem FdsP.mod (h : FdsP w p t ob) (hm : Mod [] w w') : FdsP w' p t ob := h.keep (hm.at0 h.lt)
theorem FdsP.place (h : FdsP w p t ob) {pid fd : Int} (ho : okPF pid fd) : w.cell? ⟨p, pl pid fd, none⟩ = some (ptrTo (nam t pid fd)) := by
  obtain ⟨⟨T, h1⟩, h2, h3, h4⟩ := h
  rw [cell_get h1]
  simp only [List.getElem?_toArray, List.getElem?_map, nam_get h2 ho, Option.map_some]
theorem FdsP.pt (h : FdsP w p t ob) {k : Nat} (hk : k < 48) : w.cell? ⟨p, k, none⟩ = some (ptrTo ((t[k]?).getD none)) := by
  obtain ⟨⟨T, h1⟩, h2, h3, h4⟩ := h
  rw [cell_get h1]
  simp [List.getElem?_eq_getElem (show k < t.length by omega)]
def plain (w : World) (q : Nat) : Prop := ∃ cs T, w.heap[q]? = some (.cells cs T (0, 0))
theorem FdsP.plain (h : FdsP w p t ob) {q : Nat} (hq : q ∈ dd t) : plain w q := by
  obtain ⟨T, h1⟩ := h.at_ q hq
  exact ⟨_, T, h1⟩
end

def fdsPart (p : Nat) (t : Tb) (ob : Nat → FX) : Part := ⟨p :: dd t, fun w => FdsP w p t ob, fun h k => h.keep k, fun h => h.lt⟩

section
variable {w : World} {p : Nat} {t : Tb} {ob : Nat → FX}

theorem fds_new {w : World} {K : Value → World → Prop} (ob : Nat → FX) (h : ∀ p w', FdsP w' p (List.replicate 48 none) ob → Mod [] w w' → w.heap.size ≤ p → K (ptr1 p) w') : CallsR Try.prog F_fds_New #[] w K := by
  apply R_fds_New_ok
  simp only [R_fds_New, newK_eq]
  have e : dd (List.replicate 48 none) = [] := by rfl
  refine h w.heap.size _ ⟨⟨_, alloc_new _ _⟩, by simp, fun q hq => ?_, ?_⟩ ((Mod.refl _ _).alloc _) (Nat.le_refl _)
  · rw [e] at hq; cases hq
  · rw [e]; simp

theorem fat_run {w : World} (p : Nat) (pid fd : Int) {K : Value → World → Prop} (h : K (.pointer (if okPF pid fd then some ⟨p, pl pid fd, none⟩ else none)) w) :
    CallsR Try.prog F_fds_Fds_at #[.pointer (some ⟨p, 0, none⟩), .int .i64 pid, .int .i64 fd] w K := by
  apply R_fds_Fds_at_ok
  simp only [R_fds_Fds_at, Option.isNone_some, spl_false, spl_decide, nilK_some, addr_add]
  refine ⟨fun h1 => ?_, fun h1 => ⟨fun h2 => ?_, fun h2 => ⟨fun h3 => ?_, fun h3 => ⟨fun h4 => ?_, fun h4 => ?_⟩⟩⟩⟩
  · rwa [if_neg (by unfold okPF; omega)] at h
  · rwa [if_neg (by unfold okPF; omega)] at h
  · rwa [if_neg (by unfold okPF; omega)] at h
  · rwa [if_neg (by unfold okPF; omega)] at h
  · rw [if_pos (by unfold okPF; omega)] at h
    rw [w64 (by omega) (by omega)]
    refine ⟨⟨by omega, by omega⟩, ⟨by omega, by omega⟩, ?_⟩
    have e : 0 + (pid - 1).toNat * 6 + fd.toNat = pl pid fd := by unfold pl plN; omega
    rw [e]
    exact h
theorem fat_nil {w : World} (pid fd : Int) {K : Value → World → Prop} (h : K (.pointer none) w) : CallsR Try.prog F_fds_Fds_at #[.pointer none, .int .i64 pid, .int .i64 fd] w K := by
  apply R_fds_Fds_at_ok
  simpa only [R_fds_Fds_at, Option.isNone_none, spl_true] using h

theorem ffile_run (h : FdsP w p t ob) (pid fd : Int) {K : Value → World → Prop} (hK : K (ptrTo (nam t pid fd)) w) : CallsR Try.prog F_fds_Fds_file #[.pointer (some ⟨p, 0, none⟩), .int .i64 pid, .int .i64 fd] w K := by
  apply R_fds_Fds_file_ok
  simp only [R_fds_Fds_file]
  refine fat_run p pid fd ⟨_, rfl, ?_⟩
  by_cases ho : okPF pid fd
  · have hp := h.place ho
    rw [ptrTo_eq] at hp hK
    simp only [if_pos ho, Option.isNone_some, spl_false, nilK_some]
    exact ⟨_, hp, hK⟩
  · have e : nam t pid fd = none := by unfold nam; rw [if_neg ho]
    rw [e] at hK
    simp only [if_neg ho, Option.isNone_none, spl_true]
    exact hK
theorem ffile_nil {w : World} (pid fd : Int) {K : Value → World → Prop} (h : K (.pointer none) w) : CallsR Try.prog F_fds_Fds_file #[.pointer none, .int .i64 pid, .int .i64 fd] w K := by
  apply R_fds_Fds_file_ok
  simp only [R_fds_Fds_file]
  exact fat_nil pid fd ⟨_, rfl, by simpa using h⟩

theorem addr_beq (a b : Nat) : ((⟨a, 0, none⟩ : Addr) == ⟨b, 0, none⟩) = decide (a = b) := by
  rw [Bool.eq_iff_iff]
  simp

/-- Where a pointer is, in a row of them; -1: nowhere. -/
def idxP (ps : List (Option Nat)) (v : Option Nat) : Int := if v ∈ ps then (ps.idxOf v : Int) else -1

theorem pindex_run {w : World} {a : Option Addr} {l c : Nat} {ps : List (Option Nat)} {G : List Nat} (hs : Rd w a l 1 (ps.map ptrTo) G) (hl : l ≤ 1000000) (v : Option Nat) (hv : ∀ q, v = some q → plain w q) (hp : ∀ q, some q ∈ ps → plain w q) {K : Value → World → Prop} (hK : K (.int .i64 (idxP ps v)) w) :
    CallsR Try.prog F_slices_Index_api_File_api_File #[.slice a l c, ptrTo v] w K := by
  have hpl : ps.length = l := by have := hs.length; simpa using this
  rw [ptrTo_eq]
  apply R_slices_Index_api_File_api_File_ok
  simp only [R_slices_Index_api_File_api_File]
  refine ⟨fun m i w' => ∃ k : Nat, i = k ∧ k ≤ l ∧ m = l - k ∧ w' = w ∧ ∀ j, j < k → ps[j]? ≠ some v, ⟨l, 0, rfl, by omega, by omega, rfl, by intro j hj; omega⟩, ?_⟩
  rintro m i - w' ⟨k, rfl, hk, rfl, rfl, hno⟩
  rw [spl_decide]
  refine ⟨fun hlt => ?_, fun hge => ?_⟩
  · have hkl : k < l := by omega
    obtain ⟨ad, rfl, hG, hb, hc⟩ := hs.at (by omega)
    have hg : ps[k]? = some ps[k] := List.getElem?_eq_getElem (by omega)
    have hck := hc k (by simp; omega)
    rw [List.getElem?_map, hg, Option.map_some, ptrTo_eq] at hck
    simp only [nilK_some, Int.toNat_natCast]
    refine ⟨⟨by omega, by omega⟩, _, hck, fun h0 => absurd (h0.symm.trans (by kernel_rfl : _ = 5)) (by decide), ?_, ?_⟩
    · unfold peqOK
      cases hv' : v with
      | none => simp
      | some q =>
        cases hpk : ps[k] with
        | none => simp
        | some q' =>
          simp only [Option.map_some]
          rw [hpk] at hg
          exact .inr ⟨hv q hv', hp q' (List.mem_of_getElem? hg)⟩
    · have e : (Option.map (fun r => (⟨r, 0, none⟩ : Addr)) v == Option.map (fun r => (⟨r, 0, none⟩ : Addr)) ps[k]) = decide (v = ps[k]) := by
        cases v <;> cases ps[k] <;> simp [addr_beq]
      rw [e, spl_decide]
      refine ⟨fun heq => ?_, fun hne => ⟨l - (k + 1), by omega, k + 1, by rw [w64 (by omega) (by omega)]; omega, by omega, by simp, by simp, fun j hj => ?_⟩⟩
      · have hm : v ∈ ps := by rw [heq]; exact List.getElem_mem _
        have hi : ps.idxOf v = k := by
          rcases Nat.lt_trichotomy (ps.idxOf v) k with h | h | h
          · exact absurd (by rw [List.getElem?_eq_getElem (by omega), List.getElem_idxOf]) (hno _ h)
          · exact h
          · have h2 := List.not_of_lt_findIdx (p := (· == v)) (show k < ps.findIdx (· == v) from h)
            simp [heq] at h2
        unfold idxP at hK
        rw [if_pos hm, hi] at hK
        exact hK
      · rcases Nat.lt_or_ge j k with h | h
        · exact hno j h
        · obtain rfl : j = k := by omega
          rw [hg]
          exact fun h => hne (Option.some.inj h).symm
  · have hkl : k = l := by omega
    subst hkl
    have hm : v ∉ ps := fun hm => by
      obtain ⟨j, hj⟩ := List.getElem?_of_mem hm
      exact hno j (by have := (List.getElem?_eq_some_iff.1 hj).1; omega) hj
    unfold idxP at hK
    rw [if_neg hm] at hK
    exact hK

theorem pcontains_run {w : World} {a : Option Addr} {l c : Nat} {ps : List (Option Nat)} {G : List Nat} (hs : Rd w a l 1 (ps.map ptrTo) G) (hl : l ≤ 1000000) (v : Option Nat) (hv : ∀ q, v = some q → plain w q) (hp : ∀ q, some q ∈ ps → plain w q) {K : Value → World → Prop} (hK : K (.bool (decide (v ∈ ps))) w) :
    CallsR Try.prog F_slices_Contains_api_File_api_File #[.slice a l c, ptrTo v] w K := by
  rw [ptrTo_eq]
  apply R_slices_Contains_api_File_api_File_ok
  simp only [R_slices_Contains_api_File_api_File]
  rw [← ptrTo_eq]
  refine pindex_run hs hl v hv hp ⟨_, rfl, ?_⟩
  have e : decide (idxP ps v ≥ 0) = decide (v ∈ ps) := by
    unfold idxP
    by_cases h : v ∈ ps <;> simp [h]
  rw [e]
  exact hK

theorem ffree_run (h : FdsP w p t ob) {pid : Int} (h1 : 1 ≤ pid) (h2 : pid ≤ 8) {K : Value → World → Prop} (hK : K (.int .i64 (match free18 t pid with | some r => (r : Int) | none => -1)) w) : CallsR Try.prog F_fds_Fds_free #[.pointer (some ⟨p, 0, none⟩), .int .i64 pid] w K := by
  apply R_fds_Fds_free_ok
  simp only [R_fds_Fds_free, nilK_some, addr_add]
  rw [w64 (by omega) (by omega)]
  refine ⟨⟨by omega, by omega⟩, ?_⟩
  have e : 0 + (pid - 1).toNat * 6 = pl pid 0 := by unfold pl plN; omega
  rw [e]
  have hlt : pl pid 0 + 6 ≤ 48 := by unfold pl plN; omega
  obtain ⟨ps, hps⟩ : ∃ ps, ps = (t.drop (pl pid 0)).take 6 := ⟨_, rfl⟩
  have hpl : ps.length = 6 := by rw [hps]; simp [h.len]; omega
  have hpg : ∀ j : Nat, j < 6 → ps[j]? = some (nam t pid j) := fun j hj => by
    have ho : okPF pid j := ⟨h1, h2, by omega, by omega⟩
    rw [hps, List.getElem?_take, if_pos hj, List.getElem?_drop, ← nam_get h.len ho, show pl pid 0 + j = pl pid j by unfold pl plN; omega]
  have hrd : Rd w (some ⟨p, pl pid 0, none⟩) 6 1 (ps.map ptrTo) [p] := by
    refine ⟨by simp [hpl], .inr ⟨_, rfl, rfl, h.lt p (by simp), fun j hj => ?_⟩⟩
    simp only [List.length_map, hpl] at hj
    rw [addr_add, List.getElem?_map, hpg j hj]
    have ho : okPF pid j := ⟨h1, h2, by omega, by omega⟩
    have := h.place ho
    rw [show pl pid 0 + j = pl pid j by unfold pl plN; omega]
    exact this
  refine ⟨trivial, fun _ => rfl, trivial, trivial, ?_⟩
  have e2 : slA (some ⟨p, pl pid 0, none⟩) 6 0 1 = some ⟨p, pl pid 0, none⟩ := by simp [slA]
  simp only [sM, Nat.sub_zero, e2]
  refine pindex_run (v := none) hrd (by omega) (by simp) (fun q hq => ?_) ⟨_, rfl, ?_⟩
  · obtain ⟨j, hj⟩ := List.getElem?_of_mem hq
    have hj6 : j < 6 := by have := (List.getElem?_eq_some_iff.1 hj).1; omega
    rw [hpg j hj6] at hj
    exact h.plain (nam_dd (Option.some.inj hj)).1
  · have e3 : idxP ps none = (match free18 t pid with | some r => (r : Int) | none => -1) := by
      unfold idxP
      by_cases hm : none ∈ ps
      · rw [if_pos hm]
        have hi : ps.idxOf none < ps.length := List.idxOf_lt_length_iff.2 hm
        have hg : ps[ps.idxOf none]? = some none := by rw [List.getElem?_eq_getElem hi, List.getElem_idxOf]
        rw [hpg _ (by omega)] at hg
        rw [free_some (r := ps.idxOf none) (by omega) (Option.some.inj hg) fun i hi' => ?_]
        have h2 := List.not_of_lt_findIdx (p := (· == none)) (show i < ps.findIdx (· == none) from hi')
        intro hn
        have h3 := hpg i (by omega)
        rw [List.getElem?_eq_getElem (by omega)] at h3
        have h4 := Option.some.inj h3
        rw [hn] at h4
        simp [h4] at h2
      · rw [if_neg hm, free_no fun i hi hn => hm ?_]
        have h3 := hpg i hi
        rw [hn] at h3
        exact List.mem_of_getElem? h3
    rw [e3]
    exact hK

end

end Go.Proofs

set_option linter.unusedSimpArgs false
namespace Go.Proofs
open Go Go.Den

/-! ### All files -/

/-- A row of one's own that points at 'us'. -/
def FlB (w0 w : World) (A : Option Addr) (L C : Nat) (us : List Nat) : Prop := ∃ G, SlB w A L C 1 (us.map ptr1) G ∧ Beyond w0.heap.size G ∧ Mod [] w0 w

theorem map_ptr1 (us : List Nat) : us.map ptr1 = (us.map some).map ptrTo := by rw [List.map_map]; rfl
theorem FlB.len {w0 w : World} {A : Option Addr} {L C : Nat} {us : List Nat} (h : FlB w0 w A L C us) : us.length = L := by
  obtain ⟨G, h1, -⟩ := h
  have := h1.length
  simpa using this
theorem FlB.mod0 {w0 w w' : World} {A : Option Addr} {L C : Nat} {us : List Nat} (h : FlB w0 w A L C us) (hm : Mod [] w w') : FlB w0 w' A L C us := by
  obtain ⟨G, h1, h2, h3⟩ := h
  exact ⟨G, h1.keep (hm.at0 h1.lt), h2, h3.trans' hm⟩

theorem arT_row : ArT Try.prog 74 6 72 := ⟨by kernel_rfl, by kernel_rfl, (Try.prog.info? 72).getD default, by kernel_rfl⟩
theorem unP : Try.prog.underlying 72 = some (.pointer 37) := by kernel_rfl

section
variable {w : World} {p : Nat} {t : Tb} {ob : Nat → FX}

theorem ffiles_run (h : FdsP w p t ob) {K : Value → World → Prop} (hK : ∀ A C w', FlB w w' A (dd t).length C (dd t) → K (.slice A (dd t).length C) w') : CallsR Try.prog F_fds_Fds_files #[.pointer (some ⟨p, 0, none⟩)] w K := by
  apply R_fds_Fds_files_ok
  simp only [R_fds_Fds_files, nilK_some]
  have hlen := h.len
  have hdl := dd_len t
  refine ⟨(t.map ptrTo).toArray, ⟨by simp [hlen], fun i hi => ?_⟩, ?_⟩
  · rw [addr_add, Nat.zero_add, h.pt hi]
    simp [List.getElem?_eq_getElem (show i < t.length by omega)]
  refine ⟨fun m A L C i w' => ∃ r : Nat, i = r ∧ r ≤ 8 ∧ m = 8 - r ∧ FlB w w' A L C (dd (t.take (r * 6))), ⟨8, 0, rfl, by omega, by omega, by rw [Nat.zero_mul]; exact ⟨[], SlB.nil w 1, (by intro x hx; cases hx), Mod.refl _ _⟩⟩, ?_⟩
  rintro m A L C i - w1 ⟨r, rfl, hr, rfl, hfl⟩
  rw [spl_decide]
  refine ⟨fun hlt => ?_, fun hge => ?_⟩
  · have hr8 : r < 8 := by omega
    refine ⟨fun A' L' C' w' => FlB w w' A' L' C' (dd (t.take ((r + 1) * 6))), fun A' L' C' _ w' hf => ⟨8 - (r + 1), by omega, r + 1, by rw [w64 (by omega) (by omega)]; omega, by omega, rfl, hf⟩, ⟨by omega, by omega⟩, ?_⟩
    simp only [Int.toNat_natCast]
    obtain ⟨o, ho⟩ : ∃ o : Nat → Option Nat, ∀ j, o j = (t[r * 6 + j]?).getD none := ⟨_, fun _ => rfl⟩
    have hget : ∀ j, j < 6 → t[r * 6 + j]? = some (o j) := fun j hj => by
      rw [ho, List.getElem?_eq_getElem (by omega), Option.getD_some]
    have hrow : (((t.map ptrTo).toArray.toList.drop (r * 6)).take 6).toArray = #[ptrTo (o 0), ptrTo (o 1), ptrTo (o 2), ptrTo (o 3), ptrTo (o 4), ptrTo (o 5)] := by
      have e : ((t.map ptrTo).drop (r * 6)).take 6 = [ptrTo (o 0), ptrTo (o 1), ptrTo (o 2), ptrTo (o 3), ptrTo (o 4), ptrTo (o 5)] := by
        apply List.ext_getElem?
        intro j
        rw [List.getElem?_take]
        by_cases hj : j < 6
        · rw [if_pos hj, List.getElem?_drop, List.getElem?_map, hget j hj]
          rcases (show j = 0 ∨ j = 1 ∨ j = 2 ∨ j = 3 ∨ j = 4 ∨ j = 5 by omega) with rfl | rfl | rfl | rfl | rfl | rfl <;> rfl
        · rw [if_neg hj, List.getElem?_eq_none (by simp; omega)]
      rw [← e]
    rw [hrow]
    simp only [ptrTo_eq]
    refine ⟨_, _, _, _, _, _, rfl, ?_⟩
    refine (Sep.nil (Mod.refl [] w1)).new fun b wa sa ma hb => ?_
    refine sa.st0 0 rfl rfl fun w2 s2 m2 => ?_
    have hfl2 := hfl.mod0 s2.mod
    refine ⟨_, _, _, _, _, _, ⟨s2.cell 0 rfl rfl, s2.cell 0 rfl rfl, s2.cell 0 rfl rfl, s2.cell 0 rfl rfl, s2.cell 0 rfl rfl, s2.cell 0 rfl rfl⟩, ?_⟩
    refine eqNil_K (ps := [(o 0).map fun r => ⟨r, 0, none⟩, (o 1).map fun r => ⟨r, 0, none⟩, (o 2).map fun r => ⟨r, 0, none⟩, (o 3).map fun r => ⟨r, 0, none⟩, (o 4).map fun r => ⟨r, 0, none⟩, (o 5).map fun r => ⟨r, 0, none⟩]) arT_row unP rfl ?_
    refine spl_of (fun hall => ?_) (fun hnall => ?_)
    · have hz : ∀ j, j < 6 → t[r * 6 + j]? = some none := fun j hj => by
        simp only [List.all_cons, List.all_nil, Bool.and_true, Bool.and_eq_true, Option.isNone_map, Option.isNone_iff_eq_none] at hall
        rw [hget j hj]
        rcases (show j = 0 ∨ j = 1 ∨ j = 2 ∨ j = 3 ∨ j = 4 ∨ j = 5 by omega) with rfl | rfl | rfl | rfl | rfl | rfl <;> simp [hall]
      rw [Nat.succ_mul, dd_none (by omega) (by omega) hz]
      exact hfl2
    · refine ⟨_, _, _, _, _, _, ⟨s2.cell 0 rfl rfl, s2.cell 0 rfl rfl, s2.cell 0 rfl rfl, s2.cell 0 rfl rfl, s2.cell 0 rfl rfl, s2.cell 0 rfl rfl⟩, ?_⟩
      refine ⟨fun m A L C i w' => ∃ j : Nat, i = j ∧ j ≤ 6 ∧ m = 6 - j ∧ FlB w w' A L C (dd (t.take (r * 6 + j))), ⟨6, 0, rfl, by omega, by omega, by simpa using hfl2⟩, ?_⟩
      rintro m A L C i - w3 ⟨j, rfl, hj, rfl, hf3⟩
      rw [spl_decide]
      refine ⟨fun hlt => ?_, fun hge => ?_⟩
      · have hj6 : j < 6 := by omega
        have hstep := dd_take t (hget j hj6)
        refine ⟨fun A' L' C' w' => FlB w w' A' L' C' (dd (t.take (r * 6 + (j + 1)))), fun A' L' C' _ w' hf => ⟨6 - (j + 1), by omega, j + 1, by rw [w64 (by omega) (by omega)]; omega, by omega, rfl, hf⟩, ⟨by omega, by omega⟩, ?_⟩
        simp only [Int.toNat_natCast]
        refine ⟨(o j).map fun r => ⟨r, 0, none⟩, by rcases (show j = 0 ∨ j = 1 ∨ j = 2 ∨ j = 3 ∨ j = 4 ∨ j = 5 by omega) with rfl | rfl | rfl | rfl | rfl | rfl <;> rfl, ?_⟩
        rw [← Nat.add_assoc, hstep]
        cases hoj : o j with
        | none =>
          simp only [Option.map_none, Option.isNone_none, Bool.not_true, spl_false]
          exact hf3
        | some q =>
          simp only [Option.map_some, Option.isNone_some, Bool.not_false, spl_true]
          have hL := hf3.len
          have hle : (dd (t.take (r * 6 + j))).length ≤ 48 := by
            have := dd_len (t.take (r * 6 + j)); simp at this; omega
          obtain ⟨G, hs, hG, hm3⟩ := hf3
          have h3 := h.mod hm3
          have hsub : ∀ x, x ∈ dd (t.take (r * 6 + j)) → x ∈ dd t := fun x hx => mem_dd.2 (List.mem_of_mem_take (mem_dd.1 hx))
          have hq : q ∈ dd t := mem_dd'.2 ⟨_, by rw [hget j hj6, hoj]⟩
          have hs' := hs
          rw [map_ptr1] at hs'
          refine pcontains_run (v := some q) hs'.rd (by omega) (fun x hx => by cases hx; exact h3.plain hq) (fun x hx => ?_) ⟨_, rfl, ?_⟩
          · simp only [List.mem_map, Option.some.injEq, exists_eq_right] at hx
            exact h3.plain (hsub x hx)
          · rw [spl_decide]
            refine ⟨fun hin => ?_, fun hni => ?_⟩
            · have hin' : q ∈ dd (t.take (r * 6 + j)) := by simpa using hin
              simp only [dstep, if_pos hin']
              exact ⟨G, hs, hG, hm3⟩
            · have hni' : q ∉ dd (t.take (r * 6 + j)) := by simpa using hni
              simp only [dstep, if_neg hni', newK_eq]
              refine push_K (w0 := w) slT_P_api_File (by decide) hs hG hm3 (us := [ptr1 q]) (n := 1) rfl (by simp [ptr1, isCell]) (by omega) (by omega) fun A' C' w' G' hs' hG' hm' _ _ => ⟨_, _, _, rfl, G', ?_, hG', hm'⟩
              rw [List.map_append]
              exact hs'
      · obtain rfl : j = 6 := by omega
        rw [Nat.succ_mul]
        exact hf3
  · obtain rfl : r = 8 := by omega
    have hL := hfl.len
    rw [show 8 * 6 = t.length by omega, List.take_length] at hfl hL
    subst hL
    exact hK A C w1 hfl

/-! ### What is told -/

theorem fleft_run (h : FdsP w p t ob) (pid : Int) {K : Value → World → Prop} (hK : K (.int .i64 (left18 t pid : Int)) w) : CallsR Try.prog F_fds_Fds_Left #[.pointer (some ⟨p, 0, none⟩), .int .i64 pid] w K := by
  apply R_fds_Fds_Left_ok
  simp only [R_fds_Fds_Left]
  refine ⟨fun m n i w' => ∃ k : Nat, i = k ∧ k ≤ 6 ∧ m = 6 - k ∧ n = (leftN t pid k : Int) ∧ w' = w, ⟨6, 0, rfl, by omega, by omega, rfl, rfl⟩, ?_⟩
  rintro m n i - w' ⟨k, rfl, hk, rfl, rfl, rfl⟩
  rw [spl_decide]
  have hle := leftN_le t pid k
  refine ⟨fun hlt => ?_, fun hge => ?_⟩
  · refine ⟨fun n' w2 => n' = (leftN t pid (k + 1) : Int) ∧ w2 = w', fun n' _ w2 hn => ⟨6 - (k + 1), by omega, k + 1, by rw [w64 (by omega) (by omega)]; omega, by omega, rfl, hn⟩, ?_⟩
    refine fat_run p pid k ⟨_, rfl, ?_⟩
    rw [leftN_succ]
    by_cases ho : okPF pid k
    · have hp := h.place ho
      rw [ptrTo_eq] at hp
      simp only [if_pos ho, Option.isNone_some, Bool.not_false, spl_true, nilK_some]
      refine ⟨_, hp, ?_⟩
      cases hn : nam t pid k with
      | none =>
        simp only [Option.map_none, Option.isNone_none, spl_true]
        rw [w64 (by omega) (by omega)]
        simp [ho]
      | some q =>
        simp only [Option.map_some, Option.isNone_some, spl_false]
        simp
    · simp only [if_neg ho, Option.isNone_none, Bool.not_true, spl_false]
      simp [ho]
  · obtain rfl : k = 6 := by omega
    exact hK
theorem fleft_nil {w : World} (pid : Int) {K : Value → World → Prop} (hK : K (.int .i64 0) w) : CallsR Try.prog F_fds_Fds_Left #[.pointer none, .int .i64 pid] w K := by
  apply R_fds_Fds_Left_ok
  simp only [R_fds_Fds_Left]
  refine ⟨fun m n i w' => ∃ k : Nat, i = k ∧ k ≤ 6 ∧ m = 6 - k ∧ n = 0 ∧ w' = w, ⟨6, 0, rfl, by omega, by omega, rfl, rfl⟩, ?_⟩
  rintro m n i - w' ⟨k, rfl, hk, rfl, rfl, rfl⟩
  rw [spl_decide]
  refine ⟨fun hlt => ?_, fun hge => hK⟩
  refine ⟨fun n' w2 => n' = 0 ∧ w2 = w', fun n' _ w2 hn => ⟨6 - (k + 1), by omega, k + 1, by rw [w64 (by omega) (by omega)]; omega, by omega, rfl, hn⟩, ?_⟩
  refine fat_nil pid k ⟨_, rfl, ?_⟩
  simp

theorem fx_cell {w : World} {q : Nat} {T : TypeId} {x : FX} {r : Int} (h : w.heap[q]? = some (.cells (fxc x r).toArray T (0, 0))) : w.cell? ⟨q, 0, none⟩ = some (.int .i64 x.k) ∧ w.cell? ⟨q, 1, none⟩ = some (.int .i64 x.i) ∧ w.cell? ⟨q, 2, none⟩ = some (.int .i64 x.o) ∧ w.cell? ⟨q, 3, none⟩ = some (.bool x.a) ∧ w.cell? ⟨q, 4, none⟩ = some (.int .i64 r) := by
  refine ⟨?_, ?_, ?_, ?_, ?_⟩ <;> (rw [cell_get h]; rfl)

/-- A file and a number, as an answer. -/
def fxe (x : FX) (r e : Int) : Value := .tuple #[.agg (fxc x r).toArray, .int .i64 e]
def fx0 : FX := ⟨0, 0, 0, false⟩

theorem fget_run (h : FdsP w p t ob) (pid fd : Int) {K : Value → World → Prop} (h0 : ∀ w', nam t pid fd = none → Mod [] w w' → K (fxe fx0 0 9) w') (h1 : ∀ w' q, nam t pid fd = some q → Mod [] w w' → K (fxe (ob q) (plc t q).length 0) w') :
    CallsR Try.prog F_fds_Fds_Get #[.pointer (some ⟨p, 0, none⟩), .int .i64 pid, .int .i64 fd] w K := by
  apply R_fds_Fds_Get_ok
  simp only [R_fds_Fds_Get]
  refine (Sep.nil (Mod.refl [] w)).new fun b w1 s1 m1 hb => ?_
  have hf := h.mod m1
  refine ffile_run hf pid fd ⟨_, ptrTo_eq _, ?_⟩
  cases hn : nam t pid fd with
  | none =>
    simp only [Option.map_none, Option.isNone_none, spl_true]
    refine s1.st0 0 rfl rfl fun w2 s2 m2 => ?_
    exact ⟨0, 0, 0, false, 0, ⟨s2.cell 0 rfl rfl, s2.cell 0 rfl rfl, s2.cell 0 rfl rfl, s2.cell 0 rfl rfl, s2.cell 0 rfl rfl⟩, h0 w2 hn s2.mod⟩
  | some q =>
    simp only [Option.map_some, Option.isNone_some, spl_false, nilK_some, addr_add, Nat.zero_add]
    obtain ⟨T, hq⟩ := hf.at_ q (nam_dd hn).1
    obtain ⟨c0, c1, c2, c3, c4⟩ := fx_cell hq
    refine ⟨_, _, _, _, _, ⟨c0, c1, c2, c3, c4⟩, ?_⟩
    refine s1.st0 0 rfl rfl fun w2 s2 m2 => ?_
    exact ⟨_, _, _, _, _, ⟨s2.cell 0 rfl rfl, s2.cell 0 rfl rfl, s2.cell 0 rfl rfl, s2.cell 0 rfl rfl, s2.cell 0 rfl rfl⟩, h1 w2 q hn s2.mod⟩
theorem fget_nil {w : World} (pid fd : Int) {K : Value → World → Prop} (h0 : ∀ w', Mod [] w w' → K (fxe fx0 0 9) w') : CallsR Try.prog F_fds_Fds_Get #[.pointer none, .int .i64 pid, .int .i64 fd] w K := by
  apply R_fds_Fds_Get_ok
  simp only [R_fds_Fds_Get]
  refine (Sep.nil (Mod.refl [] w)).new fun b w1 s1 m1 hb => ?_
  refine ffile_nil pid fd ⟨_, rfl, ?_⟩
  simp only [Option.isNone_none, spl_true]
  refine s1.st0 0 rfl rfl fun w2 s2 m2 => ?_
  exact ⟨0, 0, 0, false, 0, ⟨s2.cell 0 rfl rfl, s2.cell 0 rfl rfl, s2.cell 0 rfl rfl, s2.cell 0 rfl rfl, s2.cell 0 rfl rfl⟩, h0 w2 s2.mod⟩

end

end Go.Proofs

set_option linter.unusedSimpArgs false
namespace Go.Proofs
open Go Go.Den

section
variable {w w' : World} {p : Nat} {t t' : Tb} {ob ob' : Nat → FX}

/-- The row, and each file's block: turned, or as it was. -/
theorem FdsP.turn (h : FdsP w p t ob) (hl : t'.length = 48) (hrow : ∃ T, w'.heap[p]? = some (.cells (t'.map ptrTo).toArray T (0, 0))) (hnp : p ∉ dd t')
    (hat : ∀ r, r ∈ dd t' → (∃ T, w'.heap[r]? = some (.cells (fxc (ob' r) (plc t' r).length).toArray T (0, 0))) ∨ (r ∈ dd t ∧ w'.heap[r]? = w.heap[r]? ∧ ob' r = ob r ∧ (plc t' r).length = (plc t r).length)) : FdsP w' p t' ob' := by
  refine ⟨hrow, hl, fun r hr => ?_, hnp⟩
  rcases hat r hr with h1 | ⟨h1, h2, h3, h4⟩
  · exact h1
  · obtain ⟨T, h5⟩ := h.at_ r h1
    exact ⟨T, by rw [h2, h3, h4]; exact h5⟩

theorem row_stK {T : TypeId} (hr : w.heap[p]? = some (.cells (t.map ptrTo).toArray T (0, 0))) {k : Nat} (hk : k < t.length) (o : Option Nat) {K : World → Prop} (hK : K (w.upd p (.cells ((t.set k o).map ptrTo).toArray T (0, 0)))) : stK ⟨p, k, none⟩ [ptrTo o] w K := by
  refine stK_of hr (by simp; omega) ?_
  simp only [splice_cons, splice_nil]
  rwa [List.setIfInBounds_toArray, ← List.map_set]
theorem file_stK {q : Nat} {T : TypeId} {x : FX} {r : Int} (hr : w.heap[q]? = some (.cells (fxc x r).toArray T (0, 0))) (r' : Int) {K : World → Prop} (hK : K (w.upd q (.cells (fxc x r').toArray T (0, 0)))) : stK ⟨q, 4, none⟩ [.int .i64 r'] w K := by
  refine stK_of hr (by simp [fxc]) ?_
  exact hK

/-- A place that names a file more. -/
theorem FdsP.add (h : FdsP w p t ob) {k q : Nat} {T T' : TypeId} (h0 : t[k]? = some none) (hq : q ∈ dd t) (hr : w.heap[p]? = some (.cells (t.map ptrTo).toArray T (0, 0))) :
    FdsP ((w.upd q (.cells (fxc (ob q) ((plc t q).length + 1)).toArray T' (0, 0))).upd p (.cells ((t.set k (some q)).map ptrTo).toArray T (0, 0))) p (t.set k (some q)) ob := by
  have hqp : q ≠ p := fun e => h.np (e ▸ hq)
  obtain ⟨T1, hq1⟩ := h.at_ q hq
  refine h.turn (by simpa using h.len) ⟨T, upd_same (by rw [upd_ne _ hqp]; exact hr)⟩ (fun hm => ?_) (fun r hrm => ?_)
  · rcases (mem_dd_add h0).1 hm with e | e
    · exact hqp e.symm
    · exact h.np e
  · by_cases e : r = q
    · subst e
      refine .inl ⟨T', ?_⟩
      rw [upd_ne _ (Ne.symm hqp), upd_same hq1, plc_len_set h0]
      simp
    · have hrd : r ∈ dd t := ((mem_dd_add h0).1 hrm).resolve_left e
      have hrp : r ≠ p := fun e => h.np (e ▸ hrd)
      refine .inr ⟨hrd, ?_, rfl, by rw [plc_set_ne h0 e]⟩
      rw [upd_ne _ (Ne.symm hrp), upd_ne _ (Ne.symm e)]

theorem modPD {b : Nat} (hb : b = p ∨ b ∈ dd t) : b ∈ p :: dd t := by rw [List.mem_cons]; exact hb

theorem fdup_run (h : FdsP w p t ob) (pid fd : Int) {K : Value → World → Prop} (h0 : nam t pid fd = none → K (.tuple #[.int .i64 0, .int .i64 9]) w) (h1 : ∀ q, nam t pid fd = some q → free18 t pid = none → K (.tuple #[.int .i64 0, .int .i64 24]) w)
    (h2 : ∀ q n w', nam t pid fd = some q → free18 t pid = some n → FdsP w' p (t.set (pl pid n) (some q)) ob → Mod (p :: dd t) w w' → K (.tuple #[.int .i64 (n : Int), .int .i64 0]) w') :
    CallsR Try.prog F_fds_Fds_Dup #[.pointer (some ⟨p, 0, none⟩), .int .i64 pid, .int .i64 fd] w K := by
  apply R_fds_Fds_Dup_ok
  simp only [R_fds_Fds_Dup]
  refine ffile_run h pid fd ⟨_, ptrTo_eq _, ?_⟩
  cases hn : nam t pid fd with
  | none =>
    simp only [Option.map_none, Option.isNone_none, spl_true]
    exact h0 hn
  | some q =>
    obtain ⟨hq, ⟨o1, o2, o3, o4⟩, hg⟩ := nam_dd hn
    simp only [Option.map_some, Option.isNone_some, spl_false, nilK_some, addr_add, Nat.zero_add]
    refine ffree_run h o1 o2 ⟨_, rfl, ?_⟩
    cases hf : free18 t pid with
    | none =>
      simp only [spl_decide]
      exact ⟨fun _ => h1 q hn hf, fun h => absurd (by decide) h⟩
    | some n =>
      obtain ⟨ho, hn0, hn6⟩ := free_none h.len o1 o2 hf
      have hlt := pl_lt ho
      simp only [spl_decide]
      refine ⟨fun hneg => absurd hneg (by omega), fun _ => ?_⟩
      obtain ⟨T', hq1⟩ := h.at_ q hq
      obtain ⟨T, hr⟩ := h.row
      have hle := plc_len_le t q
      rw [h.len] at hle
      refine ⟨_, (fx_cell hq1).2.2.2.2, ?_⟩
      rw [w64 (by omega) (by omega), w64 (by omega) (by omega)]
      refine file_stK hq1 _ ?_
      have hqp : q ≠ p := fun e => h.np (e ▸ hq)
      refine ⟨⟨by omega, by omega⟩, ⟨by omega, by omega⟩, ?_⟩
      have e : (pid - 1).toNat * 6 + (n : Int).toNat = pl pid n := by unfold pl plN; omega
      rw [e]
      refine row_stK (t := t) (o := some q) (by rw [upd_ne _ hqp]; exact hr) (by have := h.len; omega) ?_
      exact h2 q n _ hn hf (h.add hn0 hq hr) (((Mod.refl _ w).upd (.inl (modPD (.inr hq))) _).upd (.inl (modPD (.inl rfl))) _)

theorem fseek_run (h : FdsP w p t ob) (pid fd off : Int) {K : Value → World → Prop} (h0 : nam t pid fd = none → K (.int .i64 9) w) (h1 : ∀ q, nam t pid fd = some q → off < 0 → K (.int .i64 22) w)
    (h2 : ∀ q w', nam t pid fd = some q → 0 ≤ off → FdsP w' p t (upO ob q ⟨(ob q).k, (ob q).i, off, (ob q).a⟩) → Mod (p :: dd t) w w' → K (.int .i64 0) w') :
    CallsR Try.prog F_fds_Fds_Seek #[.pointer (some ⟨p, 0, none⟩), .int .i64 pid, .int .i64 fd, .int .i64 off] w K := by
  apply R_fds_Fds_Seek_ok
  simp only [R_fds_Fds_Seek]
  refine ffile_run h pid fd ⟨_, ptrTo_eq _, ?_⟩
  cases hn : nam t pid fd with
  | none =>
    simp only [Option.map_none, Option.isNone_none, spl_true]
    exact h0 hn
  | some q =>
    obtain ⟨hq, -, hg⟩ := nam_dd hn
    simp only [Option.map_some, Option.isNone_some, spl_false, nilK_some, addr_add, Nat.zero_add, spl_decide]
    refine ⟨fun hneg => h1 q hn hneg, fun hge => ?_⟩
    obtain ⟨T', hq1⟩ := h.at_ q hq
    have hqp : q ≠ p := fun e => h.np (e ▸ hq)
    obtain ⟨T, hr⟩ := h.row
    refine stK_of hq1 (by simp [fxc]) ?_
    refine h2 q _ hn (by omega) (h.turn h.len ⟨T, by rw [upd_ne _ hqp]; exact hr⟩ h.np fun r hrm => ?_) ((Mod.refl _ w).upd (.inl (modPD (.inr hq))) _)
    by_cases e : q = r
    · subst e
      refine .inl ⟨T', ?_⟩
      rw [upd_same hq1]
      simp only [upO, if_pos]
      rfl
    · exact .inr ⟨hrm, upd_ne _ e, by simp [upO, e], rfl⟩
theorem fseek_nil {w : World} (pid fd off : Int) {K : Value → World → Prop} (h : K (.int .i64 9) w) : CallsR Try.prog F_fds_Fds_Seek #[.pointer none, .int .i64 pid, .int .i64 fd, .int .i64 off] w K := by
  apply R_fds_Fds_Seek_ok
  simp only [R_fds_Fds_Seek]
  exact ffile_nil pid fd ⟨_, rfl, by simpa using h⟩
theorem fdup_nil {w : World} (pid fd : Int) {K : Value → World → Prop} (h : K (.tuple #[.int .i64 0, .int .i64 9]) w) : CallsR Try.prog F_fds_Fds_Dup #[.pointer none, .int .i64 pid, .int .i64 fd] w K := by
  apply R_fds_Fds_Dup_ok
  simp only [R_fds_Fds_Dup]
  exact ffile_nil pid fd ⟨_, rfl, by simpa using h⟩

theorem fopen_run (h : FdsP w p t ob) (pid : Int) (x : FX) (rr : Int) {K : Value → World → Prop} (h0 : ∀ w', ¬ (1 ≤ pid ∧ pid ≤ 8) → Mod [] w w' → K (.tuple #[.int .i64 0, .int .i64 9]) w')
    (h1 : ∀ w', 1 ≤ pid → pid ≤ 8 → free18 t pid = none ∨ 32 ≤ (dd t).length → Mod [] w w' → K (.tuple #[.int .i64 0, .int .i64 24]) w')
    (h2 : ∀ n b w', 1 ≤ pid → pid ≤ 8 → free18 t pid = some n → (dd t).length < 32 → w.heap.size ≤ b → FdsP w' p (t.set (pl pid n) (some b)) (upO ob b x) → Mod (p :: dd t) w w' → K (.tuple #[.int .i64 (n : Int), .int .i64 0]) w') :
    CallsR Try.prog F_fds_Fds_Open #[.pointer (some ⟨p, 0, none⟩), .int .i64 pid, .agg (fxc x rr).toArray] w K := by
  apply R_fds_Fds_Open_ok
  simp only [R_fds_Fds_Open]
  refine (Sep.nil (Mod.refl [] w)).new fun b w1 s1 m1 hb => ?_
  refine fat_run p pid 0 ⟨_, rfl, ?_⟩
  by_cases hok : 1 ≤ pid ∧ pid ≤ 8
  · obtain ⟨o1, o2⟩ := hok
    rw [if_pos ⟨o1, o2, by omega, by omega⟩]
    simp only [Option.isNone_some, spl_false, nilK_some, addr_add, Nat.zero_add]
    refine ffree_run (h.mod m1) o1 o2 ⟨_, rfl, ?_⟩
    cases hf : free18 t pid with
    | none =>
      simp only [spl_decide]
      exact ⟨fun _ => h1 w1 o1 o2 (.inl hf) m1, fun h => absurd (by decide) h⟩
    | some n =>
      obtain ⟨ho, hn0, hn6⟩ := free_none h.len o1 o2 hf
      have hlt := pl_lt ho
      simp only [spl_decide]
      refine ⟨fun hneg => absurd hneg (by omega), fun _ => ?_⟩
      refine ffiles_run (h.mod m1) fun A C w2 hfl => ⟨_, _, _, rfl, ?_⟩
      have m2 : Mod [] w1 w2 := by obtain ⟨G, -, -, hm⟩ := hfl; exact hm
      have m12 := m1.trans' m2
      have s2 := s1.mod0 m2
      refine ⟨fun hge => h1 w2 o1 o2 (.inr (by omega)) m12, fun hlt32 => ?_⟩
      have hb2 : w2.heap[b]? = some _ := s2.nth 0 rfl
      refine stK_of hb2 (by simp) ?_
      rw [w64 (by omega) (by omega)]
      refine ⟨⟨by omega, by omega⟩, ⟨by omega, by omega⟩, ?_⟩
      have e : (pid - 1).toNat * 6 + (n : Int).toNat = pl pid n := by unfold pl plN; omega
      rw [e]
      have h3 := h.mod m12
      obtain ⟨T, hr⟩ := h3.row
      have hbF : b ∉ p :: dd t := fun hm => by have := h.lt b hm; omega
      have hbp : b ≠ p := fun e => hbF (by simp [e])
      have hbd : b ∉ dd t := fun hm => hbF (by simp [hm])
      refine row_stK (t := t) (o := some b) (by rw [upd_ne _ hbp]; exact hr) (by have := h.len; omega) ?_
      refine h2 n b _ o1 o2 hf (by omega) (by omega) (h3.turn (by simpa using h.len) ⟨T, upd_same (by rw [upd_ne _ hbp]; exact hr)⟩ (fun hm => ?_) fun r hrm => ?_) ?_
      · rcases (mem_dd_add hn0).1 hm with e | e
        · exact hbp e.symm
        · exact h.np e
      · by_cases e : b = r
        · subst e
          refine .inl ⟨37, ?_⟩
          rw [upd_ne _ (Ne.symm hbp), upd_same hb2, plc_len_set hn0, plc_nil hbd]
          simp only [upO, if_pos]
          rfl
        · have hrd : r ∈ dd t := ((mem_dd_add hn0).1 hrm).resolve_left (Ne.symm e)
          have hrp : r ≠ p := fun e => h.np (e ▸ hrd)
          refine .inr ⟨hrd, ?_, by simp [upO, e], by rw [plc_set_ne hn0 (Ne.symm e)]⟩
          rw [upd_ne _ (Ne.symm hrp), upd_ne _ e]
      · exact (m12.of0.upd (.inr hb) _).upd (.inl (modPD (.inl rfl))) _
  · rw [if_neg (by unfold okPF; omega)]
    simp only [Option.isNone_none, spl_true]
    exact h0 w1 hok m1
theorem fopen_nil {w : World} (pid : Int) (x : FX) (rr : Int) {K : Value → World → Prop} (h0 : ∀ w', Mod [] w w' → K (.tuple #[.int .i64 0, .int .i64 9]) w') :
    CallsR Try.prog F_fds_Fds_Open #[.pointer none, .int .i64 pid, .agg (fxc x rr).toArray] w K := by
  apply R_fds_Fds_Open_ok
  simp only [R_fds_Fds_Open]
  refine (Sep.nil (Mod.refl [] w)).new fun b w1 s1 m1 hb => ?_
  refine fat_nil pid 0 ⟨_, rfl, ?_⟩
  simp only [Option.isNone_none, spl_true]
  exact h0 w1 m1

theorem fclose_run (h : FdsP w p t ob) (pid fd : Int) {K : Value → World → Prop} (h0 : ∀ w', nam t pid fd = none → Mod [] w w' → K (fxe fx0 0 9) w')
    (h1 : ∀ q w', nam t pid fd = some q → FdsP w' p (t.set (pl pid fd) none) ob → Mod (p :: dd t) w w' → K (fxe (ob q) ((plc t q).length - 1 : Int) 0) w') :
    CallsR Try.prog F_fds_Fds_Close #[.pointer (some ⟨p, 0, none⟩), .int .i64 pid, .int .i64 fd] w K := by
  apply R_fds_Fds_Close_ok
  simp only [R_fds_Fds_Close]
  refine (Sep.nil (Mod.refl [] w)).new fun b w1 s1 m1 hb => ?_
  have h3 := h.mod m1
  refine ffile_run h3 pid fd ⟨_, ptrTo_eq _, ?_⟩
  cases hn : nam t pid fd with
  | none =>
    simp only [Option.map_none, Option.isNone_none, spl_true]
    refine s1.st0 0 rfl rfl fun w2 s2 m2 => ?_
    exact ⟨0, 0, 0, false, 0, ⟨s2.cell 0 rfl rfl, s2.cell 0 rfl rfl, s2.cell 0 rfl rfl, s2.cell 0 rfl rfl, s2.cell 0 rfl rfl⟩, h0 w2 hn s2.mod⟩
  | some q =>
    obtain ⟨hq, ⟨o1, o2, o3, o4⟩, hg⟩ := nam_dd hn
    have hlt := pl_lt ⟨o1, o2, o3, o4⟩
    simp only [Option.map_some, Option.isNone_some, spl_false, nilK_some, addr_add, Nat.zero_add]
    obtain ⟨T', hq1⟩ := h3.at_ q hq
    obtain ⟨T, hr⟩ := h3.row
    have hqp : q ≠ p := fun e => h.np (e ▸ hq)
    have hbF : b ∉ p :: dd t := fun hm => by have := h.lt b hm; omega
    have hbp : b ≠ p := fun e => hbF (by simp [e])
    have hbq : b ≠ q := fun e => hbF (by simp [e, hq])
    have hle := plc_len_le t q
    rw [h.len] at hle
    refine ⟨_, (fx_cell hq1).2.2.2.2, ?_⟩
    rw [w64 (by omega) (by omega), w64 (by omega) (by omega)]
    refine file_stK hq1 _ ?_
    refine ⟨⟨by omega, by omega⟩, ⟨by omega, by omega⟩, ?_⟩
    have e : (pid - 1).toNat * 6 + fd.toNat = pl pid fd := by unfold pl plN; omega
    rw [e]
    refine row_stK (t := t) (o := none) (by rw [upd_ne _ hqp]; exact hr) (by have := h.len; omega) ?_
    obtain ⟨w2, hw2⟩ : ∃ w2, w2 = (w1.upd q (.cells (fxc (ob q) ((plc t q).length - 1)).toArray T' (0, 0))).upd p (.cells ((t.set (pl pid fd) none).map ptrTo).toArray T (0, 0)) := ⟨_, rfl⟩
    rw [← hw2]
    have hq2 : w2.heap[q]? = some (.cells (fxc (ob q) ((plc t q).length - 1)).toArray T' (0, 0)) := by rw [hw2, upd_ne _ (Ne.symm hqp), upd_same hq1]
    have hr2 : w2.heap[p]? = some (.cells ((t.set (pl pid fd) none).map ptrTo).toArray T (0, 0)) := by rw [hw2]; exact upd_same (by rw [upd_ne _ hqp]; exact hr)
    have hb2 : w2.heap[b]? = w1.heap[b]? := by rw [hw2, upd_ne _ (Ne.symm hbp), upd_ne _ (Ne.symm hbq)]
    have hk : ∀ r, r ≠ p → r ≠ q → w2.heap[r]? = w1.heap[r]? := fun r h1 h2 => by rw [hw2, upd_ne _ (Ne.symm h1), upd_ne _ (Ne.symm h2)]
    have m2 : Mod (p :: dd t) w w2 := by rw [hw2]; exact (m1.of0.upd (.inl (modPD (.inr hq))) _).upd (.inl (modPD (.inl rfl))) _
    clear hw2
    have hkl : pl pid fd < t.length := by have := h.len; omega
    have hsub : ∀ r, r ∈ dd (t.set (pl pid fd) none) → r ∈ dd t := fun r hr => (mem_dd_set hkl hr).resolve_right (by simp)
    have h4 : FdsP w2 p (t.set (pl pid fd) none) ob := by
      refine h3.turn (by simpa using h.len) ⟨T, hr2⟩ (fun hm => h.np (hsub p hm)) fun r hrm => ?_
      by_cases e : r = q
      · subst e
        refine .inl ⟨T', ?_⟩
        have := plc_len_close hg
        rw [hq2, show ((plc t r).length : Int) - 1 = ((plc (t.set (pl pid fd) none) r).length : Int) by omega]
      · have hrp : r ≠ p := fun e => h.np (e ▸ hsub r hrm)
        exact .inr ⟨hsub r hrm, hk r hrp e, rfl, by rw [plc_close_ne hg e]⟩
    obtain ⟨c0, c1, c2, c3, c4⟩ := fx_cell hq2
    refine ⟨_, _, _, _, _, ⟨c0, c1, c2, c3, c4⟩, ?_⟩
    have hbb : w2.heap[b]? = some _ := hb2.trans (s1.nth 0 rfl)
    refine stK_of hbb (by simp) ?_
    obtain ⟨w4, hw4⟩ : ∃ w4, w4 = w2.upd b (.cells (fxc (ob q) ((plc t q).length - 1)).toArray 37 (0, 0)) := ⟨_, rfl⟩
    have e4 : splice #[.int .i64 0, .int .i64 0, .int .i64 0, .bool false, .int .i64 0] 0 [.int .i64 (ob q).k, .int .i64 (ob q).i, .int .i64 (ob q).o, .bool (ob q).a, .int .i64 (((plc t q).length : Int) - 1)] = (fxc (ob q) ((plc t q).length - 1)).toArray := rfl
    rw [e4, ← hw4]
    have hb4 : w4.heap[b]? = some (.cells (fxc (ob q) ((plc t q).length - 1)).toArray 37 (0, 0)) := by rw [hw4]; exact upd_same hbb
    obtain ⟨d0, d1, d2, d3, d4⟩ := fx_cell hb4
    refine ⟨_, _, _, _, _, ⟨d0, d1, d2, d3, d4⟩, ?_⟩
    refine h1 q w4 hn (h4.keep fun r hr => ?_) ?_
    · rw [hw4, upd_ne]
      rintro rfl
      rcases List.mem_cons.1 hr with hr | hr
      · exact hbp hr
      · exact hbF (by simp [hsub _ hr])
    · rw [hw4]
      exact m2.upd (.inr hb) _
theorem fclose_nil {w : World} (pid fd : Int) {K : Value → World → Prop} (h0 : ∀ w', Mod [] w w' → K (fxe fx0 0 9) w') : CallsR Try.prog F_fds_Fds_Close #[.pointer none, .int .i64 pid, .int .i64 fd] w K := by
  apply R_fds_Fds_Close_ok
  simp only [R_fds_Fds_Close]
  refine (Sep.nil (Mod.refl [] w)).new fun b w1 s1 m1 hb => ?_
  refine ffile_nil pid fd ⟨_, rfl, ?_⟩
  simp only [Option.isNone_none, spl_true]
  refine s1.st0 0 rfl rfl fun w2 s2 m2 => ?_
  exact ⟨0, 0, 0, false, 0, ⟨s2.cell 0 rfl rfl, s2.cell 0 rfl rfl, s2.cell 0 rfl rfl, s2.cell 0 rfl rfl, s2.cell 0 rfl rfl⟩, h0 w2 s2.mod⟩

end

end Go.Proofs

set_option linter.unusedSimpArgs false
namespace Go.Proofs
open Go Go.Den

theorem dd_forkT {t : Tb} {pid child : Int} {fd : Nat} (hl : t.length = 48) {r : Nat} (h : r ∈ dd (forkT t pid child fd)) : r ∈ dd t := by
  unfold forkT at h
  split at h
  · exact h
  · rename_i q hq
    split at h
    · rename_i hc
      have h0 := nam_get hl hc.1
      rw [hc.2] at h0
      rcases (mem_dd_add h0).1 h with e | e
      · rw [e]; exact (nam_dd hq).1
      · exact e
    · exact h
theorem goneT_some {t : Tb} {pid : Int} {fd q : Nat} (h : nam t pid fd = some q) : goneT t pid fd = t.set (pl pid fd) none := by
  unfold goneT; rw [h]
theorem goneT_none {t : Tb} {pid : Int} {fd : Nat} (h : nam t pid fd = none) : goneT t pid fd = t := by
  unfold goneT; rw [h]
theorem dd_goneT {t : Tb} {pid : Int} {fd : Nat} (hl : t.length = 48) {r : Nat} (h : r ∈ dd (goneT t pid fd)) : r ∈ dd t := by
  cases hn : nam t pid fd with
  | none => rwa [goneT_none hn] at h
  | some q =>
    rw [goneT_some hn] at h
    have hk : pl pid fd < t.length := by have := pl_lt (nam_dd hn).2.1; omega
    exact (mem_dd_set hk h).resolve_right (by simp)

section
variable {w w' : World} {p : Nat} {t : Tb} {ob : Nat → FX}

theorem FdsP.at {S : List Nat} (h : FdsP w p t ob) (hm : Mod S w w') (hd : ∀ b ∈ p :: dd t, b ∉ S) : FdsP w' p t ob := h.keep (hm.at h.lt hd)

theorem ffork_run (h : FdsP w p t ob) (pid child : Int) {K : Value → World → Prop} (hK : ∀ w', FdsP w' p (fork18 t pid child) ob → (∀ r, r ∈ dd (fork18 t pid child) → r ∈ dd t) → Mod (p :: dd t) w w' → K (.tuple #[]) w') :
    CallsR Try.prog F_fds_Fds_Fork #[.pointer (some ⟨p, 0, none⟩), .int .i64 pid, .int .i64 child] w K := by
  apply R_fds_Fds_Fork_ok
  simp only [R_fds_Fds_Fork, spl_beq]
  refine ⟨fun he => ?_, fun hne => ?_⟩
  · have e : fork18 t pid child = t := by unfold fork18; rw [if_pos he]
    have := hK w
    rw [e] at this
    exact this h (fun r hr => hr) (Mod.refl _ _)
  have e : fork18 t pid child = forkN t pid child 6 := by unfold fork18; rw [if_neg hne]
  refine ⟨fun m i w' => ∃ k : Nat, i = k ∧ k ≤ 6 ∧ m = 6 - k ∧ FdsP w' p (forkN t pid child k) ob ∧ (∀ r, r ∈ dd (forkN t pid child k) → r ∈ dd t) ∧ Mod (p :: dd t) w w', ⟨6, 0, rfl, by omega, by omega, h, fun r hr => hr, Mod.refl _ _⟩, ?_⟩
  rintro m i - w1 ⟨k, rfl, hk, rfl, h1, hd1, m1⟩
  rw [spl_decide]
  refine ⟨fun hlt => ?_, fun hge => ?_⟩
  · refine ⟨fun w2 => FdsP w2 p (forkN t pid child (k + 1)) ob ∧ (∀ r, r ∈ dd (forkN t pid child (k + 1)) → r ∈ dd t) ∧ Mod (p :: dd t) w w2, fun _ w2 hj => ⟨6 - (k + 1), by omega, k + 1, by rw [w64 (by omega) (by omega)]; omega, by omega, rfl, hj⟩, ?_⟩
    have hd2 : ∀ r, r ∈ dd (forkN t pid child (k + 1)) → r ∈ dd t := fun r hr => by
      rw [forkN_succ] at hr
      exact hd1 r (dd_forkT h1.len hr)
    obtain ⟨tk, htk⟩ : ∃ tk, tk = forkN t pid child k := ⟨_, rfl⟩
    rw [forkN_succ] at hd2 ⊢
    rw [← htk] at h1 hd1 hd2 ⊢
    have stay : forkT tk pid child k = tk → FdsP w1 p (forkT tk pid child k) ob ∧ (∀ r, r ∈ dd (forkT tk pid child k) → r ∈ dd t) ∧ Mod (p :: dd t) w w1 := fun e => by
      refine ⟨?_, hd2, m1⟩
      rw [e]
      exact h1
    refine ffile_run h1 pid k ⟨_, ptrTo_eq _, fat_run p child k ⟨_, rfl, ?_⟩⟩
    cases hn : nam tk pid k with
    | none =>
      simp only [Option.map_none, Option.isNone_none, Bool.not_true, spl_false]
      exact stay (by unfold forkT; rw [hn])
    | some q =>
      simp only [Option.map_some, Option.isNone_some, Bool.not_false, spl_true]
      by_cases hc : okPF child k
      · have hpc := h1.place hc
        rw [ptrTo_eq] at hpc
        simp only [if_pos hc, Option.isNone_some, Bool.not_false, spl_true, nilK_some]
        refine ⟨_, hpc, ?_⟩
        cases hnc : nam tk child k with
        | some q' =>
          simp only [Option.map_some, Option.isNone_some, spl_false]
          exact stay (by unfold forkT; rw [hn]; simp [hnc])
        | none =>
          simp only [Option.map_none, Option.isNone_none, spl_true, addr_add, Nat.zero_add]
          have ef : forkT tk pid child k = tk.set (pl child k) (some q) := by unfold forkT; rw [hn]; simp [hc, hnc]
          obtain ⟨hq, -, hg⟩ := nam_dd hn
          obtain ⟨T', hq1⟩ := h1.at_ q hq
          obtain ⟨T, hr⟩ := h1.row
          have hle := plc_len_le tk q
          rw [h1.len] at hle
          have hqp : q ≠ p := fun e => h1.np (e ▸ hq)
          have h0 := nam_get h1.len hc
          rw [hnc] at h0
          have hlt := pl_lt hc
          refine ⟨_, (fx_cell hq1).2.2.2.2, ?_⟩
          rw [w64 (by omega) (by omega)]
          refine file_stK hq1 _ ?_
          refine row_stK (t := tk) (o := some q) (by rw [upd_ne _ hqp]; exact hr) (by have := h1.len; omega) ?_
          refine ⟨?_, hd2, ?_⟩
          · rw [ef]
            exact h1.add h0 hq hr
          · exact (m1.upd (.inl (modPD (.inr (hd1 q hq)))) _).upd (.inl (modPD (.inl rfl))) _
      · simp only [if_neg hc, Option.isNone_none, Bool.not_true, spl_false]
        exact stay (by unfold forkT; rw [hn]; simp [hc])
  · obtain rfl : k = 6 := by omega
    rw [e] at hK
    exact hK w1 h1 hd1 m1
theorem ffork_nil {w : World} (pid child : Int) {K : Value → World → Prop} (hK : K (.tuple #[]) w) : CallsR Try.prog F_fds_Fds_Fork #[.pointer none, .int .i64 pid, .int .i64 child] w K := by
  apply R_fds_Fds_Fork_ok
  simp only [R_fds_Fds_Fork, spl_beq]
  refine ⟨fun _ => hK, fun hne => ?_⟩
  refine ⟨fun m i w' => ∃ k : Nat, i = k ∧ k ≤ 6 ∧ m = 6 - k ∧ w' = w, ⟨6, 0, rfl, by omega, by omega, rfl⟩, ?_⟩
  rintro m i - w1 ⟨k, rfl, hk, rfl, rfl⟩
  rw [spl_decide]
  refine ⟨fun hlt => ?_, fun hge => hK⟩
  refine ⟨fun w2 => w2 = w1, fun _ w2 hj => ⟨6 - (k + 1), by omega, k + 1, by rw [w64 (by omega) (by omega)]; omega, by omega, rfl, hj⟩, ?_⟩
  refine ffile_nil pid k ⟨_, rfl, fat_nil child k ⟨_, rfl, ?_⟩⟩
  simp

/-! ### Gone -/

def fxR (e : FX × Int) : List Value := fxc e.1 e.2
theorem fxR_len (e : FX × Int) : (fxR e).length = 5 := rfl
/-- A row of one's own of files. -/
def FxB (w0 w : World) (A : Option Addr) (L C : Nat) (l : List (FX × Int)) : Prop := ∃ G, SlB w A L C 5 (rows fxR l) G ∧ Beyond w0.heap.size G

theorem FxB.at {w0 w w' : World} {A : Option Addr} {L C : Nat} {l : List (FX × Int)} {S : List Nat} (h : FxB w0 w A L C l) (hm : Mod S w w') (hS : ∀ b ∈ S, b < w0.heap.size) : FxB w0 w' A L C l := by
  obtain ⟨G, h1, h2⟩ := h
  exact ⟨G, h1.keep (hm.at h1.lt fun b hb hbS => by have := h2 b hb; have := hS b hbS; omega), h2⟩
theorem FxB.count {w0 w : World} {A : Option Addr} {L C : Nat} {l : List (FX × Int)} (h : FxB w0 w A L C l) : l.length = L := by
  obtain ⟨G, h1, h2⟩ := h
  exact h1.count fxR_len (by decide)

theorem fgone_run (h : FdsP w p t ob) (pid : Int) {K : Value → World → Prop} (hK : ∀ A C w', FxB w w' A (goneL t ob pid 6).length C (goneL t ob pid 6) → FdsP w' p (gone18 t pid 6) ob → (∀ r, r ∈ dd (gone18 t pid 6) → r ∈ dd t) → Mod (p :: dd t) w w' → K (.slice A (goneL t ob pid 6).length C) w') :
    CallsR Try.prog F_fds_Fds_Gone #[.pointer (some ⟨p, 0, none⟩), .int .i64 pid] w K := by
  apply R_fds_Fds_Gone_ok
  simp only [R_fds_Fds_Gone]
  refine ⟨fun m A L C i w' => ∃ k : Nat, i = k ∧ k ≤ 6 ∧ m = 6 - k ∧ FxB w w' A L C (goneL t ob pid k) ∧ FdsP w' p (gone18 t pid k) ob ∧ (∀ r, r ∈ dd (gone18 t pid k) → r ∈ dd t) ∧ Mod (p :: dd t) w w',
    ⟨6, 0, rfl, by omega, by omega, ⟨[], SlB.nil w 5, by intro x hx; cases hx⟩, h, fun r hr => hr, Mod.refl _ _⟩, ?_⟩
  rintro m A L C i - w1 ⟨k, rfl, hk, rfl, hx1, h1, hd1, m1⟩
  rw [spl_decide]
  have hold : ∀ b ∈ p :: dd t, b < w.heap.size := h.lt
  refine ⟨fun hlt => ?_, fun hge => ?_⟩
  · refine ⟨fun A L C w2 => FxB w w2 A L C (goneL t ob pid (k + 1)) ∧ FdsP w2 p (gone18 t pid (k + 1)) ob ∧ (∀ r, r ∈ dd (gone18 t pid (k + 1)) → r ∈ dd t) ∧ Mod (p :: dd t) w w2,
      fun A L C _ w2 hj => ⟨6 - (k + 1), by omega, k + 1, by rw [w64 (by omega) (by omega)]; omega, by omega, rfl, hj⟩, ?_⟩
    have hd2 : ∀ r, r ∈ dd (gone18 t pid (k + 1)) → r ∈ dd t := fun r hr => by
      rw [gone18_succ] at hr
      exact hd1 r (dd_goneT h1.len hr)
    have hll := goneL_len t ob pid k
    have hcount := hx1.count
    have eN := fun h => goneL_none (t := t) ob (pid := pid) (n := k) h
    have eS := fun q h => goneL_some (t := t) ob (pid := pid) (n := k) (q := q) h
    rw [gone18_succ] at hd2 ⊢
    obtain ⟨tk, htk⟩ : ∃ tk, tk = gone18 t pid k := ⟨_, rfl⟩
    rw [← htk] at h1 hd1 hd2 eN eS ⊢
    have hsubF : ∀ b ∈ p :: dd tk, b ∈ p :: dd t := fun b hb => by
      rcases List.mem_cons.1 hb with e | e
      · exact modPD (.inl e)
      · exact modPD (.inr (hd1 b e))
    refine fclose_run h1 pid k (fun w2 hn m2 => ?_) (fun q w2 hn h2 m2 => ?_)
    · refine ⟨_, _, _, _, _, _, rfl, ?_⟩
      refine (Sep.nil (Mod.refl [] w2)).new fun b w3 s3 m3 hb => ?_
      refine s3.st0 0 rfl rfl fun w4 s4 m4 => ?_
      rw [spl_beq]
      refine ⟨fun h => absurd h (by decide), fun _ => ?_⟩
      have m24 : Mod [] w1 w4 := m2.trans' s4.mod
      rw [eN hn, goneT_none hn]
      rw [goneT_none hn] at hd2
      exact ⟨hx1.at m24 (by simp), h1.mod m24, hd2, m1.trans' m24.of0⟩
    · refine ⟨_, _, _, _, _, _, rfl, ?_⟩
      refine (Sep.nil (Mod.refl [] w2)).new fun b w3 s3 m3 hb => ?_
      refine s3.st0 0 rfl rfl fun w4 s4 m4 => ?_
      rw [spl_beq]
      refine ⟨fun _ => ?_, fun h => absurd rfl h⟩
      refine ⟨_, _, _, _, _, ⟨s4.cell 0 rfl rfl, s4.cell 0 rfl rfl, s4.cell 0 rfl rfl, s4.cell 0 rfl rfl, s4.cell 0 rfl rfl⟩, ?_⟩
      rw [newK_eq]
      have m2' : Mod (p :: dd t) w1 w2 := m2.mono hsubF
      have hx2 := hx1.at m2' hold
      have hx4 := hx2.at s4.mod (by simp)
      have h4 := h2.mod s4.mod
      have m4' : Mod (p :: dd t) w w4 := (m1.trans' m2').trans' s4.mod.of0
      obtain ⟨G, hs, hG⟩ := hx4
      refine grow_K slT_api_File (by decide) hs (us := fxR (ob q, (plc tk q).length - 1)) (n := 1) rfl (by intro u hu; simp [fxR, fxc] at hu; rcases hu with rfl | rfl | rfl | rfl | rfl <;> rfl) (by omega) (by omega) fun A' C' w5 G' hs5 m5 o5 => ⟨_, _, _, rfl, ?_⟩
      rw [eS q hn, goneT_some hn]
      rw [goneT_some hn] at hd2
      have hG' : Beyond w.heap.size G' := hG.own o5 m4'.size
      refine ⟨⟨G', ?_, hG'⟩, h4.at m5 fun b hb hbG => ?_, hd2, m4'.trans m5 fun b hb hlt => ?_⟩
      · rw [rows_app, rows_one]
        exact hs5
      · have := hG b hbG
        rcases List.mem_cons.1 hb with e | e
        · have := hold b (by simp [e]); omega
        · have := hold b (by simp [hd2 b e]); omega
      · have := hG b hb; omega
  · obtain rfl : k = 6 := by omega
    have := hx1.count
    subst this
    exact hK A C w1 hx1 h1 hd1 m1
theorem fgone_nil {w : World} (pid : Int) {K : Value → World → Prop} (hK : ∀ w', Mod [] w w' → K (.slice none 0 0) w') : CallsR Try.prog F_fds_Fds_Gone #[.pointer none, .int .i64 pid] w K := by
  apply R_fds_Fds_Gone_ok
  simp only [R_fds_Fds_Gone]
  refine ⟨fun m A L C i w' => ∃ k : Nat, i = k ∧ k ≤ 6 ∧ m = 6 - k ∧ A = none ∧ L = 0 ∧ C = 0 ∧ Mod [] w w', ⟨6, 0, rfl, by omega, by omega, rfl, rfl, rfl, Mod.refl _ _⟩, ?_⟩
  rintro m A L C i - w1 ⟨k, rfl, hk, rfl, rfl, rfl, rfl, m1⟩
  rw [spl_decide]
  refine ⟨fun hlt => ?_, fun hge => hK w1 m1⟩
  refine ⟨fun A L C w2 => A = none ∧ L = 0 ∧ C = 0 ∧ Mod [] w w2, fun A L C _ w2 hj => ⟨6 - (k + 1), by omega, k + 1, by rw [w64 (by omega) (by omega)]; omega, by omega, rfl, hj⟩, ?_⟩
  refine fclose_nil pid k fun w2 m2 => ⟨_, _, _, _, _, _, rfl, ?_⟩
  refine (Sep.nil (m1.trans' m2)).new fun b w3 s3 m3 hb => ?_
  refine s3.st0 0 rfl rfl fun w4 s4 m4 => ?_
  rw [spl_beq]
  exact ⟨fun h => absurd h (by decide), fun _ => ⟨rfl, rfl, rfl, s4.mod⟩⟩

end

end Go.Proofs

set_option linter.unusedSimpArgs false
namespace Go.Proofs
open Go Go.Den

/-- A row of one's own of words. -/
def WdB (w0 w : World) (A : Option Addr) (L C : Nat) (ws : List Int) : Prop := ∃ G, SlB w A L C 1 (u64s ws) G ∧ Beyond w0.heap.size G ∧ Mod [] w0 w
theorem WdB.len {w0 w : World} {A : Option Addr} {L C : Nat} {ws : List Int} (h : WdB w0 w A L C ws) : ws.length = L := by
  obtain ⟨G, h1, -⟩ := h
  exact h1.u64
theorem WdB.mod0 {w0 w w' : World} {A : Option Addr} {L C : Nat} {ws : List Int} (h : WdB w0 w A L C ws) (hm : Mod [] w w') : WdB w0 w' A L C ws := by
  obtain ⟨G, h1, h2, h3⟩ := h
  exact ⟨G, h1.keep (hm.at0 h1.lt), h2, h3.trans' hm⟩
theorem WdB.mod {w0 w : World} {A : Option Addr} {L C : Nat} {ws : List Int} (h : WdB w0 w A L C ws) : Mod [] w0 w := by
  obtain ⟨G, h1, h2, h3⟩ := h
  exact h3
theorem FlB.mod {w0 w : World} {A : Option Addr} {L C : Nat} {us : List Nat} (h : FlB w0 w A L C us) : Mod [] w0 w := by
  obtain ⟨G, h1, h2, h3⟩ := h
  exact h3

/-- Words more. -/
theorem WdB.push {w0 w : World} {A : Option Addr} {L C : Nat} {ws vs : List Int} (h : WdB w0 w A L C ws) {n : Nat} (hn : vs.length = n) (hl : L + n ≤ 100000) {T ty : TypeId} {K : Value → World → Prop} (hK : ∀ A' C' w', WdB w0 w' A' (L + n) C' (ws ++ vs) → K (.slice A' (L + n) C') w') :
    runK ((Builtin.append_ #[22, 22] ty #[.slice A L C, .slice (some ⟨w.heap.size, 0, none⟩) n n]).run Try.prog (w.alloc (.cells (u64s vs).toArray T))) K := by
  obtain ⟨G, h1, h2, h3⟩ := h
  refine push_K (w0 := w0) slT_u64 (by decide) h1 h2 h3 (us := u64s vs) (n := n) (by rw [u64s_length, hn, Nat.mul_one]) (u64s_cell vs) (by omega) (by omega) fun A' C' w' G' hs' hG' hm' _ _ => hK A' C' w' ⟨G', ?_, hG', hm'⟩
  rw [u64s_append]
  exact hs'

theorem fxw_len (x : FX) : (fxw x).length = 4 := rfl
theorem flat4 (f : Nat → List Int) (hf : ∀ x, (f x).length = 4) (l : List Nat) : ((l.map f).flatten).length = 4 * l.length := by
  induction l with
  | nil => rfl
  | cons a l ih => simp [hf, ih]; omega

/-- The row's places, six by six. -/
def atT (t : Tb) (k : Nat) : Option Nat := (t[k]?).getD none
theorem atT_get {t : Tb} {k : Nat} (hk : k < t.length) : t[k]? = some (atT t k) := by simp [atT, hk]
theorem row6 {t : Tb} (hl : t.length = 48) {r : Nat} (hr : r < 8) :
    (((t.map ptrTo).toArray.toList.drop (r * 6)).take 6).toArray = #[ptrTo (atT t (r * 6 + 0)), ptrTo (atT t (r * 6 + 1)), ptrTo (atT t (r * 6 + 2)), ptrTo (atT t (r * 6 + 3)), ptrTo (atT t (r * 6 + 4)), ptrTo (atT t (r * 6 + 5))] := by
  have e : ((t.map ptrTo).drop (r * 6)).take 6 = [ptrTo (atT t (r * 6 + 0)), ptrTo (atT t (r * 6 + 1)), ptrTo (atT t (r * 6 + 2)), ptrTo (atT t (r * 6 + 3)), ptrTo (atT t (r * 6 + 4)), ptrTo (atT t (r * 6 + 5))] := by
    apply List.ext_getElem?
    intro j
    rw [List.getElem?_take]
    by_cases hj : j < 6
    · rw [if_pos hj, List.getElem?_drop, List.getElem?_map, atT_get (by omega)]
      rcases (show j = 0 ∨ j = 1 ∨ j = 2 ∨ j = 3 ∨ j = 4 ∨ j = 5 by omega) with rfl | rfl | rfl | rfl | rfl | rfl <;> rfl
    · rw [if_neg hj, List.getElem?_eq_none (by simp; omega)]
  rw [← e]

theorem idx_eq {t : Tb} {k : Nat} (hk : k < t.length) : idxP ((dd t).map some) (atT t k) + 1 = idx18 t k := by
  unfold idxP idx18
  have hg := atT_get hk
  have e : (t[k]?).getD none = atT t k := rfl
  rw [e]
  cases h : atT t k with
  | none =>
    rw [if_neg (by simp)]
    rfl
  | some q =>
    rw [h] at hg
    have hq : q ∈ dd t := mem_dd'.2 ⟨k, hg⟩
    rw [if_pos (by simp [hq])]
    have : ∀ l : List Nat, (l.map some).idxOf (some q) = l.idxOf q := by
      intro l
      induction l with
      | nil => rfl
      | cons a l ih =>
        rw [List.map_cons, List.idxOf_cons, List.idxOf_cons, ih]
        by_cases hq : a = q <;> simp [hq]
    rw [this]
theorem idx_bound {t : Tb} (hl : t.length = 48) (k : Nat) : 0 ≤ idx18 t k ∧ idx18 t k ≤ 49 := by
  unfold idx18
  cases (t[k]?).getD none with
  | none => simp
  | some q =>
    have h1 := List.idxOf_le_length (l := dd t) (a := q)
    have h2 := dd_len t
    simp only
    omega

section
variable {w : World} {p : Nat} {t : Tb} {ob : Nat → FX}

theorem fencode_run (h : FdsP w p t ob) {K : Value → World → Prop} (hK : ∀ A C w', WdB w w' A (enc18 t ob).length C (enc18 t ob) → K (.slice A (enc18 t ob).length C) w') : CallsR Try.prog F_fds_Fds_Encode #[.pointer (some ⟨p, 0, none⟩)] w K := by
  apply R_fds_Fds_Encode_ok
  simp only [R_fds_Fds_Encode, Option.isNone_some, spl_false, nilK_some]
  have hlen := h.len
  have hdl := dd_len t
  refine ffiles_run h fun A1 C1 w1 hf1 => ⟨_, _, _, rfl, ?_⟩
  have m1 := hf1.mod
  have h1 := h.mod m1
  rw [newK_eq]
  have hw2 : WdB w1 (w1.alloc (.cells #[.int .u64 (IntKind.u64.wrap ((dd t).length : Int))] 67)) (some ⟨w1.heap.size, 0, none⟩) 1 1 [((dd t).length : Int)] := by
    rw [wu64 (by omega) (by omega)]
    exact ⟨[w1.heap.size], SlB.new w1 (u64s [((dd t).length : Int)]) 67 (l := 1) (sz := 1) rfl, (by intro x hx; simp only [List.mem_singleton] at hx; omega), (Mod.refl _ _).alloc _⟩
  refine ⟨fun m A L C i w' => ∃ r : Nat, i = r ∧ r ≤ (dd t).length ∧ m = (dd t).length - r ∧ WdB w1 w' A L C (((dd t).length : Int) :: (((dd t).take r).map fun q => fxw (ob q)).flatten), ⟨(dd t).length, 0, rfl, by omega, by omega, by simpa using hw2⟩, ?_⟩
  rintro m A L C i - w2 ⟨r, rfl, hr, rfl, hb⟩
  have hbl := hb.len
  rw [List.length_cons, flat4 _ (fun q => fxw_len (ob q)), List.length_take, Nat.min_eq_left hr] at hbl
  have m2 := hb.mod
  have hf2 := hf1.mod0 m2
  have h2 := h1.mod m2
  rw [spl_decide]
  refine ⟨fun hlt => ?_, fun hge => ?_⟩
  · have hrl : r < (dd t).length := by omega
    have hg : (dd t)[r]? = some (dd t)[r] := List.getElem?_eq_getElem hrl
    obtain ⟨q, hq⟩ : ∃ q, q = (dd t)[r] := ⟨_, rfl⟩
    rw [← hq] at hg
    have hqd : q ∈ dd t := List.mem_of_getElem? hg
    obtain ⟨G, hs, -, -⟩ := hf2
    obtain ⟨ad, rfl, -, -, hc⟩ := hs.rd.at (by omega)
    have hcr := hc r (by simp; omega)
    rw [List.getElem?_map, hg, Option.map_some] at hcr
    simp only [nilK_some, Int.toNat_natCast]
    refine ⟨⟨by omega, by omega⟩, _, hcr, fun a w' => w' = w2 ∧ a = bit18 (ob q).a, fun a _ w' hj => ?_, ?_⟩
    · obtain ⟨rfl, rfl⟩ := hj
      rw [drK_eq]
      have h3 := h2.mod (Mod.refl [] w').drew
      obtain ⟨T, hq1⟩ := h3.at_ q hqd
      obtain ⟨c0, c1, c2, c3, c4⟩ := fx_cell hq1
      simp only [nilK_some, addr_add, Nat.zero_add]
      refine ⟨[q], by simp, _, c0, by simp, _, c1, by simp, _, c2, ?_⟩
      rw [newK_eq]
      refine (hb.mod0 (Mod.refl [] w').drew).push (vs := fxw (ob q)) (n := 4) rfl (by omega) fun A' C' w3 hb3 => ⟨_, _, _, rfl, (dd t).length - (r + 1), by omega, r + 1, by rw [w64 (by omega) (by omega)]; omega, by omega, rfl, ?_⟩
      rw [List.take_succ_eq_append_getElem hrl, ← hq]
      simpa using hb3
    · obtain ⟨T, hq1⟩ := h2.at_ q hqd
      obtain ⟨c0, c1, c2, c3, c4⟩ := fx_cell hq1
      simp only [nilK_some, addr_add, Nat.zero_add]
      refine ⟨_, c3, ?_⟩
      refine spl_of (fun ha => ⟨by trivial, by simp [ha, bit18]⟩) (fun ha => ⟨by trivial, by simp [ha, bit18]⟩)
  · obtain rfl : r = (dd t).length := by omega
    rw [List.take_length] at hb
    refine ⟨(t.map ptrTo).toArray, ⟨by simp [hlen], fun i hi => ?_⟩, ?_⟩
    · rw [addr_add, Nat.zero_add, h2.pt hi]
      simp [List.getElem?_eq_getElem (show i < t.length by omega)]
    obtain ⟨pre, hpre⟩ : ∃ pre, pre = ((dd t).length : Int) :: (((dd t).map fun q => fxw (ob q)).flatten) := ⟨_, rfl⟩
    have hpl : pre.length = 1 + 4 * (dd t).length := by rw [hpre, List.length_cons, flat4 _ (fun q => fxw_len (ob q))]; omega
    have hfin : enc18 t ob = pre ++ (List.range (8 * 6)).map (idx18 t) := by rw [hpre]; simp [enc18]
    rw [← hpre] at hb
    refine ⟨fun m A L C i w' => ∃ r : Nat, i = r ∧ r ≤ 8 ∧ m = 8 - r ∧ WdB w1 w' A L C (pre ++ (List.range (r * 6)).map (idx18 t)), ⟨8, 0, rfl, by omega, by omega, by simpa using hb⟩, ?_⟩
    clear hb
    rintro m A L C i - w3 ⟨r, rfl, hr, rfl, hb⟩
    rw [spl_decide]
    refine ⟨fun hlt => ?_, fun hge => ?_⟩
    · have hr8 : r < 8 := by omega
      refine ⟨⟨by omega, by omega⟩, ?_⟩
      simp only [Int.toNat_natCast]
      rw [row6 hlen hr8]
      simp only [ptrTo_eq]
      refine ⟨_, _, _, _, _, _, rfl, ?_⟩
      refine (Sep.nil (Mod.refl [] w3)).new fun b wa sa ma hbb => ?_
      refine sa.st0 0 rfl rfl fun w4 s4 m4 => ?_
      refine ⟨_, _, _, _, _, _, ⟨s4.cell 0 rfl rfl, s4.cell 0 rfl rfl, s4.cell 0 rfl rfl, s4.cell 0 rfl rfl, s4.cell 0 rfl rfl, s4.cell 0 rfl rfl⟩, ?_⟩
      refine ⟨fun m A L C i w' => ∃ j : Nat, i = j ∧ j ≤ 6 ∧ m = 6 - j ∧ WdB w1 w' A L C (pre ++ (List.range (r * 6 + j)).map (idx18 t)), ⟨6, 0, rfl, by omega, by omega, by simpa using hb.mod0 s4.mod⟩, ?_⟩
      clear hb s4 m4 sa ma
      rintro m A L C i - w5 ⟨j, rfl, hj, rfl, hb⟩
      have hbl := hb.len
      rw [List.length_append, List.length_map, List.length_range] at hbl
      rw [spl_decide]
      refine ⟨fun hlt => ?_, fun hge => ?_⟩
      · have hj6 : j < 6 := by omega
        refine ⟨⟨by omega, by omega⟩, (atT t (r * 6 + j)).map fun r => ⟨r, 0, none⟩, ?_, ?_⟩
        · simp only [Int.toNat_natCast]
          rcases (show j = 0 ∨ j = 1 ∨ j = 2 ∨ j = 3 ∨ j = 4 ∨ j = 5 by omega) with rfl | rfl | rfl | rfl | rfl | rfl <;> rfl
        · have m5 := hb.mod
          have h5 := h1.mod m5
          obtain ⟨G, hs, -, -⟩ := hf1.mod0 m5
          rw [map_ptr1] at hs
          rw [← ptrTo_eq]
          refine pindex_run hs.rd (by omega) (atT t (r * 6 + j)) (fun q hq => ?_) (fun q hq => ?_) ⟨_, rfl, ?_⟩
          · have hg := atT_get (t := t) (k := r * 6 + j) (by omega)
            rw [hq] at hg
            exact h5.plain (mem_dd'.2 ⟨_, hg⟩)
          · simp only [List.mem_map, Option.some.injEq, exists_eq_right] at hq
            exact h5.plain hq
          · have e := idx_eq (t := t) (k := r * 6 + j) (by omega)
            have hib := idx_bound hlen (r * 6 + j)
            rw [newK_eq, e, w64 (by omega) (by omega), wu64 (by omega) (by omega)]
            refine hb.push (vs := [idx18 t (r * 6 + j)]) (n := 1) rfl (by omega) fun A' C' w6 hb6 => ⟨_, _, _, rfl, 6 - (j + 1), by omega, j + 1, by rw [w64 (by omega) (by omega)]; omega, by omega, rfl, ?_⟩
            rw [← Nat.add_assoc, List.range_succ, List.map_append, ← List.append_assoc]
            exact hb6
      · obtain rfl : j = 6 := by omega
        refine ⟨8 - (r + 1), by omega, r + 1, by rw [w64 (by omega) (by omega)]; omega, by omega, rfl, ?_⟩
        rw [Nat.succ_mul]
        exact hb
    · obtain rfl : r = 8 := by omega
      rw [← hfin] at hb
      have hbl := hb.len
      subst hbl
      obtain ⟨G, g1, g2, g3⟩ := hb
      exact hK A C w3 ⟨G, g1, fun x hx => Nat.le_trans m1.size (g2 x hx), m1.trans' g3⟩
theorem fencode_nil {w : World} {K : Value → World → Prop} (hK : K (.slice none 0 0) w) : CallsR Try.prog F_fds_Fds_Encode #[.pointer none] w K := by
  apply R_fds_Fds_Encode_ok
  simpa only [R_fds_Fds_Encode, Option.isNone_none, spl_true] using hK

end

theorem equal_words {w : World} {a a2 : Option Addr} {l l2 c c2 : Nat} {xs ys : List Int} {F G : List Nat} (hx : Rd w a l 1 (u64s xs) F) (hy : Rd w a2 l2 1 (u64s ys) G) (hl : l ≤ 9223372036854775807) {K : Value → World → Prop}
    (h : ∀ w', Mod [] w w' → K (.bool (decide (xs = ys))) w') : CallsR Try.prog F_slices_Equal_uint64_uint64 #[.slice a l c, .slice a2 l2 c2] w K := by
  apply R_slices_Equal_uint64_uint64_ok
  have e1 := hx.u64
  have e2 := hy.u64
  simp only [R_slices_Equal_uint64_uint64, spl_bne, spl_decide, drK_eq]
  refine ⟨fun hne => ?_, fun heq => ?_⟩
  · have : decide (xs = ys) = false := by
      simp only [decide_eq_false_iff_not]
      rintro rfl
      omega
    rw [← this]
    exact h w (Mod.refl _ _)
  · have hll : l = l2 := by omega
    subst hll
    refine ⟨fun m i w1 => ∃ k : Nat, i = k ∧ k ≤ l ∧ m = l - k ∧ xs.take k = ys.take k ∧ Mod [] w w1, ⟨l, 0, by simp, by simp, by simp, by simp, Mod.refl _ _⟩, ?_⟩
    rintro m i - w1 ⟨k, rfl, hk, rfl, ht, hm⟩
    refine ⟨fun hlt => ?_, fun hge => ?_⟩
    · have hkl : k < l := by omega
      obtain ⟨ad, x, rfl, hx1, c1, -, -⟩ := (hx.mod0 hm.drew).u64at hkl
      obtain ⟨ad2, y, rfl, hy1, c2, -, -⟩ := (hy.mod0 hm.drew).u64at hkl
      simp only [nilK_some, Int.toNat_natCast]
      refine ⟨⟨by omega, by omega⟩, _, c1, ⟨by omega, by omega⟩, _, c2, fun hne => ?_, fun heq => ?_⟩
      · have : decide (xs = ys) = false := by
          simp only [decide_eq_false_iff_not]
          rintro rfl
          rw [hx1] at hy1
          exact hne (Option.some.inj hy1)
        rw [← this]
        exact h _ hm.drew
      · refine ⟨l - (k + 1), by omega, k + 1, by rw [w64 (by omega) (by omega)]; omega, by omega, rfl, ?_, hm.drew⟩
        have p1 := (List.getElem?_eq_some_iff.1 hx1).2
        have p2 := (List.getElem?_eq_some_iff.1 hy1).2
        rw [List.take_succ_eq_append_getElem (by omega), List.take_succ_eq_append_getElem (by omega), ht, p1, p2, heq]
    · have hkl : k = l := by omega
      subst hkl
      have : decide (xs = ys) = true := by
        simp only [decide_eq_true_eq]
        rw [List.take_of_length_le (by omega), List.take_of_length_le (by omega)] at ht
        exact ht
      rw [← this]
      exact h _ hm

end Go.Proofs

set_option linter.unusedSimpArgs false
namespace Go.Proofs
open Go Go.Den Go.Sort

theorem sort_heap {w : World} {b o : Nat} {arr : Array Value} {T : TypeId} (hb : w.heap[b]? = some (.cells arr T (0, 0))) (n : Nat) (d : Array Int) (os : Array Obj) :
    (grow (putRow (Value.int .i64) (Sort.ahead w n) b o d) os).heap[b]? = some (.cells (putCells (Value.int .i64) o d arr) T (0, 0)) ∧ Mod [b] w (grow (putRow (Value.int .i64) (Sort.ahead w n) b o d) os) := by
  have hlt := lt_of_get hb
  have hg : ∀ k, k < w.heap.size → (grow (putRow (Value.int .i64) (Sort.ahead w n) b o d) os).heap[k]? = if b = k then (w.heap[k]?).map (onCells (putCells (Value.int .i64) o d)) else w.heap[k]? := fun k hk => by
    show ((w.heap.modify b (onCells (putCells (Value.int .i64) o d))) ++ os)[k]? = _
    rw [Array.getElem?_append_left (by simpa using hk), Array.getElem?_modify]
  refine ⟨by rw [hg b hlt, if_pos rfl, hb]; rfl, rfl, rfl, rfl, ?_, fun k hk hn => ?_⟩
  · show w.heap.size ≤ ((w.heap.modify b (onCells (putCells (Value.int .i64) o d))) ++ os).size
    simp
  · rw [hg k hk, if_neg (by rintro rfl; simp at hn)]

theorem sort_run {w : World} {a : Option Addr} {l c : Nat} {xs : List Int} {G : List Nat} (hs : SlB w a l c 1 (i64s xs) G) (hl : l ≤ 1000000) {K : Value → World → Prop}
    (hK : ∀ w', SlB w' a l c 1 (i64s (xs.mergeSort fun x y => decide (x ≤ y))) G → Mod G w w' → K (.tuple #[]) w') : CallsR Try.prog F_slices_Sort_int_int #[.slice a l c] w K := by
  have hxl := hs.i64
  rcases hs with ⟨rfl, rfl, rfl, hv, rfl⟩ | ⟨b, o, arr, T, rfl, rfl, hb, hlc, hcap, hvl, hget⟩
  · have hx : xs = [] := by simpa [i64s] using hv
    subst hx
    refine Calls.mono (AnyM.slices_Sort_int_none Try.sortL none 0 w) ?_
    rintro e w1 ⟨rfl, rfl⟩
    exact ⟨_, rfl, hK w1 (by simpa using SlB.nil w1 1) (Mod.refl _ _)⟩
  · subst hxl
    have hH : Holds (Value.int .i64) w b o xs.toArray := fun j hj => by
      have hj' : j < xs.length := by simpa using hj
      refine ⟨?_, by simp [World.frozen?, hb]⟩
      rw [cell_get hb, hget j (by simpa [i64s_length] using hj'), i64s_get, List.getElem?_eq_getElem hj']
      simp [hj']
    refine Calls.mono (AnyM.slices_Sort_int Try.sortL b o c xs w hH (lt_of_get hb) (by omega)) ?_
    rintro e w1 ⟨rfl, n, os, rfl⟩
    obtain ⟨ys, hys⟩ : ∃ ys, ys = xs.mergeSort fun x y => decide (x ≤ y) := ⟨_, rfl⟩
    have hyl : ys.length = xs.length := by rw [hys]; simp
    rw [← hys] at hK ⊢
    obtain ⟨h1, h2⟩ := sort_heap (o := o) hb n ys.toArray os
    refine ⟨_, rfl, hK _ (.inr ⟨b, o, _, T, rfl, rfl, h1, hlc, by simpa [putCells] using hcap, by simp [i64s, hyl], fun i hi => ?_⟩) h2⟩
    have hi' : i < ys.length := by simpa [i64s] using hi
    have hia : o + i < arr.size := by omega
    rw [i64s_get, List.getElem?_eq_getElem hi']
    simp only [putCells, Array.getElem?_mapIdx, Array.getElem?_eq_getElem hia, Option.map_some]
    rw [if_pos ⟨by omega, by simpa using hi'⟩, show o + i - o = i by omega]
    simp [hi']

/-! ### Neighbours that are alike go -/

def cstep (out : List Int) (x : Int) : List Int := if out.getLast? = some x then out else out ++ [x]
def cmpL (l : List Int) : List Int := l.foldl cstep []
theorem cmpL_take (l : List Int) {n : Nat} {x : Int} (h : l[n]? = some x) : cmpL (l.take (n + 1)) = cstep (cmpL (l.take n)) x := by
  obtain ⟨hn, rfl⟩ := List.getElem?_eq_some_iff.1 h
  rw [List.take_succ_eq_append_getElem hn, cmpL, cmpL, List.foldl_append]
  rfl
theorem cstep_last (out : List Int) (x : Int) : (cstep out x).getLast? = some x := by
  unfold cstep
  split
  · assumption
  · simp
theorem cmpL_last (l : List Int) {n : Nat} {x : Int} (h : l[n]? = some x) : (cmpL (l.take (n + 1))).getLast? = some x := by rw [cmpL_take l h, cstep_last]
theorem cmpL_len (l : List Int) : ∀ n, n ≤ l.length → (cmpL (l.take n)).length ≤ n
  | 0, _ => by simp [cmpL]
  | n + 1, hn => by
    rw [cmpL_take l (List.getElem?_eq_getElem (show n < l.length by omega))]
    have := cmpL_len l n (by omega)
    unfold cstep
    split
    · omega
    · simp; omega
theorem mem_cstep {out : List Int} {x y : Int} : y ∈ cstep out x ↔ y ∈ out ∨ y = x := by
  unfold cstep
  split
  · rename_i h
    constructor
    · exact .inl
    · rintro (h1 | rfl)
      · exact h1
      · exact List.mem_of_getLast? h
  · simp
theorem cmpL_mem (l : List Int) : ∀ n, n ≤ l.length → ∀ y, y ∈ cmpL (l.take n) ↔ y ∈ l.take n
  | 0, _, y => by simp [cmpL]
  | n + 1, hn, y => by
    rw [cmpL_take l (List.getElem?_eq_getElem (show n < l.length by omega)), mem_cstep, cmpL_mem l n (by omega), List.take_succ_eq_append_getElem (show n < l.length by omega), List.mem_append, List.mem_singleton]
theorem cmpL_rising (l : List Int) (hl : l.Pairwise (· ≤ ·)) : ∀ n, n ≤ l.length → Rising (cmpL (l.take n))
  | 0, _ => by simp [cmpL, Rising]
  | n + 1, hn => by
    have hg : l[n]? = some l[n] := List.getElem?_eq_getElem (by omega)
    have ih := cmpL_rising l hl n (by omega)
    rw [cmpL_take l hg]
    unfold cstep
    split
    · exact ih
    · rename_i hne
      unfold Rising at ih ⊢
      rw [List.pairwise_append]
      refine ⟨ih, by simp, fun y hy z hz => ?_⟩
      rw [List.mem_singleton] at hz
      subst hz
      have hle : ∀ y, y ∈ cmpL (l.take n) → y ≤ l[n] := fun y hy => by
        have hm := (cmpL_mem l n (by omega) y).1 hy
        obtain ⟨i, hi⟩ := List.getElem?_of_mem hm
        have hi1 := (List.getElem?_eq_some_iff.1 hi).1
        rw [List.length_take] at hi1
        rw [List.getElem?_take, if_pos (by omega)] at hi
        obtain ⟨hi2, rfl⟩ := List.getElem?_eq_some_iff.1 hi
        exact List.pairwise_iff_getElem.1 hl i n hi2 (by omega) (by omega)
      have h1 := hle y hy
      rcases Int.lt_or_eq_of_le h1 with h2 | h2
      · exact h2
      · exfalso
        apply hne
        obtain ⟨i, hi⟩ := List.getElem?_of_mem hy
        obtain ⟨hi1, hi2⟩ := List.getElem?_eq_some_iff.1 hi
        rw [List.getLast?_eq_getElem?]
        have hlast : (cmpL (l.take n))[(cmpL (l.take n)).length - 1]? = some (cmpL (l.take n))[(cmpL (l.take n)).length - 1] := List.getElem?_eq_getElem (by omega)
        have h3 := hle _ (List.mem_of_getElem? hlast)
        rcases Nat.lt_or_ge i ((cmpL (l.take n)).length - 1) with h4 | h4
        · have := List.pairwise_iff_getElem.1 ih i ((cmpL (l.take n)).length - 1) hi1 (by omega) h4
          omega
        · rw [show (cmpL (l.take n)).length - 1 = i by omega, hi, h2]

/-- No two neighbours alike: nothing goes. -/
theorem cmpL_same (l : List Int) : ∀ n, n ≤ l.length → (∀ j x y, j + 1 < n → l[j]? = some x → l[j + 1]? = some y → x ≠ y) → cmpL (l.take n) = l.take n
  | 0, _, _ => by simp [cmpL]
  | 1, hn, _ => by
    rw [cmpL_take l (List.getElem?_eq_getElem (show 0 < l.length by omega)), List.take_succ_eq_append_getElem (show 0 < l.length by omega)]
    simp [cmpL, cstep]
  | n + 2, hn, h => by
    have hg : l[n + 1]? = some l[n + 1] := List.getElem?_eq_getElem (by omega)
    have hg0 : l[n]? = some l[n] := List.getElem?_eq_getElem (by omega)
    have hlast := cmpL_last l hg0
    rw [cmpL_take l hg]
    unfold cstep
    rw [if_neg, cmpL_same l (n + 1) (by omega) fun j x y hj => h j x y (by omega), ← List.take_succ_eq_append_getElem (show n + 1 < l.length by omega)]
    rw [hlast]
    intro e
    exact h n _ _ (by omega) hg0 hg (Option.some.inj e)

theorem compact_run {w : World} {a : Option Addr} {l c : Nat} {xs : List Int} {G : List Nat} (hs : SlB w a l c 1 (i64s xs) G) (hl : l ≤ 1000000) {K : Value → World → Prop}
    (hK : ∀ a' c' w', SlB w' a' (cmpL xs).length c' 1 (i64s (cmpL xs)) G → Mod G w w' → K (.slice a' (cmpL xs).length c') w') : CallsR Try.prog F_slices_Compact_int_int #[.slice a l c] w K := by
  have hxl := hs.i64
  have hlc := hs.le
  apply R_slices_Compact_int_int_ok
  simp only [R_slices_Compact_int_int, spl_decide]
  have all : (∀ j x y, j + 1 < l → xs[j]? = some x → xs[j + 1]? = some y → x ≠ y) → ∀ w', SlB w' a l c 1 (i64s xs) G → Mod G w w' → K (.slice a l c) w' := fun h w' hs' hm' => by
    have e := cmpL_same xs xs.length (Nat.le_refl _) (by rw [hxl]; exact h)
    rw [List.take_length] at e
    have := hK a c w'
    rw [e, hxl] at this
    exact this hs' hm'
  refine ⟨fun h2 => all (fun j x y hj => by omega) w hs (Mod.refl _ _), fun h2 => ?_⟩
  refine ⟨fun m i w' => ∃ k : Nat, i = k ∧ 1 ≤ k ∧ k ≤ l ∧ m = l - k ∧ (∀ j x y, j + 1 < k → xs[j]? = some x → xs[j + 1]? = some y → x ≠ y) ∧ SlB w' a l c 1 (i64s xs) G ∧ Mod [] w w', ⟨l - 1, 1, rfl, by omega, by omega, rfl, fun j x y hj => by omega, hs, Mod.refl _ _⟩, ?_⟩
  rintro m i - w1 ⟨k, rfl, hk1, hk, rfl, hne, hs1, m1⟩
  refine ⟨fun hlt => ?_, fun hge => ?_⟩
  · have hkl : k < l := by omega
    rw [drK_eq]
    have hs2 : SlB w1.drew a l c 1 (i64s xs) G := hs1.keep fun _ _ => rfl
    have m2 : Mod [] w w1.drew := m1.drew
    obtain ⟨b, o, rfl, rfl⟩ := hs2.isNone (by omega)
    have cell : ∀ j (hj : j < l), w1.drew.cell? ⟨b, o + j, none⟩ = some (.int .i64 (xs[j]'(by omega))) := fun j hj => by
      have := hs2.cell (i := j) (by rw [i64s_length]; omega)
      rw [addr_add, i64s_get, List.getElem?_eq_getElem (show j < xs.length by omega)] at this
      exact this
    simp only [nilK_some, Int.toNat_natCast, addr_add]
    rw [w64 (by omega) (by omega)]
    have ek : ((k : Int) - 1).toNat = k - 1 := by omega
    rw [ek]
    refine ⟨⟨by omega, by omega⟩, _, cell k hkl, ⟨by omega, by omega⟩, _, cell (k - 1) (by omega), ?_⟩
    rw [spl_beq]
    refine ⟨fun heq => ?_, fun hneq => ?_⟩
    · -- the first pair of like neighbours
      have e0 := cmpL_same xs k (by omega) hne
      have hgk : xs[k]? = some xs[k] := List.getElem?_eq_getElem (by omega)
      have hgk0 : xs[k - 1]? = some xs[k - 1] := List.getElem?_eq_getElem (by omega)
      have e1 : cmpL (xs.take (k + 1)) = xs.take k := by
        have hlast := cmpL_last xs hgk0
        rw [show k - 1 + 1 = k by omega] at hlast
        rw [cmpL_take xs hgk, cstep, if_pos (by rw [hlast, heq]), e0]
      refine slK_of hs2 (L := k) (H := l) (M := c) (.inl rfl) (.inr ⟨rfl, rfl⟩) (.inr ⟨rfl, rfl⟩) hk (Nat.le_refl _) hlc (Nat.le_refl _) fun a2 ha2 hs3 => ?_
      have ha2' : a2 = some ⟨b, o + k, none⟩ := by
        rw [ha2]; unfold slA; rw [if_neg (by omega)]; simp
      subst ha2'
      clear ha2 hs3
      refine ⟨fun m i j w' => ∃ (n k2 : Nat) (ys : List Int), i = n ∧ j = k2 ∧ 1 ≤ k2 ∧ k2 ≤ l - k ∧ m = l - k - k2 ∧ n = (cmpL (xs.take (k + k2))).length ∧ n + 1 ≤ k + k2 ∧ ys.length = l ∧ ys.take n = cmpL (xs.take (k + k2)) ∧ (∀ q, k + k2 ≤ q + 1 → ys[q]? = xs[q]?) ∧ SlB w' (some ⟨b, o, none⟩) l c 1 (i64s ys) [b] ∧ Mod [b] w w',
        ⟨l - k - 1, k, 1, xs, rfl, rfl, by omega, by omega, rfl, by rw [e1, List.length_take]; omega, by omega, hxl, e1.symm, fun _ _ => rfl, hs2, m2.of0⟩, ?_⟩
      rintro m i j - w3 ⟨n, k2, ys, rfl, rfl, hk21, hk22, rfl, hn, hnk, hyl, hyt, hyd, hs3, m3⟩
      refine ⟨fun hlt2 => ?_, fun hge2 => ?_⟩
      · have hk2l : k2 < l - k := by omega
        have hgx : xs[k + k2]? = some xs[k + k2] := List.getElem?_eq_getElem (by omega)
        have hgx0 : xs[k + k2 - 1]? = some xs[k + k2 - 1] := List.getElem?_eq_getElem (by omega)
        have hlast := cmpL_last xs hgx0
        rw [show k + k2 - 1 + 1 = k + k2 by omega] at hlast
        have htake := cmpL_take xs hgx
        refine ⟨fun n' w' => n' = ((cmpL (xs.take (k + (k2 + 1)))).length : Int) ∧ ∃ ys' : List Int, ys'.length = l ∧ ys'.take (cmpL (xs.take (k + (k2 + 1)))).length = cmpL (xs.take (k + (k2 + 1))) ∧ (∀ q, k + (k2 + 1) ≤ q + 1 → ys'[q]? = xs[q]?) ∧ SlB w' (some ⟨b, o, none⟩) l c 1 (i64s ys') [b] ∧ Mod [b] w w', fun n' _ w' hj => ?_, ?_⟩
        · obtain ⟨rfl, ys', g1, g2, g3, g4, g5⟩ := hj
          refine ⟨l - k - (k2 + 1), by omega, (cmpL (xs.take (k + (k2 + 1)))).length, k2 + 1, ys', rfl, by rw [w64 (by omega) (by omega)]; omega, by omega, by omega, rfl, rfl, ?_, g1, g2, g3, g4, g5⟩
          rw [← Nat.add_assoc, htake]
          unfold cstep
          split
          · omega
          · simp; omega
        · rw [drK_eq]
          have hs4 : SlB w3.drew (some ⟨b, o, none⟩) l c 1 (i64s ys) [b] := hs3.keep fun _ _ => rfl
          have cell3 : ∀ j v, ys[j]? = some v → w3.drew.cell? ⟨b, o + j, none⟩ = some (.int .i64 v) := fun j v hj => by
            have hjl := (List.getElem?_eq_some_iff.1 hj).1
            have := hs4.cell (i := j) (by rw [i64s_length]; omega)
            rw [addr_add, i64s_get, hj] at this
            exact this
          rw [w64 (by omega) (by omega)]
          have ek2 : ((k2 : Int) - 1).toNat = k2 - 1 := by omega
          rw [ek2]
          simp only [Int.toNat_natCast]
          have c1 := cell3 (k + k2) _ ((hyd (k + k2) (by omega)).trans hgx)
          have c2 := cell3 (k + k2 - 1) _ ((hyd (k + k2 - 1) (by omega)).trans hgx0)
          refine ⟨⟨by omega, by omega⟩, _, by rw [addr_add, show o + k + k2 = o + (k + k2) by omega]; exact c1, ⟨by omega, by omega⟩, _, by rw [addr_add, show o + k + (k2 - 1) = o + (k + k2 - 1) by omega]; exact c2, ?_⟩
          rw [← Nat.add_assoc, htake, spl_bne]
          refine ⟨fun hne2 => ?_, fun heq2 => ?_⟩
          · refine ⟨⟨by omega, by omega⟩, _, by rw [addr_add, show o + k + k2 = o + (k + k2) by omega]; exact c1, ⟨by omega, by omega⟩, ?_⟩
            obtain ⟨arr, T, hbk, hcap, -⟩ := hs4.block
            refine stK_of hbk (by simp; omega) ?_
            simp only [splice_cons, splice_nil]
            have hset := hs4.set hbk (j := n) (by rw [i64s_length]; omega) (.int .i64 xs[k + k2])
            rw [i64s_set] at hset
            have ec : cstep (cmpL (xs.take (k + k2))) xs[k + k2] = cmpL (xs.take (k + k2)) ++ [xs[k + k2]] := by
              unfold cstep
              rw [if_neg]
              rw [hlast]
              intro e
              exact hne2 (Option.some.inj e).symm
            rw [ec]
            refine ⟨?_, ys.set n xs[k + k2], by simpa using hyl, ?_, fun q hq => ?_, hset, m3.drew.upd (.inl (by simp)) _⟩
            · rw [w64 (by omega) (by omega)]; simp [hn]
            · rw [List.length_append, ← hn]
              simp only [List.length_singleton]
              rw [List.take_succ_eq_append_getElem (by simp; omega), List.take_set_of_le (Nat.le_refl _), hyt]
              simp
            · rw [List.getElem?_set_ne (by omega)]
              exact hyd q (by omega)
          · have ec : cstep (cmpL (xs.take (k + k2))) xs[k + k2] = cmpL (xs.take (k + k2)) := by
              unfold cstep
              rw [if_pos]
              rw [hlast, heq2]
            rw [ec]
            exact ⟨by rw [hn], ys, hyl, by rw [← hn]; exact hyt, fun q hq => hyd q (by omega), hs4, m3.drew⟩
      · have hk2 : k2 = l - k := by omega
        have hfull : xs.take (k + k2) = xs := List.take_of_length_le (by omega)
        rw [hfull] at hn hyt
        refine clear_tail slT_int (by intro v hv; simp [Value.cells] at hv; subst hv; rfl) (by decide) hs3 (i := n) (by omega) fun w4 us hs4 m4 => ⟨rfl, ?_⟩
        refine slK_of hs4 (L := 0) (H := n) (M := c) (.inr ⟨rfl, rfl⟩) (.inl rfl) (.inr ⟨rfl, rfl⟩) (by omega) (by omega) (by omega) (by omega) fun a5 ha5 hs5 => ?_
        have hn' : n = (cmpL xs).length := hn
        have ev : ((((i64s ys).take (n * 1) ++ us).drop (0 * 1)).take ((n - 0) * 1)) = i64s (cmpL xs) := by
          rw [Nat.zero_mul, List.drop_zero, Nat.sub_zero, Nat.mul_one, i64s_take, hyt, List.take_left' (by rw [i64s_length]; exact hn.symm)]
        rw [ev] at hs5
        subst hn'
        exact hK a5 _ w4 hs5 (m3.trans' m4)
    · refine ⟨l - (k + 1), by omega, k + 1, by rw [w64 (by omega) (by omega)]; omega, by omega, by omega, rfl, fun j x y hj hx hy => ?_, hs2, m2⟩
      rcases Nat.lt_or_ge (j + 1) k with h | h
      · exact hne j x y h hx hy
      · have : j = k - 1 := by omega
        subst this
        rw [List.getElem?_eq_getElem (by omega)] at hx
        rw [show k - 1 + 1 = k by omega, List.getElem?_eq_getElem (by omega)] at hy
        cases hx
        cases hy
        exact fun e => hneq e.symm
  · have hkl : k = l := by omega
    subst hkl
    exact all hne w1 hs1 m1.of0

end Go.Proofs

set_option linter.unusedSimpArgs false
namespace Go.Proofs
open Go Go.Den

theorem foldl_put : ∀ (l out : List Int), Rising out → Rising (l.foldl putL out) ∧ ∀ x, x ∈ l.foldl putL out ↔ x ∈ out ∨ x ∈ l
  | [], out, h => ⟨h, by simp⟩
  | a :: l, out, h => by
    obtain ⟨h1, h2⟩ := foldl_put l (putL out a) (h.put a)
    refine ⟨h1, fun x => ?_⟩
    rw [List.foldl_cons, h2, mem_putL, List.mem_cons]
    constructor
    · rintro ((e | e) | e) <;> simp [e]
    · rintro (e | e | e) <;> simp [e]

theorem sort_cmp (xs : List Int) : cmpL (xs.mergeSort fun x y => decide (x ≤ y)) = xs.foldl putL [] := by
  obtain ⟨h1, h2⟩ := foldl_put xs [] (by simp [Rising])
  have hs : (xs.mergeSort fun x y => decide (x ≤ y)).Pairwise (· ≤ ·) := by
    have := List.pairwise_mergeSort (le := fun x y : Int => decide (x ≤ y)) (fun a b c h1 h2 => by simp at h1 h2 ⊢; omega) (fun a b => by simp; omega) xs
    exact this.imp fun h => by simpa using h
  have hr := cmpL_rising _ hs _ (Nat.le_refl _)
  have hm := cmpL_mem (xs.mergeSort fun x y => decide (x ≤ y)) _ (Nat.le_refl _)
  rw [List.take_length] at hr hm
  refine hr.ext h1 fun x => ?_
  rw [hm, h2, List.mem_mergeSort]
  simp

section
variable {w : World} {p : Nat} {t : Tb} {ob : Nat → FX}

theorem fids_run (h : FdsP w p t ob) (kind : Int) {K : Value → World → Prop} (hK : ∀ A C w' G, SlB w' A (ids18 t ob kind).length C 1 (i64s (ids18 t ob kind)) G → Beyond w.heap.size G → Mod [] w w' → K (.slice A (ids18 t ob kind).length C) w') :
    CallsR Try.prog F_fds_Fds_Ids #[.pointer (some ⟨p, 0, none⟩), .int .i64 kind] w K := by
  apply R_fds_Fds_Ids_ok
  simp only [R_fds_Fds_Ids, Option.isNone_some, spl_false]
  have hlen := h.len
  have hdl := dd_len t
  refine ffiles_run h fun A1 C1 w1 hf1 => ⟨_, _, _, rfl, ?_⟩
  have m1 := hf1.mod
  have h1 := h.mod m1
  obtain ⟨idsN, hN⟩ : ∃ idsN : Nat → List Int, ∀ r, idsN r = (((dd t).take r).filter fun q => decide ((ob q).k = kind)).map fun q => (ob q).i := ⟨_, fun _ => rfl⟩
  have hlenN : ∀ r, (idsN r).length ≤ 48 := fun r => by
    rw [hN, List.length_map]
    have := List.length_filter_le (fun q => decide ((ob q).k = kind)) ((dd t).take r)
    rw [List.length_take] at this
    omega
  refine ⟨fun m A L C i w' => ∃ r : Nat, i = r ∧ r ≤ (dd t).length ∧ m = (dd t).length - r ∧ ∃ G, SlB w' A L C 1 (i64s (idsN r)) G ∧ Beyond w1.heap.size G ∧ Mod [] w1 w', ⟨(dd t).length, 0, rfl, by omega, by omega, [], by rw [hN]; simpa using SlB.nil w1 1, (by intro x hx; cases hx), Mod.refl _ _⟩, ?_⟩
  rintro m A L C i - w2 ⟨r, rfl, hr, rfl, G, hs, hG, m2⟩
  have hf2 := hf1.mod0 m2
  have h2 := h1.mod m2
  have hsl := hs.i64
  have hl48 := hlenN r
  rw [spl_decide]
  refine ⟨fun hlt => ?_, fun hge => ?_⟩
  · have hrl : r < (dd t).length := by omega
    have hg : (dd t)[r]? = some (dd t)[r] := List.getElem?_eq_getElem hrl
    obtain ⟨q, hq⟩ : ∃ q, q = (dd t)[r] := ⟨_, rfl⟩
    have hN1 : idsN (r + 1) = idsN r ++ (if (ob q).k = kind then [(ob q).i] else []) := by
      rw [hN, hN, List.take_succ_eq_append_getElem hrl, ← hq, List.filter_append, List.map_append]
      congr 1
      by_cases hk : (ob q).k = kind <;> simp [hk]
    rw [← hq] at hg
    have hqd : q ∈ dd t := List.mem_of_getElem? hg
    refine ⟨fun A L C w' => ∃ G, SlB w' A L C 1 (i64s (idsN (r + 1))) G ∧ Beyond w1.heap.size G ∧ Mod [] w1 w', fun A L C _ w' hj => ⟨(dd t).length - (r + 1), by omega, r + 1, by rw [w64 (by omega) (by omega)]; omega, by omega, rfl, hj⟩, ?_⟩
    obtain ⟨G1, hs1, -, -⟩ := hf2
    obtain ⟨ad, rfl, -, -, hc⟩ := hs1.rd.at (by omega)
    have hcr := hc r (by simp; omega)
    rw [List.getElem?_map, hg, Option.map_some] at hcr
    obtain ⟨T, hq1⟩ := h2.at_ q hqd
    obtain ⟨c0, c1, c2, c3, c4⟩ := fx_cell hq1
    simp only [nilK_some, Int.toNat_natCast]
    refine ⟨⟨by omega, by omega⟩, _, hcr, ?_⟩
    simp only [nilK_some, addr_add, Nat.zero_add]
    refine ⟨_, c0, ?_⟩
    rw [spl_beq, hN1]
    refine ⟨fun hk => ⟨_, c1, ?_⟩, fun hk => ?_⟩
    · rw [newK_eq, if_pos hk]
      refine push_K (w0 := w1) slT_int (by decide) hs hG m2 (us := i64s [(ob q).i]) (n := 1) rfl (i64s_cell _) (by omega) (by omega) fun A' C' w' G' hs' hG' hm' _ _ => ⟨_, _, _, rfl, G', ?_, hG', hm'⟩
      rw [i64s_append]
      exact hs'
    · rw [if_neg hk, List.append_nil]
      exact ⟨G, hs, hG, m2⟩
  · obtain rfl : r = (dd t).length := by omega
    have e : cmpL ((idsN (dd t).length).mergeSort fun x y => decide (x ≤ y)) = ids18 t ob kind := by
      rw [sort_cmp, hN, List.take_length]
      rfl
    refine sort_run hs (by omega) fun w3 hs3 m3 => ⟨rfl, ?_⟩
    refine compact_run hs3 (by omega) fun a' c' w4 hs4 m4 => ⟨_, _, _, rfl, ?_⟩
    rw [e] at hs4 ⊢
    have m5 : Mod [] w1 w4 := (m2.trans m3 fun b hb hlt => absurd (hG b hb) (by omega)).trans m4 fun b hb hlt => absurd (hG b hb) (by omega)
    exact hK a' c' w4 G hs4 (fun x hx => Nat.le_trans m1.size (hG x hx)) (m1.trans' m5)
theorem fids_nil {w : World} (kind : Int) {K : Value → World → Prop} (hK : K (.slice none 0 0) w) : CallsR Try.prog F_fds_Fds_Ids #[.pointer none, .int .i64 kind] w K := by
  apply R_fds_Fds_Ids_ok
  simpa only [R_fds_Fds_Ids, Option.isNone_none, spl_true] using hK

end

end Go.Proofs
