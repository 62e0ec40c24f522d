/-
  exo: rows of frames and blocks as they were; what the law reads of the reference's kernel.
  exo: no call writes a frame or block that its caller may not write: the law.
-/
import Derived.Test.YthpcakhhemdibaaGreatC13D
import Derived.Test.YthpcakhhemdibaaGreatR13C
import Derived.Test.YthpcakhhemdibaaGreatL13G
set_option linter.unusedVariables false
set_option linter.unusedSimpArgs false
namespace Go.Proofs
open Go Go.Den

def rowV (v : Nat → List Int) (f : RowF) (j : Nat) : Part := sl (f j).1 (v j).length (f j).2.1 1 (u64s (v j)) (f j).2.2
def rows2 (v1 v2 : Nat → List Int) (f g : RowF) : Nat → List Part
  | 0 => []
  | j + 1 => rowV v2 g j :: rowV v1 f j :: rows2 v1 v2 f g j
theorem rows2_len (v1 v2 : Nat → List Int) (f g : RowF) : ∀ j, (rows2 v1 v2 f g j).length = 2 * j
  | 0 => rfl
  | j + 1 => by rw [rows2, List.length_cons, List.length_cons, rows2_len v1 v2 f g j]; omega
theorem rows2_congr {v1 v2 : Nat → List Int} {f g f' g' : RowF} : ∀ {j}, (∀ i, i < j → f' i = f i ∧ g' i = g i) → rows2 v1 v2 f' g' j = rows2 v1 v2 f g j
  | 0, _ => rfl
  | j + 1, h => by
    rw [rows2, rows2, rows2_congr fun i hi => h i (by omega)]
    unfold rowV
    rw [(h j (by omega)).1, (h j (by omega)).2]
theorem rows2_get (v1 v2 : Nat → List Int) (f g : RowF) : ∀ {j e : Nat}, e < j → (rows2 v1 v2 f g j)[2 * (j - 1 - e)]? = some (rowV v2 g e) ∧ (rows2 v1 v2 f g j)[2 * (j - 1 - e) + 1]? = some (rowV v1 f e)
  | 0, _, h => by omega
  | j + 1, e, h => by
    rw [rows2]
    by_cases he : e = j
    · subst he
      rw [show e + 1 - 1 - e = 0 by omega]
      exact ⟨rfl, rfl⟩
    · obtain ⟨h1, h2⟩ := rows2_get v1 v2 f g (j := j) (e := e) (by omega)
      rw [show 2 * (j + 1 - 1 - e) = 2 * (j - 1 - e) + 1 + 1 by omega]
      exact ⟨by rw [List.getElem?_cons_succ, List.getElem?_cons_succ]; exact h1, by rw [List.getElem?_cons_succ, List.getElem?_cons_succ]; exact h2⟩
def arrC (v : Nat → List Int) (f : RowF) (j i : Nat) : Value := if i < j then .slice (f i).1 (v i).length (f i).2.1 else .slice none 0 0
def arrO (v : Nat → List Int) (f : RowF) (j : Nat) : Obj := .cells ((List.range 16).map (arrC v f j)).toArray 45 (0, 0)
theorem arr_next {v : Nat → List Int} {f f' : RowF} {j : Nat} (hj : j < 16) {a : Option Addr} {c : Nat} {G : List Nat} (hn : ∀ i, i < j → f' i = f i) (hf : f' j = (a, c, G)) : (Obj.cells (splice ((List.range 16).map (arrC v f j)).toArray j [.slice a (v j).length c]) 45 (0, 0)) = arrO v f' (j + 1) := by
  simp only [splice_cons, splice_nil]
  unfold arrO
  congr 1
  rw [List.setIfInBounds_toArray]
  congr 1
  refine List.ext_getElem? fun i => ?_
  rw [List.getElem?_set, List.getElem?_map, List.getElem?_map, List.length_map, List.length_range]
  by_cases hij : j = i
  · subst hij
    rw [if_pos rfl, if_pos hj, List.getElem?_range hj]
    simp only [Option.map_some, arrC]
    rw [if_pos (by omega), hf]
  · rw [if_neg hij]
    by_cases hi : i < 16
    · rw [List.getElem?_range hi]
      simp only [Option.map_some, arrC]
      by_cases h1 : i < j
      · rw [if_pos h1, if_pos (by omega), hn i h1]
      · rw [if_neg h1, if_neg (by omega)]
    · rw [List.getElem?_eq_none (by rw [List.length_range]; omega)]; rfl
theorem arr_cell {w : World} {b : Nat} {v : Nat → List Int} {f : RowF} {i : Nat} (h : w.heap[b]? = some (arrO v f 16)) (hi : i < 16) : w.cell? ⟨b, i, none⟩ = some (.slice (f i).1 (v i).length (f i).2.1) := by
  have h : w.heap[b]? = some (.cells ((List.range 16).map (arrC v f 16)).toArray 45 (0, 0)) := h
  rw [cell_get h, List.getElem?_toArray, List.getElem?_map, List.getElem?_range hi]
  simp only [Option.map_some, arrC]
  rw [if_pos hi]

section
variable {w : World} {r n : Nat} {s : S13} {G : List Nat}
/-- The capabilities of frames, and those of extents, of the reference. -/
theorem ry_capsm (h : KRY w r s G n) : ∃ pm pc Fc, r ∈ G ∧ pm ∈ G ∧ ∀ w', (∀ x ∈ G, w'.heap[x]? = w.heap[x]?) → w'.cell? ⟨r, 0, none⟩ = some (.pointer (some ⟨pm, 0, none⟩)) ∧ w'.cell? ⟨pm, 1, none⟩ = some (.pointer (some ⟨pc, 0, none⟩)) ∧ CR w' pc s.m.c Fc := by
  obtain ⟨A, h1, -, -, rfl⟩ := h
  obtain ⟨hT, B, hB, hR, hF⟩ := rxm h1
  have hpm : A.pm ∈ A.Fm := by rw [hF]; exact mem_PF.2 ⟨0, _, rfl, by simp [blk]⟩
  refine ⟨A.pm, B.pc, B.Fc, mem_PF.2 ⟨0, _, rfl, by simp [ipoPart]⟩, mem_PF.2 ⟨1, _, rfl, hpm⟩, fun w' hk => ?_⟩
  have h1' := h1.keep hk
  have hB' := hB.keep fun x hx => hk x (mem_PF.2 ⟨1, _, rfl, by rw [← hF] at hx; exact hx⟩)
  exact ⟨(rxc h1').1, rc1 hB' hR, rcr hB'⟩
theorem ry_capsd (h : KRY w r s G n) : ∃ pd pc Fc, r ∈ G ∧ pd ∈ G ∧ ∀ w', (∀ x ∈ G, w'.heap[x]? = w.heap[x]?) → w'.cell? ⟨r, 1, none⟩ = some (.pointer (some ⟨pd, 0, none⟩)) ∧ w'.cell? ⟨pd, 1, none⟩ = some (.pointer (some ⟨pc, 0, none⟩)) ∧ CR w' pc s.d.c Fc := by
  obtain ⟨A, h1, -, -, rfl⟩ := h
  obtain ⟨hT, B, hB, hF⟩ := rxd h1
  have hpm : A.pd ∈ A.Fd := by rw [hF]; exact mem_PF.2 ⟨0, _, rfl, by simp [blk]⟩
  refine ⟨A.pd, B.pc, B.Fc, mem_PF.2 ⟨0, _, rfl, by simp [ipoPart]⟩, mem_PF.2 ⟨2, _, rfl, hpm⟩, fun w' hk => ?_⟩
  have h1' := h1.keep hk
  have hB' := hB.keep fun x hx => hk x (mem_PF.2 ⟨2, _, rfl, by rw [← hF] at hx; exact hx⟩)
  exact ⟨(rxc h1').2.1, r12c1 hB', r12c hB'⟩
end

theorem arr_zero (v : Nat → List Int) (f : RowF) : arrO v f 0 = .cells #[.slice none 0 0, .slice none 0 0, .slice none 0 0, .slice none 0 0, .slice none 0 0, .slice none 0 0, .slice none 0 0, .slice none 0 0, .slice none 0 0, .slice none 0 0, .slice none 0 0, .slice none 0 0, .slice none 0 0, .slice none 0 0, .slice none 0 0, .slice none 0 0] 45 (0, 0) := rfl

/-- An ask among the arguments, its row as it lay at first. -/
theorem ask_at0 {W : World} {a : Option Addr} {l c : Nat} (hin : SlIn W 2 (Q_januslaw13_Ask W) a l c) {i : Nat} (hi : i < l) : ∃ ad n wa wl wc cs G, a = some ad ∧ Rd W wa wl 1 (u64s cs) G ∧ wl ≤ wc ∧ wc ≤ 9223372036854775807 ∧ (∀ x ∈ cs, 0 ≤ x ∧ x < 18446744073709551616) ∧ ∀ {w : World}, Mod [] W w → w.cell? (Addr.add ad (i * 2)) = some (.int .i64 n) ∧ w.cell? (Addr.add (Addr.add ad (i * 2)) 1) = some (.slice wa wl wc) := by
  obtain ⟨ad, vs, rfl, hadlt, ⟨n, wa, wl, wc, rfl, -, hw⟩, -, hcell⟩ := hin.at hi
  obtain ⟨cs, G, hr, hcs⟩ := words_in13 hw
  have c0 := hcell 0 (by omega)
  have c1 := hcell 1 (by omega)
  rw [add_zero] at c0
  refine ⟨ad, n, wa, wl, wc, cs, G, rfl, hr, hw.le.1, hw.le.2, hcs, fun {w} hm => ⟨?_, ?_⟩⟩
  · rw [hm.cell (by rw [add_block]; exact hadlt), c0]; rfl
  · rw [hm.cell (by rw [add_block, add_block]; exact hadlt), c1]; rfl

/-- What holds of all that comes of at most 'j' calls. -/
structure Wr13 (s : S13) (j : Nat) : Prop where
  t : T13 s
  k2 : kind2 s.d.c
  q8 : Q8 s
  m1 : s.m.c.L.length ≤ j
  m2 : s.m.c.last ≤ j
  d1 : s.d.c.L.length ≤ j
  d2 : s.d.c.last ≤ j
theorem Wr13.small {s : S13} {j : Nat} (h : Wr13 s j) (hj : j ≤ 80) : Small s.m.c ∧ Small12 s.d.c := ⟨⟨by have := h.m1; omega, by have := h.m2; omega⟩, ⟨by have := h.d1; omega, by have := h.d2; omega⟩⟩
theorem Wr13.raw {s : S13} {j : Nat} (h : Wr13 s j) (env : Int) (cs : List Int) (hw : W8 (rawS13 s env cs).m.c) : Wr13 (rawS13 s env cs) (j + 1) := by
  obtain ⟨⟨g1, g2⟩, g3, g4⟩ := rawS13_len s env cs
  have := h.m1; have := h.m2; have := h.d1; have := h.d2
  exact ⟨h.t.raw env cs hw, kind2_raw h.k2 env cs, q8_raw h.q8 env cs, by omega, by omega, by omega, by omega⟩
theorem Wr13_W : Wr13 (W13 3) 0 := by
  have hm : (W13 3).m.c = ⟨[], 0⟩ := rfl
  have hd : (W13 3).d.c = ⟨[], 0⟩ := rfl
  exact ⟨T13_W 3, (by rw [hd]; intro x hx; cases hx), (fun e x hx => by cases hx), (by rw [hm]; exact Nat.le_refl _), (by rw [hm]; decide), (by rw [hd]; exact Nat.le_refl _), (by rw [hd]; decide)⟩

end Go.Proofs

set_option linter.unusedSimpArgs false
namespace Go.Proofs
open Go Go.Den

/-- A frame's and a block's rows come on. -/
theorem wr_step {w0 w : World} {s : S13} {f g : RowF} {j b17 b19 k : Nat} {F : List Nat} {PY PB : Part} (hj : j < 16) (h : Den.Sep w0 w (rows2 (fun i => pageW13 s.m.m (i : Nat)) (fun i => look12 s.d (i : Nat)) f g j ++ [blk b19 (arrO (fun i => look12 s.d (i : Nat)) g j), blk b17 (arrO (fun i => pageW13 s.m.m (i : Nat)) f j), PY, kxPart k s F, PB])) {K : World → Prop}
    (hK : ∀ w' f' g' F', Den.Sep w0 w' (rows2 (fun i => pageW13 s.m.m (i : Nat)) (fun i => look12 s.d (i : Nat)) f' g' (j + 1) ++ [blk b19 (arrO (fun i => look12 s.d (i : Nat)) g' (j + 1)), blk b17 (arrO (fun i => pageW13 s.m.m (i : Nat)) f' (j + 1)), PY, kxPart k s F', PB]) → K w') :
    CallsR Tryz.prog F_exo_Kernel_Frame #[.pointer (some ⟨k, 0, none⟩), .int .i64 (j : Int)] w fun v w2 => ∃ rA : Option Addr, ∃ rL : Nat, ∃ rC : Nat, v = .slice rA rL rC ∧ ((0 ≤ (j : Int) ∧ (j : Int) < (16 : Int)) ∧ (CallsR Tryz.prog F_exo_Kernel_Block #[.pointer (some ⟨k, 0, none⟩), .int .i64 (j : Int)] w2 fun v w3 => ∃ rA2 : Option Addr, ∃ rL2 : Nat, ∃ rC2 : Nat, v = .slice rA2 rL2 rC2 ∧ (stK ⟨b17, j, none⟩ [.slice rA rL rC] w3 fun w4 => (0 ≤ (j : Int) ∧ (j : Int) < (16 : Int)) ∧ (stK ⟨b19, j, none⟩ [.slice rA2 rL2 rC2] w4 K)))) := by
  obtain ⟨v1, hv1⟩ : ∃ v1 : Nat → List Int, v1 = fun i => pageW13 s.m.m (i : Nat) := ⟨_, rfl⟩
  obtain ⟨v2, hv2⟩ : ∃ v2 : Nat → List Int, v2 = fun i => look12 s.d (i : Nat) := ⟨_, rfl⟩
  rw [← hv1, ← hv2] at h hK
  have h1j : pageW13 s.m.m (j : Int) = v1 j := by rw [hv1]
  have h2j : look12 s.d (j : Int) = v2 j := by rw [hv2]
  clear hv1 hv2
  have hkx : (rows2 v1 v2 f g j ++ [blk b19 (arrO v2 g j), blk b17 (arrO v1 f j), PY, kxPart k s F, PB])[(rows2 v1 v2 f g j).length + 3]? = some (kxPart k s F) := by rw [app_get]; rfl
  refine x_frame (h.nth _ hkx) _ fun w7 a7 c7 G7 hs7 hG7 m7 => ⟨_, _, _, rfl, ⟨by omega, by omega⟩, ?_⟩
  rw [h1j] at hs7
  have s7 := h.push (sl a7 (v1 j).length c7 1 (u64s (v1 j)) G7) m7 hs7 hG7
  have hkx' : (sl a7 (v1 j).length c7 1 (u64s (v1 j)) G7 :: (rows2 v1 v2 f g j ++ [blk b19 (arrO v2 g j), blk b17 (arrO v1 f j), PY, kxPart k s F, PB]))[(rows2 v1 v2 f g j).length + 3 + 1]? = some (kxPart k s F) := by rw [List.getElem?_cons_succ]; exact hkx
  refine x_block (s7.nth _ hkx') _ fun w8 F8 a8 c8 G8 z1 z2 z3 hs8 hG8 hD8 => ⟨_, _, _, rfl, ?_⟩
  rw [h2j] at hs8
  have s8 := sep_row s7 _ hkx' (kxPart k s F8) z1 z2 z3 (sl a8 (v2 j).length c8 1 (u64s (v2 j)) G8) hs8 hG8 hD8
  rw [List.set_cons_succ, app_set] at s8
  rw [h1j, h2j]
  obtain ⟨f', hf'⟩ : ∃ f' : RowF, ∀ i, f' i = if i = j then (a7, c7, G7) else f i := ⟨_, fun _ => rfl⟩
  obtain ⟨g', hg'⟩ : ∃ g' : RowF, ∀ i, g' i = if i = j then (a8, c8, G8) else g i := ⟨_, fun _ => rfl⟩
  have hfj : f' j = (a7, c7, G7) := by rw [hf', if_pos rfl]
  have hgj : g' j = (a8, c8, G8) := by rw [hg', if_pos rfl]
  have hfn : ∀ i, i < j → f' i = f i := fun i hi => by rw [hf', if_neg (by omega)]
  have hgn : ∀ i, i < j → g' i = g i := fun i hi => by rw [hg', if_neg (by omega)]
  have e1 : rows2 v1 v2 f' g' (j + 1) = sl a8 (v2 j).length c8 1 (u64s (v2 j)) G8 :: sl a7 (v1 j).length c7 1 (u64s (v1 j)) G7 :: rows2 v1 v2 f g j := by
    rw [rows2, rows2_congr fun i hi => ⟨hfn i hi, hgn i hi⟩]
    unfold rowV
    rw [hfj, hgj]
  have s8 : Den.Sep w0 w8 (rows2 v1 v2 f' g' (j + 1) ++ [blk b19 (arrO v2 g j), blk b17 (arrO v1 f j), PY, kxPart k s F8, PB]) := by rw [e1]; exact s8
  have hb : (rows2 v1 v2 f' g' (j + 1) ++ [blk b19 (arrO v2 g j), blk b17 (arrO v1 f j), PY, kxPart k s F8, PB])[(rows2 v1 v2 f' g' (j + 1)).length + 1]? = some (blk b17 (arrO v1 f j)) := by rw [app_get]; rfl
  refine s8.st _ hb (by simp; omega) fun w9 s9 m9 => ⟨⟨by omega, by omega⟩, ?_⟩
  rw [app_set] at s9
  have s9 : Den.Sep w0 w9 (rows2 v1 v2 f' g' (j + 1) ++ [blk b19 (arrO v2 g j), blk b17 (Obj.cells (splice ((List.range 16).map (arrC v1 f j)).toArray j [.slice a7 (v1 j).length c7]) 45 (0, 0)), PY, kxPart k s F8, PB]) := s9
  rw [arr_next hj hfn hfj] at s9
  have hb : (rows2 v1 v2 f' g' (j + 1) ++ [blk b19 (arrO v2 g j), blk b17 (arrO v1 f' (j + 1)), PY, kxPart k s F8, PB])[(rows2 v1 v2 f' g' (j + 1)).length + 0]? = some (blk b19 (arrO v2 g j)) := by rw [app_get]; rfl
  refine s9.st _ hb (by simp; omega) fun w10 s10 m10 => hK w10 f' g' F8 ?_
  rw [app_set] at s10
  have s10 : Den.Sep w0 w10 (rows2 v1 v2 f' g' (j + 1) ++ [blk b19 (Obj.cells (splice ((List.range 16).map (arrC v2 g j)).toArray j [.slice a8 (v2 j).length c8]) 45 (0, 0)), blk b17 (arrO v1 f' (j + 1)), PY, kxPart k s F8, PB]) := s10
  rw [arr_next hj hgn hgj] at s10
  exact s10

set_option maxRecDepth 100000 in
set_option maxHeartbeats 2000000 in
theorem writes13_run (w : World) (a : Option Addr) (l c : Nat) (hin : SlIn w 2 (Q_januslaw13_Ask w) a l c) (n : Int) (a2 : Option Addr) (l2 c2 : Nat) (_hn : (Lit.int .i64 n).wf = true) (hin2 : SlIn w 1 Q_u64 a2 l2 c2) : CallsR Tryz.prog F_januslaw13_ExoWrites #[.slice a l c, .agg #[.int .i64 n, .slice a2 l2 c2]] w fun v w' => v = .bool true ∧ Mod [] w w' := by
  apply R_januslaw13_ExoWrites_ok
  simp only [R_januslaw13_ExoWrites]
  have hlle := hin.le
  obtain ⟨cs2, Gc2, hr2, hcs2⟩ := words_in13 hin2
  have hle2 := hin2.le
  refine (Den.Sep.nil (Den.Mod.refl [] w)).new fun b8 w1 s1 m1 _ => ?_
  refine worlds13_run w1 fun w2 k r F G s2 => ⟨_, _, _, rfl, spl_t rfl ?_⟩
  have s3a : Den.Sep w w2 [krxPart r (W13 3) G, kxPart k (W13 3) F, blk b8 (.cells #[.int .i64 n, .slice a2 l2 c2] 32 (0, 0))] := sep_glue s1 s2
  have hy : KRY w2 r (W13 3) G 0 := KRX.y (s3a.nth 0 rfl) fun e => rfl
  have s3 : Den.Sep w w2 [kryPart r (W13 3) G 0, kxPart k (W13 3) F, blk b8 (.cells #[.int .i64 n, .slice a2 l2 c2] 32 (0, 0))] := s3a.step 0 rfl (kryPart r (W13 3) G 0) hy (Mod.refl _ _) (Own.refl _ _)
  clear s1 s2 hy s3a
  refine ⟨fun w' => ∃ (j : Nat) (s : S13) (F G : List Nat), j ≤ 80 ∧ Wr13 s j ∧ Den.Sep w w' [kryPart r s G j, kxPart k s F, blk b8 (.cells #[.int .i64 n, .slice a2 l2 c2] 32 (0, 0))], ?_, ?_⟩
  rotate_left
  · refine ⟨fun m i w' => ∃ (j : Nat) (s : S13) (F G : List Nat), i = j ∧ j ≤ l ∧ m = l - j ∧ j ≤ 80 ∧ Wr13 s j ∧ Den.Sep w w' [kryPart r s G j, kxPart k s F, blk b8 (.cells #[.int .i64 n, .slice a2 l2 c2] 32 (0, 0))], ⟨l, 0, W13 3, F, G, rfl, by omega, by omega, by omega, Wr13_W, s3⟩, ?_⟩
    clear s3 F G
    rintro m i - w4 ⟨j, s, F, G, rfl, hj, rfl, hj80, hW, s4⟩
    rw [spl_decide]
    refine ⟨fun hlt => ?_, fun _ => ⟨j, s, F, G, hj80, hW, s4⟩⟩
    rw [spl_decide]
    refine ⟨fun h80 => ?_, fun _ => ⟨j, s, F, G, hj80, hW, s4⟩⟩
    rw [drK_eq]
    have s5 := s4.mod0 ((Mod.refl [] w4).drew)
    generalize w4.drew = w5 at s5 ⊢
    obtain ⟨ad, e, wa, wl, wc, cs, Gc, rfl, hr, hle, hwc, hcs, hcell⟩ := ask_at0 hin (i := j) (by omega)
    simp only [nilK_some, Int.toNat_natCast]
    refine ⟨⟨by omega, by omega⟩, _, (hcell s5.mod).1, ⟨by omega, by omega⟩, _, _, _, (hcell s5.mod).2, ?_⟩
    refine x_raw (s5.nth 1 rfl) e (hr.keep (s5.mod.at0 hr.lt)) hle hwc hcs fun w6 F6 a6 c6 G6 z1 z2 z3 _ _ _ => ⟨_, _, _, _, rfl, ?_⟩
    have s6 : Den.Sep w w6 [kryPart r s G j, kxPart k (rawS13 s e cs) F6, blk b8 (.cells #[.int .i64 n, .slice a2 l2 c2] 32 (0, 0))] := s5.step 1 rfl (kxPart k (rawS13 s e cs) F6) z1 z2 z3
    have hW6 := hW.raw e cs (KX.w8 z1)
    rw [drK_eq]
    have s7 := s6.mod0 ((Mod.refl [] w6).drew)
    generalize w6.drew = w7 at s7 ⊢
    refine ⟨⟨by omega, by omega⟩, _, (hcell s7.mod).1, ⟨by omega, by omega⟩, _, _, _, (hcell s7.mod).2, ?_⟩
    refine r_raw (s7.nth 0 rfl) (hW.small hj80).1 (hW.small hj80).2 (by omega) hW.q8 e (hr.keep (s7.mod.at0 hr.lt)) (fun x hx hx2 => by
      have := hr.lt x hx
      have := s7.bey 0 rfl x hx2
      omega) hle hwc hcs fun w8 G8 a8 c8 H8 y1 y2 y3 _ _ => ⟨_, _, _, _, rfl, l - (j + 1), by omega, j + 1, rawS13 s e cs, F6, G8, by rw [w64 (by omega) (by omega)]; omega, by omega, rfl, by omega, hW6, s7.step 0 rfl (kryPart r (rawS13 s e cs) G8 (j + 1)) y1 y2 y3⟩
  clear s3 F G
  rintro - w4 ⟨j, s, F, G, hj80, hW, s4⟩
  refine s4.new fun b17 w5 s5 m5 _ => s5.new fun b19 w6 s6 m6 _ => ?_
  obtain ⟨PB, hPB⟩ : ∃ PB : Part, PB = blk b8 (.cells #[.int .i64 n, .slice a2 l2 c2] 32 (0, 0)) := ⟨_, rfl⟩
  obtain ⟨PY, hPY⟩ : ∃ PY : Part, PY = kryPart r s G j := ⟨_, rfl⟩
  obtain ⟨f0, hf0⟩ : ∃ f0 : RowF, f0 = fun _ => (none, 0, []) := ⟨_, rfl⟩
  rw [← hPB, ← hPY, ← arr_zero (fun i => pageW13 s.m.m (i : Nat)) f0] at s6
  replace s6 : Den.Sep w w6 (rows2 (fun i => pageW13 s.m.m (i : Nat)) (fun i => look12 s.d (i : Nat)) f0 f0 0 ++ [blk b19 (arrO (fun i => look12 s.d (i : Nat)) f0 0), blk b17 (arrO (fun i => pageW13 s.m.m (i : Nat)) f0 0), PY, kxPart k s F, PB]) := s6
  have cPB : ∀ {w' : World}, PB.P w' → b8 < w'.heap.size ∧ w'.cell? ⟨b8, 0, none⟩ = some (.int .i64 n) ∧ w'.cell? ⟨b8, 1, none⟩ = some (.slice a2 l2 c2) := fun {w'} h => by
    rw [hPB] at h
    have h : w'.heap[b8]? = some _ := h
    exact ⟨lt_of_get h, by rw [cell_get h]; rfl, by rw [cell_get h]; rfl⟩
  have hBF : b8 ∈ PB.F := by rw [hPB]; simp [blk]
  have cPY : ∀ {w' : World}, PY.P w' → KRY w' r s G j := fun {w'} h => by rw [hPY] at h; exact h
  have hYF : PY.F = G := by rw [hPY]; rfl
  clear hPB hPY s4 s5 m5 m6
  refine ⟨fun m i w' => ∃ (j' : Nat) (f g : RowF) (F : List Nat), i = j' ∧ j' ≤ 16 ∧ m = 16 - j' ∧ Den.Sep w w' (rows2 (fun i => pageW13 s.m.m (i : Nat)) (fun i => look12 s.d (i : Nat)) f g j' ++ [blk b19 (arrO (fun i => look12 s.d (i : Nat)) g j'), blk b17 (arrO (fun i => pageW13 s.m.m (i : Nat)) f j'), PY, kxPart k s F, PB]), ⟨16, 0, f0, f0, F, rfl, by omega, by omega, s6⟩, ?_⟩
  clear s6 F
  rintro m i - w7 ⟨j', f, g, F, rfl, hj', rfl, s7⟩
  rw [spl_decide]
  refine ⟨fun hlt => ?_, fun hge => ?_⟩
  · rw [drK_eq]
    have s8 := s7.mod0 ((Mod.refl [] w7).drew)
    generalize w7.drew = w8 at s8 ⊢
    simp only [addr_add, Nat.zero_add, Int.toNat_natCast]
    exact ⟨[], wr_step (by omega) s8 fun w' f' g' F' s' => ⟨16 - (j' + 1), by omega, j' + 1, f', g', F', by rw [w64 (by omega) (by omega)]; omega, by omega, rfl, s'⟩⟩
  obtain rfl : j' = 16 := by omega
  obtain ⟨v1, hv1⟩ : ∃ v1 : Nat → List Int, ∀ i, v1 i = pageW13 s.m.m (i : Nat) := ⟨_, fun _ => rfl⟩
  obtain ⟨v2, hv2⟩ : ∃ v2 : Nat → List Int, ∀ i, v2 i = look12 s.d (i : Nat) := ⟨_, fun _ => rfl⟩
  rw [show (fun i : Nat => pageW13 s.m.m (i : Nat)) = v1 from (funext hv1).symm, show (fun i : Nat => look12 s.d (i : Nat)) = v2 from (funext hv2).symm] at s7
  obtain ⟨TL, hTL⟩ : ∃ TL : S13 → List Nat → List Part, ∀ s' F, TL s' F = rows2 v1 v2 f g 16 ++ [blk b19 (arrO v2 g 16), blk b17 (arrO v1 f 16), PY, kxPart k s' F, PB] := ⟨_, fun _ _ => rfl⟩
  rw [← hTL] at s7
  have r32 : (rows2 v1 v2 f g 16).length = 32 := rows2_len v1 v2 f g 16
  have hT : ∀ s' F (i : Nat), (TL s' F)[32 + i]? = [blk b19 (arrO v2 g 16), blk b17 (arrO v1 f 16), PY, kxPart k s' F, PB][i]? := fun s' F i => by rw [hTL, ← r32, app_get]
  have h19 : ∀ s' F, (TL s' F)[32]? = some (blk b19 (arrO v2 g 16)) := fun s' F => hT s' F 0
  have h17 : ∀ s' F, (TL s' F)[33]? = some (blk b17 (arrO v1 f 16)) := fun s' F => hT s' F 1
  have hTY : ∀ s' F, (TL s' F)[34]? = some PY := fun s' F => hT s' F 2
  have hTX : ∀ s' F, (TL s' F)[35]? = some (kxPart k s' F) := fun s' F => hT s' F 3
  have hTB : ∀ s' F, (TL s' F)[36]? = some PB := fun s' F => hT s' F 4
  have hTs : ∀ s1 F1 s2 F2, (TL s1 F1).set 35 (kxPart k s2 F2) = TL s2 F2 := fun s1 F1 s2 F2 => by rw [hTL, hTL, show 35 = (rows2 v1 v2 f g 16).length + 3 by rw [r32], app_set]; rfl
  have hTr : ∀ s' F e, e < 16 → (TL s' F)[2 * (15 - e)]? = some (rowV v2 g e) ∧ (TL s' F)[2 * (15 - e) + 1]? = some (rowV v1 f e) := fun s' F e he => by
    obtain ⟨g1, g2⟩ := rows2_get v1 v2 f g (j := 16) (e := e) he
    rw [hTL, List.getElem?_append_left (by omega), List.getElem?_append_left (by omega)]
    exact ⟨g1, g2⟩
  obtain ⟨-, cb0, cb1⟩ := cPB (s7.nth 36 (hTB s F))
  refine ⟨_, cb0, _, _, _, cb1, ?_⟩
  have hk7 : KX w7 k s F := s7.nth 35 (hTX s F)
  have hall := hk7.all
  have hw2 := KX.w8d hk7
  have le1 : ∀ i, (v1 i).length ≤ 9223372036854775807 := fun i => by rw [hv1]; have := pageW_le hall.1 (i : Int); omega
  have le2 : ∀ i, (v2 i).length ≤ 9223372036854775807 := fun i => by rw [hv2]; have := look12_le hall.2 (i : Int); omega
  refine x_raw hk7 n (hr2.keep (s7.mod.at0 hr2.lt)) hle2.1 hle2.2 hcs2 fun w8 F8 a8 c8 G8 z1 z2 z3 _ _ _ => ⟨_, _, _, _, rfl, ?_⟩
  rw [spl_bne]
  have s8 := s7.step 35 (hTX s F) (kxPart k (rawS13 s n cs2) F8) z1 z2 z3
  rw [hTs] at s8
  refine ⟨fun hne => awake13_run w8 fun w9 m9 => ⟨_, rfl, rfl, s8.mod.trans' m9⟩, fun _ => ?_⟩
  clear s7 hk7 z1 z2 z3 cb0 cb1
  have hpg : ∀ i : Nat, v1 i ≠ pageW13 (rawS13 s n cs2).m.m (i : Int) → free9 s.m.c i = true ∨ has8 s.m.c.L n 1 i 2 = true := fun i h => page_raw hW.t n cs2 (by omega) (by rw [← hv1]; exact Ne.symm h)
  have hbl : ∀ i : Nat, v2 i ≠ look12 (rawS13 s n cs2).d (i : Int) → has8 s.d.c.L n 2 i 2 = true := fun i h => block_raw hall.2 hw2 hW.k2 n cs2 (by rw [← hv2]; exact Ne.symm h)
  generalize rawS13 s n cs2 = s' at s8 hpg hbl
  refine ⟨fun m i w' => ∃ (j : Nat) (F : List Nat), i = j ∧ j ≤ 16 ∧ m = 16 - j ∧ Den.Sep w w' (TL s' F), ⟨16, 0, F8, rfl, by omega, by omega, s8⟩, ?_⟩
  clear s8 hj' hge
  have hm1 := hW.m1
  have hd1 := hW.d1
  rintro m i - w9 ⟨e, F, rfl, he, rfl, s9⟩
  rw [spl_decide]
  refine ⟨fun hlt => ?_, fun hge => awake13_run w9 fun w10 m10 => ⟨_, rfl, rfl, s9.mod.trans' m10⟩⟩
  have he16 : e < 16 := by omega
  have hwf : (Lit.int .i64 (e : Int)).wf = true := by
    simp [Lit.wf, IntKind.min, IntKind.max, IntKind.bits, IntKind.signed]
    omega
  refine ⟨fun w' => ∃ F, Den.Sep w w' (TL s' F), fun _ w' ⟨F', s'⟩ => ⟨16 - (e + 1), by omega, e + 1, F', by rw [w64 (by omega) (by omega)]; omega, by omega, rfl, s'⟩, ?_⟩
  have hY9 := cPY (s9.nth 34 (hTY s' F))
  obtain ⟨pm, pc, Fc, hrG, hpG, hcap⟩ := ry_capsm hY9
  obtain ⟨c0, c1, hcr⟩ := hcap w9 fun x _ => rfl
  simp only [nilK_some, addr_add, Nat.zero_add, Int.toNat_natCast]
  refine ⟨_, c0, ?_⟩
  simp only [nilK_some, addr_add, Nat.zero_add]
  refine ⟨_, c1, holders8_run hcr (by omega) 1 _ hwf fun A10 C10 w10 G10 _ _ m10 _ => ⟨_, _, _, rfl, ?_⟩⟩
  have s10 := s9.mod0 m10
  refine ⟨fun w' => ∃ F, Den.Sep w w' (TL s' F), ?_, ?_⟩
  · rintro - w11 ⟨F1, s11⟩
    rw [drK_eq]
    have s12 := s11.mod0 ((Mod.refl [] w11).drew)
    generalize w11.drew = w12 at s12 ⊢
    clear s11 s10 m10 c0 c1 hcr
    have hY := cPY (s12.nth 34 (hTY s' F1))
    obtain ⟨pd, pc, Fc, hrG, hpG, hcap⟩ := ry_capsd hY
    have hb19 : w12.heap[b19]? = some (arrO v2 g 16) := s12.nth 32 (h19 s' F1)
    obtain ⟨hb8, -, -⟩ := cPB (s12.nth 36 (hTB s' F1))
    have hlt12 : ∀ x ∈ [b19, r, pd, b8], x < w12.heap.size := fun x hx => by
      simp only [List.mem_cons, List.not_mem_nil, or_false] at hx
      rcases hx with rfl | rfl | rfl | rfl
      · exact lt_of_get hb19
      · exact hY.lt _ hrG
      · exact hY.lt _ hpG
      · exact hb8
    refine ⟨[b19, r, pd, b8], ⟨by omega, by omega⟩, by simp, _, _, _, arr_cell hb19 he16, ?_⟩
    refine x_block (s12.nth 35 (hTX s' F1)) _ fun w13 F13 a13 c13 G13 z1 z2 z3 hs13 _ _ => ⟨_, _, _, rfl, ?_⟩
    have s13 := s12.step 35 (hTX s' F1) (kxPart k s' F13) z1 z2 z3
    rw [hTs] at s13
    have kb : keepB [b19, r, pd, b8] w12 w13 := z2.at hlt12 fun x hx hm => by
      simp only [List.mem_cons, List.not_mem_nil, or_false] at hx
      rcases hx with rfl | rfl | rfl | rfl
      · exact s12.dj 32 35 (by decide) (h19 s' F1) (hTX s' F1) x (by simp [blk]) hm
      · exact s12.dj 34 35 (by decide) (hTY s' F1) (hTX s' F1) x (by rw [hYF]; exact hrG) hm
      · exact s12.dj 34 35 (by decide) (hTY s' F1) (hTX s' F1) x (by rw [hYF]; exact hpG) hm
      · exact s12.dj 36 35 (by decide) (hTB s' F1) (hTX s' F1) x hBF hm
    have kG : ∀ x ∈ G, w13.heap[x]? = w12.heap[x]? := z2.at hY.lt fun x hx hm => s12.dj 34 35 (by decide) (hTY s' F1) (hTX s' F1) x (by rw [hYF]; exact hx) hm
    refine ⟨kb, ?_⟩
    have hrow : SlB w13 (g e).1 (v2 e).length (g e).2.1 1 (u64s (v2 e)) (g e).2.2 := s13.nth _ (hTr s' F13 e he16).1
    refine words_rd hrow.rd hs13.rd (le2 e) fun w14 m14 => ⟨_, rfl, ?_⟩
    have s14 := s13.mod0 m14
    have kb14 : keepB [b19, r, pd, b8] w12 w14 := fun x hx => (m14.at0 (F := [x]) (fun y hy => by
      simp only [List.mem_singleton] at hy
      subst hy
      exact Nat.lt_of_lt_of_le (hlt12 y hx) z2.size) x (by simp)).trans (kb x hx)
    rw [spl_decide]
    refine ⟨fun _ => ⟨kb14, F13, s14⟩, fun hne => ⟨kb14, ?_⟩⟩
    obtain ⟨c0, c1, hcr⟩ := hcap w14 fun x hx => (m14.at0 (cPY (s13.nth 34 (hTY s' F13))).lt x hx).trans (kG x hx)
    obtain ⟨-, cb0, -⟩ := cPB (s14.nth 36 (hTB s' F13))
    refine ⟨by simp, _, c0, ?_⟩
    simp only [nilK_some, addr_add, Nat.zero_add]
    refine ⟨by simp, _, c1, by simp, _, cb0, has8_run hcr (by omega) n 2 _ 2 hwf (by decide) fun w15 m15 => ⟨_, rfl, spl_t (hbl e hne) ⟨F13, s14.mod0 m15⟩⟩⟩
  · rw [drK_eq]
    have s12 := s10.mod0 ((Mod.refl [] w10).drew)
    have m12 := m10.drew
    generalize w10.drew = w12 at s12 m12 ⊢
    have hY := cPY (s12.nth 34 (hTY s' F))
    have hb17 : w12.heap[b17]? = some (arrO v1 f 16) := s12.nth 33 (h17 s' F)
    obtain ⟨hb8, -, -⟩ := cPB (s12.nth 36 (hTB s' F))
    have hlt12 : ∀ x ∈ [b17, r, pm, b8], x < w12.heap.size := fun x hx => by
      simp only [List.mem_cons, List.not_mem_nil, or_false] at hx
      rcases hx with rfl | rfl | rfl | rfl
      · exact lt_of_get hb17
      · exact hY.lt _ hrG
      · exact hY.lt _ hpG
      · exact hb8
    refine ⟨[b17, r, pm, b8], ⟨by omega, by omega⟩, by simp, _, _, _, arr_cell hb17 he16, ?_⟩
    refine x_frame (s12.nth 35 (hTX s' F)) _ fun w13 a13 c13 G13 hs13 _ m13 => ⟨_, _, _, rfl, m13.at0 hlt12, ?_⟩
    have s13 := s12.mod0 m13
    have hrow : SlB w13 (f e).1 (v1 e).length (f e).2.1 1 (u64s (v1 e)) (f e).2.2 := s13.nth _ (hTr s' F e he16).2
    refine words_rd hrow.rd hs13.rd (le1 e) fun w14 m14 => ⟨_, rfl, ?_⟩
    have s14 := s13.mod0 m14
    have kb14 : keepB [b17, r, pm, b8] w12 w14 := (m13.trans' m14).at0 hlt12
    rw [spl_decide]
    refine ⟨fun _ => ⟨kb14, F, s14⟩, fun hne => ⟨kb14, ?_⟩⟩
    rw [spl_beq]
    refine ⟨fun _ => ⟨F, s14⟩, fun hh => ?_⟩
    obtain ⟨c0, c1, hcr⟩ := hcap w14 ((m12.trans' (m13.trans' m14)).at0 hY9.lt)
    obtain ⟨-, cb0, -⟩ := cPB (s14.nth 36 (hTB s' F))
    have hnf : free9 s.m.c e ≠ true := fun hf => by
      unfold free9 at hf
      rw [List.isEmpty_iff] at hf
      rw [hf] at hh
      exact hh rfl
    refine ⟨by simp, _, c0, ?_⟩
    simp only [nilK_some, addr_add, Nat.zero_add]
    refine ⟨by simp, _, c1, by simp, _, cb0, has8_run hcr (by omega) n 1 _ 2 hwf (by decide) fun w15 m15 => ⟨_, rfl, spl_t ((hpg e hne).resolve_left hnf) ⟨F, s14.mod0 m15⟩⟩⟩

end Go.Proofs
