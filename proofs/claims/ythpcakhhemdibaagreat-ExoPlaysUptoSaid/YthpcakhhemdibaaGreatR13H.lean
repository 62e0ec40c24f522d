/-
  exo: the reference: its slots; its parts as they are read; a row that grows.
  exo: the reference: what an environment sees: the walk's parts.
-/
import Derived.Test.YthpcakhhemdibaaGreatR13C
import Derived.Test.YthpcakhhemdibaaGreatC13S
set_option linter.unusedVariables false
set_option linter.unusedSimpArgs false
namespace Go.Proofs
open Go Go.Den

/-! ### Plain -/
def slotsN (L : List CE) (e : Int) (t : Nat) : List Nat := (List.range t).filter fun j => (look8 L e ((j : Nat) + 1 : Int)).isSome
def slotsI (l : List Nat) : List Int := l.map fun j => ((j : Nat) : Int) + 1
theorem slotsN_len (L : List CE) (e : Int) (t : Nat) : (slotsN L e t).length ≤ t := by
  have := List.length_filter_le (fun j : Nat => (look8 L e ((j : Nat) + 1 : Int)).isSome) (List.range t)
  rwa [List.length_range] at this
theorem flat_filter {α β : Type} {p : α → Bool} {g : α → List β} : ∀ {l : List α}, (∀ x ∈ l, p x = false → g x = []) → (l.filter p).flatMap g = l.flatMap g
  | [], _ => rfl
  | a :: l, h => by
    have ih := flat_filter (p := p) (g := g) (l := l) fun x hx => h x (by simp [hx])
    cases hp : p a with
    | true => rw [List.filter_cons_of_pos hp, List.flatMap_cons, List.flatMap_cons, ih]
    | false => rw [List.filter_cons_of_neg (by simp [hp]), List.flatMap_cons, h a (by simp) hp, List.nil_append, ih]
theorem flat_leL {α : Type} {g : α → List Int} {c : Nat} (h : ∀ x, (g x).length ≤ c) : ∀ l : List α, (l.flatMap g).length ≤ c * l.length
  | [] => by simp
  | a :: l => by
    have := flat_leL h l
    have := h a
    rw [List.flatMap_cons, List.length_append, List.length_cons, Nat.mul_succ]
    omega
theorem flat_takeS {α : Type} {g : α → List Int} {l : List α} {j : Nat} {x : α} (h : l[j]? = some x) : (l.take (j + 1)).flatMap g = (l.take j).flatMap g ++ g x := by
  rw [List.take_add_one, h, List.flatMap_append]
  simp
theorem wrap_j {j : Nat} (h : j < 1000000) : IntKind.u64.wrap ((j : Int) + 1) = (j : Int) + 1 := wu64 (by omega) (by omega)

section
variable {w : World} {p : Nat} {s : S8} {F : List Nat}
theorem slots8_run (h : CR w p s F) (hL : s.L.length ≤ 1000000) (e : Int) {K : Value → World → Prop}
    (hK : ∀ w' A C G, SlB w' A (slotsN s.L e 64).length C 1 (i64s (slotsI (slotsN s.L e 64))) G → Beyond w.heap.size G → Mod [] w w' → K (.slice A (slotsN s.L e 64).length C) w') :
    CallsR Tryz.prog F_janusref08_Caps_Slots #[.pointer (some ⟨p, 0, none⟩), .int .i64 e] w K := by
  apply R_janusref08_Caps_Slots_ok
  simp only [R_janusref08_Caps_Slots, spl_decide, newK_eq]
  refine ⟨fun n A N C t w' => ∃ (j : Nat) (G : List Nat), t = (j : Int) + 1 ∧ j ≤ 64 ∧ n = 64 - j ∧ N = (slotsN s.L e j).length ∧ SlB w' A N C 1 (i64s (slotsI (slotsN s.L e j))) G ∧ Beyond w.heap.size G ∧ Mod [] w w', ⟨64, 0, [], rfl, by omega, rfl, rfl, SlB.nil w 1, by simp [Beyond], Mod.refl _ _⟩, ?_⟩
  rintro n A N C t - w1 ⟨j, G, rfl, hj, rfl, hN, hs, hG, m1⟩
  have hl := slotsN_len s.L e j
  refine ⟨fun hlt => ?_, fun hge => ?_⟩
  · have eN : slotsN s.L e (j + 1) = slotsN s.L e j ++ if (look8 s.L e ((j : Nat) + 1 : Int)).isSome then [j] else [] := by
      unfold slotsN
      rw [List.range_succ, List.filter_append]
      congr 1
      cases hh : (look8 s.L e ((j : Nat) + 1 : Int)).isSome <;> simp [hh]
    refine ⟨fun A' N' C' w' => ∃ G', N' = (slotsN s.L e (j + 1)).length ∧ SlB w' A' N' C' 1 (i64s (slotsI (slotsN s.L e (j + 1)))) G' ∧ Beyond w.heap.size G' ∧ Mod [] w w', ?_, ?_⟩
    · rintro A' N' C' - w3 ⟨G3, hN3, hs3, hG3, m3⟩
      exact ⟨64 - (j + 1), by omega, j + 1, G3, by rw [w64 (by omega) (by omega)]; omega, by omega, rfl, hN3, hs3, hG3, m3⟩
    refine find_run (h.mod0 m1) hL e _ (fun hn => ⟨_, rfl, fun h => absurd h (by decide), fun _ => ⟨G, ?_, ?_, hG, m1⟩⟩) (fun i c hi hc hlt => ⟨_, rfl, fun _ => ?_, fun h => absurd (show ((i : Nat) : Int) ≥ 0 by omega) h⟩)
    · rw [eN, hn]; simpa using hN
    · rw [eN, hn]; simpa using hs
    · have e2 : slotsN s.L e (j + 1) = slotsN s.L e j ++ [j] := by rw [eN, hc]; rfl
      refine push_K slT_int (by decide) hs hG m1 (us := [.int .i64 ((j : Int) + 1)]) (n := 1) rfl (by simp [isCell]) (by omega) (by omega) fun A' C' w5 G' hs' hG' hm' _ _ => ⟨_, _, _, rfl, G', ?_, ?_, hG', hm'⟩
      · rw [e2, List.length_append]; simp; omega
      · have e3 : i64s (slotsI (slotsN s.L e (j + 1))) = i64s (slotsI (slotsN s.L e j)) ++ [.int .i64 ((j : Int) + 1)] := by rw [e2]; simp [slotsI, i64s]
        rw [e3]
        exact hs'
  · obtain rfl : j = 64 := by omega
    subst hN
    exact hK w1 A C G hs hG m1
end

/-! ### What the reference reads of itself -/
structure RyC (w : World) (r : Nat) (s : S13) (pm pd pmem pc pcd : Nat) : Prop where
  c0 : w.cell? ⟨r, 0, none⟩ = some (.pointer (some ⟨pm, 0, none⟩))
  c1 : w.cell? ⟨r, 1, none⟩ = some (.pointer (some ⟨pd, 0, none⟩))
  m0 : w.cell? ⟨pm, 0, none⟩ = some (.pointer (some ⟨pmem, 0, none⟩))
  m1 : w.cell? ⟨pm, 1, none⟩ = some (.pointer (some ⟨pc, 0, none⟩))
  d1 : w.cell? ⟨pd, 1, none⟩ = some (.pointer (some ⟨pcd, 0, none⟩))
  mem : ∃ F, MemR w pmem s.m.m F
  cm : ∃ F, CR w pc s.m.c F
  cd : ∃ F, CR w pcd s.d.c F
  km : ∃ F, KR w pm s.m F
  kd : ∃ F, KR12 w pd s.d F
section
variable {w : World} {r n : Nat} {s : S13} {G : List Nat}
theorem ry_all (h : KRY w r s G n) : ∃ pm pd pmem pc pcd, r ∈ G ∧ pm ∈ G ∧ pd ∈ G ∧ ∀ w', Mod [] w w' → RyC w' r s pm pd pmem pc pcd := by
  have hlt := h.lt
  obtain ⟨A, h1, -, -, rfl⟩ := h
  have hkm := rxm h1
  have hkd := rxd h1
  obtain ⟨hT, B, hB, hR, hF⟩ := hkm
  obtain ⟨hT2, B2, hB2, hF2⟩ := hkd
  have hpm : A.pm ∈ A.Fm := by rw [hF]; exact mem_PF.2 ⟨0, _, rfl, by simp [blk]⟩
  have hpd : A.pd ∈ A.Fd := by rw [hF2]; exact mem_PF.2 ⟨0, _, rfl, by simp [blk]⟩
  refine ⟨A.pm, A.pd, B.pm, B.pc, B2.pc, mem_PF.2 ⟨0, _, rfl, by simp [ipoPart]⟩, mem_PF.2 ⟨1, _, rfl, hpm⟩, mem_PF.2 ⟨2, _, rfl, hpd⟩, fun w' hm => ?_⟩
  have h1' := h1.mod0 hm
  have hB' := hB.mod0 hm
  have hB2' := hB2.mod0 hm
  exact ⟨(rxc h1').1, (rxc h1').2.1, rc0 hB' hR, rc1 hB' hR, r12c1 hB2', ⟨_, rmem hB'⟩, ⟨_, rcr hB'⟩, ⟨_, r12c hB2'⟩, ⟨_, rxm h1'⟩, ⟨_, rxd h1'⟩⟩
theorem mpage_run {w : World} {p : Nat} {m : List (List Int)} {F : List Nat} (h : MemR w p m F) (f : Int) {K : Value → World → Prop} (hK : ∀ a l c H, Rd w a l 1 (u64s (pageW13 m f)) H → K (.slice a l c) w) : CallsR Tryz.prog F_janusref01_Mem_Page #[.pointer (some ⟨p, 0, none⟩), .int .i64 f] w K := by
  refine memr_page h f (fun hb => ?_) fun k b q hn hb hs _ => ?_
  · have e : pageW13 m f = [] := by unfold pageW13; rw [if_neg (by unfold inM; omega)]
    rw [e] at hK
    exact hK none 0 0 [] (Rd.nil w none 1)
  · subst hn
    have hk := (List.getElem?_eq_some_iff.1 hb).1
    have e : pageW13 m (k : Int) = b := by
      unfold pageW13 row9
      rw [if_pos ⟨by omega, by omega⟩, Int.toNat_natCast, hb]
      rfl
    rw [e] at hK
    exact hK _ _ _ _ hs.rd
theorem kr12_look {w : World} {p : Nat} {s : S12} {F : List Nat} (h : KR12 w p s F) (b : Int) {K : Value → World → Prop} (hK : ∀ a l c H, Rd w a l 1 (u64s (look12 s b)) H → K (.slice a l c) w) : CallsR Tryz.prog F_janusref12_Kernel_Look #[.pointer (some ⟨p, 0, none⟩), .int .i64 b] w K := by
  obtain ⟨hT, A, h1, rfl⟩ := h
  exact rlook12_run hT h1 b fun a c G hs => hK _ _ _ _ hs.rd
theorem kr_page {w : World} {p : Nat} {s : S9} {F : List Nat} (h : KR w p s F) (e q : Int) {K : Value → World → Prop} (hK : ∀ w', Mod [] w w' → K (.tuple #[.agg #[.int .i64 (pz (pageT s e q)).1, .bool (pz (pageT s e q)).2], .bool (pageT s e q).isSome]) w') :
    CallsR Tryz.prog F_janusref09_Kernel_Page #[.pointer (some ⟨p, 0, none⟩), .int .i64 e, .int .i64 q] w K := by
  obtain ⟨hT, A, h1, hR, rfl⟩ := h
  apply R_janusref09_Kernel_Page_ok
  simp only [R_janusref09_Kernel_Page, nilK_some, addr_add, Nat.zero_add]
  refine (Den.Sep.nil (Mod.refl [] w)).new fun b w1 s1 m1 hb => ?_
  have h2 := h1.mod0 m1
  unfold pageT at hK
  refine env8_run e ⟨_, rfl, ?_⟩
  rw [spl_decide]
  refine ⟨fun he => ?_, fun he => ?_⟩
  · rw [if_pos he] at hK
    refine ⟨⟨he.1, he.2⟩, tblr_at (rblk h2) (hR.t _ (by unfold env12 at he; omega)) q fun w2 m2 => ⟨_, _, _, rfl, ?_⟩⟩
    have s2 := s1.mod0 m2
    exact s2.st0 0 rfl rfl fun w3 s3 m3 => ⟨_, _, ⟨s3.cell 0 rfl rfl, s3.cell 0 rfl rfl⟩, hK w3 s3.mod⟩
  · rw [if_neg he] at hK
    exact s1.st0 0 rfl rfl fun w3 s3 m3 => ⟨_, _, ⟨s3.cell 0 rfl rfl, s3.cell 0 rfl rfl⟩, hK w3 s3.mod⟩
end

/-! ### A row that grows -/
section
variable {w0 w : World} {l : List Part} {i : Nat} {A : Option Addr} {C : Nat} {acc : List Int} {G : List Nat}
theorem out_row (h : Den.Sep w0 w l) (hi : l[i]? = some (sl A acc.length C 1 (u64s acc) G)) (hb : acc.length ≤ 4000000) {a2 : Option Addr} {l2 c2 : Nat} {ws : List Int} {H : List Nat} (hr : Rd w a2 l2 1 (u64s ws) H) (hw : ws.length ≤ 100) {K : Option Addr → Nat → Nat → World → Prop}
    (hK : ∀ w' A' C' G', Den.Sep w0 w' (l.set i (sl A' (acc ++ ws).length C' 1 (u64s (acc ++ ws)) G')) → K A' (acc ++ ws).length C' w') :
    runK ((Builtin.append_ #[27, 27] 27 #[.slice A acc.length C, .slice a2 l2 c2]).run Tryz.prog w) fun v w' => ∃ xA : Option Addr, ∃ xL : Nat, ∃ xC : Nat, v = .slice xA xL xC ∧ K xA xL xC w' := by
  have hl := hr.u64
  refine grow_rd_K slT_u64 (by decide) (h.nth i hi : SlB w A acc.length C 1 (u64s acc) G) hr (u64s_cell _) (by omega) (by omega) fun A3 C3 w3 G3 hs3 m3 o3 => ⟨_, _, _, rfl, ?_⟩
  have e : acc.length + l2 = (acc ++ ws).length := by rw [List.length_append]; omega
  rw [← u64s_append, e] at hs3
  rw [e]
  exact hK w3 A3 C3 G3 (h.step i hi (sl A3 (acc ++ ws).length C3 1 (u64s (acc ++ ws)) G3) hs3 m3 o3)
theorem out_new (h : Den.Sep w0 w l) (hi : l[i]? = some (sl A acc.length C 1 (u64s acc) G)) (hb : acc.length ≤ 4000000) {ws : List Int} {n : Nat} {T : TypeId} (hn : ws.length = n) (hw : ws.length ≤ 100) {K : Option Addr → Nat → Nat → World → Prop}
    (hK : ∀ w' A' C' G', Den.Sep w0 w' (l.set i (sl A' (acc ++ ws).length C' 1 (u64s (acc ++ ws)) G')) → K A' (acc ++ ws).length C' w') :
    newK w (.cells (u64s ws).toArray T) fun b w1 => runK ((Builtin.append_ #[27, 27] 27 #[.slice A acc.length C, .slice (some ⟨b, 0, none⟩) n n]).run Tryz.prog w1) fun v w' => ∃ xA : Option Addr, ∃ xL : Nat, ∃ xC : Nat, v = .slice xA xL xC ∧ K xA xL xC w' := by
  rw [newK_eq]
  have hs := SlB.new w (u64s ws) T (l := n) (sz := 1) (by rw [u64s_length, hn, Nat.mul_one])
  exact out_row (h.mod0 ((Mod.refl [] w).alloc (.cells (u64s ws).toArray T))) hi hb hs.rd hw hK
end

end Go.Proofs

set_option linter.unusedSimpArgs false
namespace Go.Proofs
open Go Go.Den

theorem capsW_at {s : S13} {env : Int} {x : Nat} (h : (look8 s.m.c.L env ((x : Nat) + 1 : Int)).isSome = true) : capsW13 s env x = [(x : Int) + 1, IntKind.u64.wrap (getV8 s.m.c.L env ((x : Nat) + 1 : Int)).1.i, IntKind.u64.wrap (getV8 s.m.c.L env ((x : Nat) + 1 : Int)).1.r] ++ pageW13 s.m.m (getV8 s.m.c.L env ((x : Nat) + 1 : Int)).1.i := by
  unfold capsW13 getV8
  cases hc : look8 s.m.c.L env ((x : Nat) + 1 : Int) with
  | none => rw [hc] at h; cases h
  | some c => rfl
theorem capsW_none {s : S13} {env : Int} {x : Nat} (h : (look8 s.m.c.L env ((x : Nat) + 1 : Int)).isSome = false) : capsW13 s env x = [] := by
  unfold capsW13
  cases hc : look8 s.m.c.L env ((x : Nat) + 1 : Int) with
  | none => rfl
  | some c => rw [hc] at h; cases h
theorem extW_at {s : S13} {env : Int} {x : Nat} (h : (look8 s.d.c.L env ((x : Nat) + 1 : Int)).isSome = true) : extW13 s env x = [(x : Int) + 1, IntKind.u64.wrap (getV8 s.d.c.L env ((x : Nat) + 1 : Int)).1.i, IntKind.u64.wrap (getV8 s.d.c.L env ((x : Nat) + 1 : Int)).1.n, IntKind.u64.wrap (getV8 s.d.c.L env ((x : Nat) + 1 : Int)).1.r] ++ ((List.range (getV8 s.d.c.L env ((x : Nat) + 1 : Int)).1.n.toNat).flatMap fun b => look12 s.d ((getV8 s.d.c.L env ((x : Nat) + 1 : Int)).1.i + (b : Nat))) := by
  unfold extW13 getV8
  cases hc : look8 s.d.c.L env ((x : Nat) + 1 : Int) with
  | none => rw [hc] at h; cases h
  | some c => rfl
theorem extW_none {s : S13} {env : Int} {x : Nat} (h : (look8 s.d.c.L env ((x : Nat) + 1 : Int)).isSome = false) : extW13 s env x = [] := by
  unfold extW13
  cases hc : look8 s.d.c.L env ((x : Nat) + 1 : Int) with
  | none => rfl
  | some c => rw [hc] at h; cases h
theorem slotsN_at {L : List CE} {e : Int} {t j x : Nat} (h : (slotsN L e t)[j]? = some x) : x < t ∧ (look8 L e ((x : Nat) + 1 : Int)).isSome = true := by
  have := List.mem_filter.1 (List.mem_of_getElem? h)
  exact ⟨List.mem_range.1 this.1, this.2⟩
theorem slot_cell {w : World} {a : Option Addr} {n c : Nat} {S : List Nat} {H : List Nat} {j x : Nat} (h : SlB w a n c 1 (i64s (slotsI S)) H) (hx : S[j]? = some x) (hj : j < n) : ∃ ad, a = some ad ∧ w.cell? (Addr.add ad j) = some (.int .i64 ((x : Int) + 1)) ∧ ad.block < w.heap.size := by
  obtain ⟨ad, y, ha, hy, hc, -, hb⟩ := h.rd.i64at (k := j) hj
  refine ⟨ad, ha, ?_, hb⟩
  have e : (slotsI S)[j]? = some ((x : Int) + 1) := by unfold slotsI; rw [List.getElem?_map, hx]; rfl
  rw [e] at hy
  cases hy
  exact hc
theorem new_row {w0 w : World} {l : List Part} {xs : List Int} {T : TypeId} {n : Nat} (h : Den.Sep w0 w l) (hn : xs.length = n) {K : Nat → World → Prop} (hK : ∀ b w', Den.Sep w0 w' (sl (some ⟨b, 0, none⟩) n n 1 (u64s xs) [b] :: l) → K b w') : newK w (.cells (u64s xs).toArray T) K := by
  rw [newK_eq]
  have hs := SlB.new w (u64s xs) T (l := n) (sz := 1) (by rw [u64s_length, hn, Nat.mul_one])
  exact hK _ _ (h.push (sl (some ⟨w.heap.size, 0, none⟩) n n 1 (u64s xs) [w.heap.size]) ((Mod.refl [] w).alloc (.cells (u64s xs).toArray T)) hs (by
    intro x hx
    simp only [sl, List.mem_singleton] at hx
    omega))

section
variable {w : World} {r n : Nat} {s : S13} {G : List Nat}

set_option maxRecDepth 100000 in
set_option maxHeartbeats 4000000 in
theorem r_sees (h : KRY w r s G n) (hSm : Small s.m.c) (hSd : Small12 s.d.c) (hn : n ≤ 1000) (hall : All32 s.m.m) (hT : T12 s.d) (hW : W8 s.d.c) (env : Int) {K : Value → World → Prop}
    (hK : ∀ w' a c H, SlB w' a (sees13 s env).length c 1 (u64s (sees13 s env)) H → Mod [] w w' → K (.slice a (sees13 s env).length c) w') :
    CallsR Tryz.prog F_janusref13_Kernel_Sees #[.pointer (some ⟨r, 0, none⟩), .int .i64 env] w K := by
  obtain ⟨pm, pd, pmem, pc, pcd, hrG, hmG, hdG, hC⟩ := ry_all h
  have hlt := h.lt
  obtain ⟨A, h1, hq', hl, -⟩ := h
  have hq : (s.q env).length ≤ 1000 := by
    rw [hq']
    unfold V11.projQ
    rw [List.length_map]
    exact Nat.le_trans (List.length_filter_le _ _) (by omega)
  have hcl : ∀ j, (capsW13 s env j).length ≤ 35 := fun j => by
    unfold capsW13
    split
    · simp
    · rename_i c _
      have := pageW_le hall c.x.i
      simp only [List.length_append, List.length_cons, List.length_nil]
      omega
  have hpl : ∀ j, (pagesW13 s env j).length ≤ 3 := fun j => by
    unfold pagesW13
    split <;> simp
  have hel : ∀ j, (extW13 s env j).length ≤ 32772 := fun j => by
    unfold extW13
    split
    · simp
    · rename_i c hc
      have hm := (look8_some hc).1
      have h3 := hT.cap c hm
      obtain ⟨-, h2, -⟩ := (hW.in_ c hm).2.2.2.1
      have h4 := hT.le
      have h5 := flat_le (f := fun b => look12 s.d (c.x.i + (b : Nat))) (c := 32) (fun b => look12_le hT _) c.x.n.toNat
      have h6 : c.x.n.toNat ≤ 1024 := by omega
      simp only [List.length_append, List.length_cons, List.length_nil]
      have : 32 * c.x.n.toNat ≤ 32 * 1024 := Nat.mul_le_mul_left _ h6
      omega
  have b1 := flat_le hcl 64
  have b2 : ∀ j, ((List.range j).flatMap (pagesW13 s env)).length ≤ 3 * j := flat_le hpl
  have hm1 := hSm.1
  have hd1 := hSd.1
  apply R_janusref13_Kernel_Sees_ok
  simp only [R_janusref13_Kernel_Sees, nilK_some, addr_add, Nat.zero_add]
  refine ⟨_, (rxc h1).2.2, V10.ris_run (rxe h1) env ⟨_, rfl, ?_⟩⟩
  rw [spl_decide]
  refine ⟨fun hin => ?_, fun hno => ?_⟩
  rotate_left
  · have e : sees13 s env = [] := if_neg hno
    rw [e] at hK
    exact hK w none 0 [] (SlB.nil w 1) (Mod.refl _ _)
  have eS : sees13 s env = 1 :: ((List.range 64).flatMap (capsW13 s env) ++ (List.range 4).flatMap (pagesW13 s env) ++ (List.range 64).flatMap (extW13 s env) ++ [(((s.q env).length : Nat) : Int)]) := if_pos hin
  refine new_row (xs := [1]) (Den.Sep.nil (Mod.refl [] w)) rfl fun b8 w9 s9 => ?_
  have C9 := hC w9 s9.mod
  refine ⟨_, C9.c0, ?_⟩
  simp only [nilK_some, addr_add, Nat.zero_add]
  obtain ⟨Fc, hcm⟩ := C9.cm
  refine ⟨_, C9.m1, slots8_run hcm (by omega) env fun w15 A15 C15 H15 hs15 hb15 m15 => ⟨_, _, _, rfl, ?_⟩⟩
  have s15 := s9.push (sl A15 (slotsN s.m.c.L env 64).length C15 1 (i64s (slotsI (slotsN s.m.c.L env 64))) H15) m15 hs15 hb15
  obtain ⟨S1, hS1⟩ : ∃ S1, S1 = slotsN s.m.c.L env 64 := ⟨_, rfl⟩
  have hat : ∀ {j x : Nat}, S1[j]? = some x → x < 64 ∧ (look8 s.m.c.L env ((x : Nat) + 1 : Int)).isSome = true := fun h => slotsN_at (by rw [← hS1]; exact h)
  have hS1l : S1.length ≤ 64 := by rw [hS1]; exact slotsN_len _ _ _
  have hS1f : S1.flatMap (capsW13 s env) = (List.range 64).flatMap (capsW13 s env) := by rw [hS1]; exact flat_filter fun x _ h => capsW_none h
  rw [← hS1] at s15 ⊢
  clear hcm hs15 hS1 C9 s9 hb15 m15
  refine ⟨fun m outA outL outC i w' => ∃ (j : Nat) (H : List Nat), i = j ∧ j ≤ S1.length ∧ m = S1.length - j ∧ outL = (1 :: (S1.take j).flatMap (capsW13 s env)).length ∧ Den.Sep w w' [sl A15 S1.length C15 1 (i64s (slotsI S1)) H15, sl outA (1 :: (S1.take j).flatMap (capsW13 s env)).length outC 1 (u64s (1 :: (S1.take j).flatMap (capsW13 s env))) H], ⟨S1.length, 0, [b8], rfl, by omega, by omega, rfl, s15⟩, ?_⟩
  clear s15
  rintro m outA outL outC i - w25 ⟨j, H, rfl, hj, rfl, rfl, s25⟩
  rw [spl_decide]
  refine ⟨fun hlt2 => ?_, fun hge => ?_⟩
  · obtain ⟨x, hx⟩ : ∃ x, S1[j]? = some x := ⟨_, List.getElem?_eq_getElem (by omega)⟩
    obtain ⟨hx64, hxs⟩ := hat hx
    have bj := flat_leL hcl (S1.take j)
    have bj2 : (S1.take j).length ≤ 64 := by rw [List.length_take]; omega
    have bj3 : (1 :: (S1.take j).flatMap (capsW13 s env)).length ≤ 3000 := by rw [List.length_cons]; omega
    rw [drK_eq]
    have s26 := s25.mod0 ((Mod.refl [] w25).drew)
    generalize w25.drew = w26 at s26 ⊢
    have C26 := hC w26 s26.mod
    obtain ⟨ad, rfl, hcy, hadl⟩ := slot_cell (s26.nth 0 rfl : SlB w26 A15 S1.length C15 1 (i64s (slotsI S1)) H15) hx (by omega)
    have hB : ∀ y ∈ [r, pm, ad.block], y < w26.heap.size := fun y hy => by
      simp only [List.mem_cons, List.not_mem_nil, or_false] at hy
      rcases hy with rfl | rfl | rfl
      · exact Nat.lt_of_lt_of_le (hlt _ hrG) s26.mod.size
      · exact Nat.lt_of_lt_of_le (hlt _ hmG) s26.mod.size
      · exact hadl
    simp only [nilK_some, addr_add, Nat.zero_add, Int.toNat_natCast]
    refine ⟨[r, pm, ad.block], by simp, _, C26.c0, ?_⟩
    simp only [nilK_some, addr_add, Nat.zero_add]
    obtain ⟨Fc, hcm⟩ := C26.cm
    refine ⟨by simp, _, C26.m1, ⟨by omega, by omega⟩, by simp [add_block], _, hcy, get8_run hcm (by omega) env _ fun w6 m6 => ⟨_, _, _, _, _, rfl, (s26.mod0 m6).new fun b w7 s7 m7 _ => ⟨(m6.trans' m7).at0 hB, s7.st0 0 rfl rfl fun w8 s8 m8 => ?_⟩⟩, s26.new fun b w7 s7 m7 _ => ⟨m7.at0 hB, get8_run (hcm.mod0 m7) (by omega) env _ fun w6 m6 => ⟨_, _, _, _, _, rfl, (s7.mod0 m6).st0 0 rfl rfl fun w8 s8 m8 => ?_⟩⟩⟩
    all_goals
      rw [drK_eq]
      have s9 := s8.mod0 ((Mod.refl [] w8).drew)
      generalize w8.drew = w9 at s9 ⊢
      obtain ⟨ad', e, hcy9, -⟩ := slot_cell (s9.nth 1 rfl : SlB w9 (some ad) S1.length C15 1 (i64s (slotsI S1)) H15) hx (by omega)
      cases e
      refine ⟨[ad.block, b], ⟨by omega, by omega⟩, by simp [add_block], _, hcy9, by simp, _, s9.cell 0 rfl rfl, by simp, _, s9.cell 0 rfl rfl, ?_⟩
      refine out_new (i := 2) (ws := [IntKind.u64.wrap ((x : Int) + 1), IntKind.u64.wrap (getV8 s.m.c.L env ((x : Nat) + 1 : Int)).1.i, IntKind.u64.wrap (getV8 s.m.c.L env ((x : Nat) + 1 : Int)).1.r]) s9 rfl (by omega) rfl (by simp) fun w10 A10 C10 H10 s10 => ?_
      rw [drK_eq]
      have s11 := s10.mod0 ((Mod.refl [] w10).drew)
      generalize w10.drew = w11 at s11 ⊢
      have C11 := hC w11 s11.mod
      refine ⟨[r, pm, b], by simp, _, C11.c0, ?_⟩
      simp only [nilK_some, addr_add, Nat.zero_add]
      refine ⟨by simp, _, C11.m0, by simp, _, s11.cell 0 rfl rfl, ?_⟩
      obtain ⟨Fm, hmem⟩ := C11.mem
      refine mpage_run hmem _ fun a l c H hr => ⟨_, _, _, rfl, ?_⟩
      refine out_row (i := 2) s11 rfl (by rw [List.length_append]; simp only [List.length_cons, List.length_nil]; rw [List.length_cons] at bj3; omega) hr (by have := pageW_le hall (getV8 s.m.c.L env ((x : Nat) + 1 : Int)).1.i; omega) fun w12 A12 C12 H12 s12 => ?_
      have e : ((1 :: (S1.take j).flatMap (capsW13 s env)) ++ [IntKind.u64.wrap ((x : Int) + 1), IntKind.u64.wrap (getV8 s.m.c.L env ((x : Nat) + 1 : Int)).1.i, IntKind.u64.wrap (getV8 s.m.c.L env ((x : Nat) + 1 : Int)).1.r]) ++ pageW13 s.m.m (getV8 s.m.c.L env ((x : Nat) + 1 : Int)).1.i = 1 :: (S1.take (j + 1)).flatMap (capsW13 s env) := by
        rw [flat_takeS hx, capsW_at hxs, wrap_j (by omega)]
        simp
      rw [e] at s12 ⊢
      exact ⟨S1.length - (j + 1), by omega, j + 1, H12, by rw [w64 (by omega) (by omega)]; omega, by omega, rfl, rfl, Den.Sep.pop s12⟩
  obtain rfl : j = S1.length := by omega
  rw [List.take_length, hS1f] at s25
  rw [List.take_length, hS1f]
  obtain ⟨X1, hX1⟩ : ∃ X1, X1 = 1 :: (List.range 64).flatMap (capsW13 s env) := ⟨_, rfl⟩
  have bX1 : X1.length ≤ 3000 := by rw [hX1, List.length_cons]; omega
  rw [← hX1] at s25 ⊢
  have s25 : Den.Sep w w25 [sl outA X1.length outC 1 (u64s X1) H] := Den.Sep.pop s25
  clear hj hge hS1f hat hS1l
  refine ⟨fun m outA outL outC p w' => ∃ (j : Nat) (H : List Nat), p = j ∧ j ≤ 4 ∧ m = 4 - j ∧ outL = (X1 ++ (List.range j).flatMap (pagesW13 s env)).length ∧ Den.Sep w w' [sl outA (X1 ++ (List.range j).flatMap (pagesW13 s env)).length outC 1 (u64s (X1 ++ (List.range j).flatMap (pagesW13 s env))) H], ⟨4, 0, H, rfl, by omega, by omega, by simp, by simpa using s25⟩, ?_⟩
  clear s25
  rintro m outA outL outC p - w25 ⟨j, H, rfl, hj, rfl, rfl, s25⟩
  have bj := b2 j
  have bX2 : (X1 ++ (List.range j).flatMap (pagesW13 s env)).length ≤ 4000 := by rw [List.length_append]; omega
  rw [spl_decide]
  refine ⟨fun hlt2 => ?_, fun hge => ?_⟩
  · have C25 := hC w25 s25.mod
    obtain ⟨Fk, hkm⟩ := C25.km
    have eN : (X1 ++ (List.range (j + 1)).flatMap (pagesW13 s env)) = (X1 ++ (List.range j).flatMap (pagesW13 s env)) ++ pagesW13 s env j := by rw [flat_succ, List.append_assoc]
    refine ⟨_, C25.c0, kr_page hkm env _ fun w26 m26 => ⟨_, _, _, rfl, ?_⟩⟩
    refine (s25.mod0 m26).new fun b w27 s27 m27 _ => s27.st0 0 rfl rfl fun w28 s28 m28 => ?_
    cases hp : pageT s.m env (j : Int) with
    | none =>
      rw [Option.isSome_none, spl_false]
      have e0 : pagesW13 s env j = [] := by unfold pagesW13; rw [hp]
      rw [e0, List.append_nil] at eN
      exact ⟨4 - (j + 1), by omega, j + 1, H, by rw [w64 (by omega) (by omega)]; omega, by omega, rfl, by rw [eN], by rw [eN]; exact Den.Sep.pop s28⟩
    | some y =>
      rw [hp] at s28
      rw [Option.isSome_some, spl_true]
      have e0 : pagesW13 s env j = [(j : Int), IntKind.u64.wrap y.1, if y.2 then 1 else 0] := by unfold pagesW13; rw [hp]
      refine ⟨y.2, s28.cell 0 rfl rfl, spl_of (fun ht => ?_) (fun hf => ?_)⟩
      · refine ⟨y.1, s28.cell 0 rfl rfl, ?_⟩
        refine out_new (i := 1) (ws := [IntKind.u64.wrap (j : Int), IntKind.u64.wrap y.1, 1]) s28 rfl (by omega) rfl (by simp) fun w10 A10 C10 H10 s10 => ?_
        rw [ht, if_pos rfl] at e0
        have e1 : (X1 ++ (List.range j).flatMap (pagesW13 s env)) ++ [IntKind.u64.wrap (j : Int), IntKind.u64.wrap y.1, 1] = X1 ++ (List.range (j + 1)).flatMap (pagesW13 s env) := by rw [eN, e0, wu64 (n := (j : Int)) (by omega) (by omega)]
        rw [e1] at s10 ⊢
        exact ⟨4 - (j + 1), by omega, j + 1, H10, by rw [w64 (by omega) (by omega)]; omega, by omega, rfl, rfl, Den.Sep.pop s10⟩
      · refine ⟨y.1, s28.cell 0 rfl rfl, ?_⟩
        refine out_new (i := 1) (ws := [IntKind.u64.wrap (j : Int), IntKind.u64.wrap y.1, 0]) s28 rfl (by omega) rfl (by simp) fun w10 A10 C10 H10 s10 => ?_
        rw [hf, if_neg (by decide)] at e0
        have e1 : (X1 ++ (List.range j).flatMap (pagesW13 s env)) ++ [IntKind.u64.wrap (j : Int), IntKind.u64.wrap y.1, 0] = X1 ++ (List.range (j + 1)).flatMap (pagesW13 s env) := by rw [eN, e0, wu64 (n := (j : Int)) (by omega) (by omega)]
        rw [e1] at s10 ⊢
        exact ⟨4 - (j + 1), by omega, j + 1, H10, by rw [w64 (by omega) (by omega)]; omega, by omega, rfl, rfl, Den.Sep.pop s10⟩
  obtain rfl : j = 4 := by omega
  obtain ⟨X2, hX2⟩ : ∃ X2, X2 = X1 ++ (List.range 4).flatMap (pagesW13 s env) := ⟨_, rfl⟩
  rw [← hX2] at s25 bX2 ⊢
  clear hj hge bj
  have C9 := hC w25 s25.mod
  refine ⟨_, C9.c1, ?_⟩
  simp only [nilK_some, addr_add, Nat.zero_add]
  obtain ⟨Fc, hcm⟩ := C9.cd
  refine ⟨_, C9.d1, slots8_run hcm (by omega) env fun w15 A15 C15 H15 hs15 hb15 m15 => ⟨_, _, _, rfl, ?_⟩⟩
  have s15 := s25.push (sl A15 (slotsN s.d.c.L env 64).length C15 1 (i64s (slotsI (slotsN s.d.c.L env 64))) H15) m15 hs15 hb15
  obtain ⟨S1, hS1⟩ : ∃ S1, S1 = slotsN s.d.c.L env 64 := ⟨_, rfl⟩
  have hat : ∀ {j x : Nat}, S1[j]? = some x → x < 64 ∧ (look8 s.d.c.L env ((x : Nat) + 1 : Int)).isSome = true := fun h => slotsN_at (by rw [← hS1]; exact h)
  have hS1l : S1.length ≤ 64 := by rw [hS1]; exact slotsN_len _ _ _
  have hS1f : S1.flatMap (extW13 s env) = (List.range 64).flatMap (extW13 s env) := by rw [hS1]; exact flat_filter fun x _ h => extW_none h
  rw [← hS1] at s15 ⊢
  clear hcm hs15 hS1 C9 s25 hb15 m15
  refine ⟨fun m outA outL outC i w' => ∃ (j : Nat) (H : List Nat), i = j ∧ j ≤ S1.length ∧ m = S1.length - j ∧ outL = (X2 ++ (S1.take j).flatMap (extW13 s env)).length ∧ Den.Sep w w' [sl A15 S1.length C15 1 (i64s (slotsI S1)) H15, sl outA (X2 ++ (S1.take j).flatMap (extW13 s env)).length outC 1 (u64s (X2 ++ (S1.take j).flatMap (extW13 s env))) H], ⟨S1.length, 0, H, rfl, by omega, by omega, by simp, by simpa using s15⟩, ?_⟩
  clear s15 H
  rintro m outA outL outC i - w25 ⟨j, H, rfl, hj, rfl, rfl, s25⟩
  have bj := flat_leL hel (S1.take j)
  have bj2 : (S1.take j).length ≤ 64 := by rw [List.length_take]; omega
  have bj3 : (X2 ++ (S1.take j).flatMap (extW13 s env)).length ≤ 2200000 := by
    have : 32772 * (S1.take j).length ≤ 32772 * 64 := Nat.mul_le_mul_left _ bj2
    rw [List.length_append]
    omega
  rw [spl_decide]
  refine ⟨fun hlt2 => ?_, fun hge => ?_⟩
  · obtain ⟨x, hx⟩ : ∃ x, S1[j]? = some x := ⟨_, List.getElem?_eq_getElem (by omega)⟩
    obtain ⟨hx64, hxs⟩ := hat hx
    rw [drK_eq]
    have s26 := s25.mod0 ((Mod.refl [] w25).drew)
    generalize w25.drew = w26 at s26 ⊢
    have C26 := hC w26 s26.mod
    obtain ⟨ad, rfl, hcy, hadl⟩ := slot_cell (s26.nth 0 rfl : SlB w26 A15 S1.length C15 1 (i64s (slotsI S1)) H15) hx (by omega)
    have hB : ∀ y ∈ [r, pd, ad.block], y < w26.heap.size := fun y hy => by
      simp only [List.mem_cons, List.not_mem_nil, or_false] at hy
      rcases hy with rfl | rfl | rfl
      · exact Nat.lt_of_lt_of_le (hlt _ hrG) s26.mod.size
      · exact Nat.lt_of_lt_of_le (hlt _ hdG) s26.mod.size
      · exact hadl
    simp only [nilK_some, addr_add, Nat.zero_add, Int.toNat_natCast]
    refine ⟨[r, pd, ad.block], by simp, _, C26.c1, ?_⟩
    simp only [nilK_some, addr_add, Nat.zero_add]
    obtain ⟨Fc, hcm⟩ := C26.cd
    have hcap : (getV8 s.d.c.L env ((x : Nat) + 1 : Int)).1.i + (getV8 s.d.c.L env ((x : Nat) + 1 : Int)).1.n ≤ 1024 ∧ 0 ≤ (getV8 s.d.c.L env ((x : Nat) + 1 : Int)).1.i ∧ 0 ≤ (getV8 s.d.c.L env ((x : Nat) + 1 : Int)).1.n := by
      unfold getV8
      cases hc : look8 s.d.c.L env ((x : Nat) + 1 : Int) with
      | none => simp
      | some c =>
        have hm := (look8_some hc).1
        have h3 := hT.cap c hm
        obtain ⟨-, h2, -, h4, -⟩ := (hW.in_ c hm).2.2.2.1
        have := hT.le
        dsimp only
        omega
    refine ⟨by simp, _, C26.d1, ⟨by omega, by omega⟩, by simp [add_block], _, hcy, get8_run hcm (by omega) env _ fun w6 m6 => ⟨_, _, _, _, _, rfl, (s26.mod0 m6).new fun b w7 s7 m7 _ => ⟨(m6.trans' m7).at0 hB, s7.st0 0 rfl rfl fun w8 s8 m8 => ?_⟩⟩, s26.new fun b w7 s7 m7 _ => ⟨m7.at0 hB, get8_run (hcm.mod0 m7) (by omega) env _ fun w6 m6 => ⟨_, _, _, _, _, rfl, (s7.mod0 m6).st0 0 rfl rfl fun w8 s8 m8 => ?_⟩⟩⟩
    all_goals
      have eA := extW_at hxs
      generalize (getV8 s.d.c.L env ((x : Nat) + 1 : Int)).1 = cx at s8 hcap eA ⊢
      rw [drK_eq]
      have s9 := s8.mod0 ((Mod.refl [] w8).drew)
      generalize w8.drew = w9 at s9 ⊢
      obtain ⟨ad', e, hcy9, -⟩ := slot_cell (s9.nth 1 rfl : SlB w9 (some ad) S1.length C15 1 (i64s (slotsI S1)) H15) hx (by omega)
      cases e
      refine ⟨[ad.block, b], ⟨by omega, by omega⟩, by simp [add_block], _, hcy9, by simp, _, s9.cell 0 rfl rfl, by simp, _, s9.cell 0 rfl rfl, by simp, _, s9.cell 0 rfl rfl, ?_⟩
      refine out_new (i := 2) (ws := [IntKind.u64.wrap ((x : Int) + 1), IntKind.u64.wrap cx.i, IntKind.u64.wrap cx.n, IntKind.u64.wrap cx.r]) s9 rfl (by omega) rfl (by simp) fun w10 A10 C10 H10 s10 => ?_
      obtain ⟨X3, hX3⟩ : ∃ X3, X3 = X2 ++ (S1.take j).flatMap (extW13 s env) ++ [IntKind.u64.wrap ((x : Int) + 1), IntKind.u64.wrap cx.i, IntKind.u64.wrap cx.n, IntKind.u64.wrap cx.r] := ⟨_, rfl⟩
      have bX3 : X3.length ≤ 2200004 := by rw [hX3, List.length_append]; simp only [List.length_cons, List.length_nil]; omega
      rw [← hX3] at s10 ⊢
      refine ⟨fun m outA outL outC bb w' => ∃ (t : Nat) (H : List Nat), bb = t ∧ t ≤ cx.n.toNat ∧ m = cx.n.toNat - t ∧ outL = (X3 ++ (List.range t).flatMap (fun b => look12 s.d (cx.i + (b : Nat)))).length ∧ Den.Sep w w' [blk b (.cells #[.int .i64 cx.k, .int .i64 cx.i, .int .i64 cx.n, .int .i64 cx.r] 93 (0, 0)), sl (some ad) S1.length C15 1 (i64s (slotsI S1)) H15, sl outA (X3 ++ (List.range t).flatMap (fun b => look12 s.d (cx.i + (b : Nat)))).length outC 1 (u64s (X3 ++ (List.range t).flatMap (fun b => look12 s.d (cx.i + (b : Nat))))) H], ⟨cx.n.toNat, 0, H10, rfl, by omega, by omega, by simp, by simpa using s10⟩, ?_⟩
      rintro m outA outL outC bb - w11 ⟨t, H, rfl, ht, rfl, rfl, s11⟩
      have bt := flat_le (f := fun b => look12 s.d (cx.i + (b : Nat))) (c := 32) (fun b => look12_le hT _) t
      have bt3 : (X3 ++ (List.range t).flatMap (fun b => look12 s.d (cx.i + (b : Nat)))).length ≤ 2300000 := by rw [List.length_append]; omega
      refine ⟨_, s11.cell 0 rfl rfl, ?_⟩
      rw [spl_decide]
      refine ⟨fun hlt3 => ?_, fun hge3 => ?_⟩
      · rw [drK_eq]
        have s12 := s11.mod0 ((Mod.refl [] w11).drew)
        generalize w11.drew = w12 at s12 ⊢
        have C12 := hC w12 s12.mod
        obtain ⟨Fk, hkd⟩ := C12.kd
        refine ⟨[r, b], by simp, _, C12.c1, by simp, _, s12.cell 0 rfl rfl, ?_⟩
        rw [w64 (by omega) (by omega)]
        refine kr12_look hkd _ fun a l c H hr => ⟨_, _, _, rfl, ?_⟩
        refine out_row (i := 2) s12 rfl (by omega) hr (by have := look12_le hT (cx.i + (t : Int)); omega) fun w13 A13 C13 H13 s13 => ?_
        rw [List.append_assoc, ← flat_succ (fun b => look12 s.d (cx.i + (b : Nat)))] at s13 ⊢
        exact ⟨cx.n.toNat - (t + 1), by omega, t + 1, H13, by rw [w64 (by omega) (by omega)]; omega, by omega, rfl, rfl, s13⟩
      · obtain rfl : t = cx.n.toNat := by omega
        have e : X3 ++ (List.range cx.n.toNat).flatMap (fun b => look12 s.d (cx.i + (b : Nat))) = X2 ++ (S1.take (j + 1)).flatMap (extW13 s env) := by
          rw [flat_takeS hx, eA, hX3, wrap_j (by omega)]
          simp
        rw [e] at s11 ⊢
        exact ⟨S1.length - (j + 1), by omega, j + 1, H, by rw [w64 (by omega) (by omega)]; omega, by omega, rfl, rfl, Den.Sep.pop s11⟩
  obtain rfl : j = S1.length := by omega
  rw [List.take_length, hS1f] at s25 bj3
  rw [List.take_length, hS1f]
  obtain ⟨arr, T, hI, -⟩ := rxp (h1.mod0 s25.mod)
  refine V11.ipcr_waiting hI (by omega) env fun w26 m26 => ⟨_, rfl, ?_⟩
  refine out_new (i := 1) (ws := [IntKind.u64.wrap (((V11.projQ A.L env).length : Nat) : Int)]) (s25.mod0 m26) rfl (by omega) rfl (by simp) fun w27 A27 C27 H27 s27 => ?_
  have e : X2 ++ (List.range 64).flatMap (extW13 s env) ++ [IntKind.u64.wrap (((V11.projQ A.L env).length : Nat) : Int)] = sees13 s env := by
    rw [eS, hX2, hX1, ← hq', wu64 (by omega) (by omega)]
    simp
  rw [e] at s27 ⊢
  exact hK w27 A27 C27 H27 (s27.nth 1 rfl) s27.mod
end

end Go.Proofs
