/-
  Layer 18: slices.Chunk's iterator, by the kit's laws of a range over a function.
  Printed by pieces.py (this repo, wip/gen): normal forms of parts of functions. No statement of its own.
  Layer 18: Decode of the program: a round of its range over Chunk; what stands behind the range.
  Layer 18: Decode of the program: what stands behind the range.
  Layer 18: Decode of the program.
-/
import Derived.RangeFuncBox
import Derived.RangeFuncLeaves
import Derived.Shelf.Abstract
import Derived.Shelf.RegionOpen
import Derived.RegionIn
import Derived.Shelf.RegionOpenPlain
import Derived.WalkKit
import Derived.OwnWalkIn
import Derived.TacticsInMore
import Derived.LoopNIn
import Derived.LoopIn
import Derived.Maps.AppendAt
import Derived.Test.YtmpaiobapmpngaaProg
import Derived.Test.YtmpaiobapmpngaaDenD
import Derived.Test.YtmpaiobapmpngaaRes0
import Derived.Test.YtmpaiobapmpngaaF18A
import Derived.Test.YtmpaiobapmpngaaP18A
import Derived.Test.YtmpaiobapmpngaaDenC
set_option linter.unusedVariables false
namespace Go.Proofs
open Go.RowKit Go.Shelf
attribute [local go_sem] Oper.semAt_some

/-- Four words of a row, the k-th four. -/
def four (ad : Addr) (k : Nat) : Array Value := #[.slice (some (ad.add (4 * k))) 4 4]

def upto18 (m k : Nat) (h : k ≤ m) : List (Fin m) := (List.range k).attach.map fun j => ⟨j.1, by have := List.mem_range.1 j.2; omega⟩
theorem upto18_length {m k : Nat} (h : k ≤ m) : (upto18 m k h).length = k := by simp [upto18]
theorem upto18_vals {m k : Nat} (h : k ≤ m) : (upto18 m k h).map (·.1) = List.range k := by
  simp [upto18]
theorem fin_ext {m : Nat} : ∀ {l l' : List (Fin m)}, l.map (·.1) = l'.map (·.1) → l = l'
  | [], [], _ => rfl
  | [], y :: l', h => by simp at h
  | x :: l, [], h => by simp at h
  | x :: l, y :: l', h => by
    simp only [List.map_cons, List.cons.injEq] at h
    rw [Fin.ext h.1, fin_ext h.2]
theorem upto18_succ {m k : Nat} (h : k + 1 ≤ m) : upto18 m (k + 1) h = upto18 m k (by omega) ++ [⟨k, by omega⟩] := by
  apply fin_ext
  rw [List.map_append, upto18_vals, upto18_vals, List.range_succ]
  rfl

/-- The iterator's two boxes lie as they lay. -/
def KB (Bs Bn : Nat) (W W' : World) : Prop := W'.heap[Bs]? = W.heap[Bs]? ∧ W'.heap[Bn]? = W.heap[Bn]?
theorem KB.trans {Bs Bn : Nat} {A B C : World} (h : KB Bs Bn A B) (h' : KB Bs Bn B C) : KB Bs Bn A C := ⟨h'.1.trans h.1, h'.2.trans h.2⟩
theorem KB.cs {Bs Bn : Nat} {A B : World} (h : KB Bs Bn A B) {v : Value} (hc : A.cell? ⟨Bs, 0, none⟩ = some v) : B.cell? ⟨Bs, 0, none⟩ = some v := by
  unfold World.cell? at hc ⊢
  rw [h.1]
  exact hc
theorem KB.cn {Bs Bn : Nat} {A B : World} (h : KB Bs Bn A B) {v : Value} (hc : A.cell? ⟨Bn, 0, none⟩ = some v) : B.cell? ⟨Bn, 0, none⟩ = some v := by
  unfold World.cell? at hc ⊢
  rw [h.2]
  exact hc

set_option maxRecDepth 100000 in
set_option maxHeartbeats 2000000 in
theorem chunk_in (F : Fence) (n : Nat) (h7 : F.fn 51) (hro : F.round = none) (hn : 1 ≤ n) (l Bs Bn : Nat) (ad : Addr) (c m : Nat) (a : Option Addr) (hm : m ≤ 1000) (J Jx : List (Fin m) → World → Prop) (hJd : ∀ pre W, J pre W → J pre W.drew)
    (hY : ∀ pre (x : Fin m) W, J pre W → pre.length < m → YieldAt F (n - 1) Try.prog l (four ad x.1) W fun e W' =>
      (e = .returned (.bool true) ∧ J (pre ++ [x]) W' ∧ KB Bs Bn W W') ∨ (e = .returned (.bool false) ∧ Jx (pre ++ [x]) W'))
    (W : World) (h1 : W.cell? ⟨Bs, 0, none⟩ = some (.slice a (4 * m) c)) (h2 : W.cell? ⟨Bn, 0, none⟩ = some (.int .i64 4)) (hc : 4 * m ≤ c) (ha : 0 < m → a = some ad) (h0 : J [] W) :
    CallsIn F n Try.prog 51 #[.func (.yield l) #[] #[], .pointer (some ⟨Bs, 0, none⟩), .pointer (some ⟨Bn, 0, none⟩)] W fun e W' => (∃ v, e = .returned v) ∧
      ((∃ ys, ys.map (·.1) = List.range m ∧ J ys W') ∨ (∃ pre, True ∧ Jx pre W')) := by
  refine callsIn_of_wp Try.func51 rfl h7 ?_ hro
  simp only [Try.ntmps51, List.size_toArray, List.length_cons, List.length_nil, Nat.reduceAdd, Nat.reduceSub, Array.replicate_succ, Array.replicate_zero, List.push_toArray, List.append_toArray, List.nil_append, List.cons_append]
  gi_wp2
  gi_loopw [4] (fun i wr => ∃ (k : Nat) (hk : k ≤ m), i = .int .i64 ((4 * k : Nat) : Int) ∧ J (upto18 m k hk) wr ∧ KB Bs Bn W wr)
    (fun i _ => 4 * m - (intOf i).toNat)
  case atStart => exact ⟨0, Nat.zero_le _, rfl, h0, rfl, rfl⟩
  case round =>
    obtain ⟨k, hk, rfl, hJs, hnx⟩ := hrel
    have hc1 := hnx.cs h1
    have hc2 := hnx.cn h2
    by_cases hlt : k < m
    · obtain rfl := ha (by omega)
      have mixed : Try.prog.follows .mixedOrders = true := by kernel_rfl
      have hmin : (if ((4 * m - 4 * k : Nat) : Int) < 4 then ((4 * m - 4 * k : Nat) : Int) else 4) = 4 := by rw [if_neg (by omega)]
      have hmin2 : min (4 : Int) ((4 * m - 4 * k : Nat) : Int) = 4 := by omega
      obtain ⟨fn, tmps, assign, body, hy, hR⟩ := hY _ ⟨k, hlt⟩ wr.drew (hJd _ _ hJs) (by rw [upto18_length]; exact hlt)
      simp only [four] at hy
      have hc1' : wr.drew.cell? ⟨Bs, 0, none⟩ = some (.slice (some ad) (4 * m) c) := hc1
      have hc2' : wr.drew.cell? ⟨Bn, 0, none⟩ = some (.int .i64 4) := hc2
      gi_wp2_with fail
      rename_i Q1 Q2 K1 a1 K2 a2
      have key : Exit.then K2 (Exit.inBlock 1 (Exit.then K1 Q2)) Exit.normal
          { tmps := #[.func (.yield l) #[] #[], .pointer (some ⟨Bs, 0, none⟩), .pointer (some ⟨Bn, 0, none⟩), undef, .int .i64 (4 * (k : Int)), .int .i64 4, .int .i64 (4 * (k : Int)), .slice (some ad) (4 * m) c, .int .i64 (4 * (m : Int)), .bool true, u10, u11, u12, .int .i64 4,
              .slice (some ad) (4 * m) c, .int .i64 (4 * (k : Int)), .slice (some (ad.add (4 * k))) (4 * m - 4 * k) (c - 4 * k), .int .i64 ((4 * m - 4 * k : Nat) : Int), .int .i64 4, u19, u20, u21, u22, u23, u24, u25, u26, u27, u28, u29, u30], defers := [] } wr.drew := by
        gi_wp2
        refine hR.mono ?_
        rintro e W3 (⟨rfl, hJ3, hk3⟩ | ⟨rfl, hJx3⟩)
        · have hc3 := hk3.cn hc2'
          gi_wp2
          go_roundw
          case rel => exact ⟨k + 1, by omega, by simp; omega, by rw [upto18_succ]; exact hJ3, hnx.trans (KB.trans ⟨rfl, rfl⟩ hk3)⟩
          case measure => simp [intOf]; omega
        · gi_wp2
          refine bodyPost_ret (results_none rfl _ _ _) rfl ?_
          exact ⟨⟨_, rfl⟩, .inr ⟨_, trivial, hJx3⟩⟩
      gi_region_o
      all_goals exact key
    · obtain rfl : k = m := by omega
      gi_wp2
      go_end0
      exact ⟨⟨_, rfl⟩, .inl ⟨_, upto18_vals _, hJs⟩⟩

theorem grownBy_drew (W : World) : W.grownBy W.drew none := ⟨rfl, rfl, rfl, Nat.le_refl _, fun _ _ _ => rfl⟩

theorem chunk_stops (F : Fence) (n : Nat) (h7 : F.fn 51) (hro : F.round = none) (hn : 1 ≤ n) (Bs Bn : Nat) (ad : Addr) (c m : Nat) (a : Option Addr) (hm : m ≤ 1000) (w : World)
    (h1 : w.cell? ⟨Bs, 0, none⟩ = some (.slice a (4 * m) c)) (h2 : w.cell? ⟨Bn, 0, none⟩ = some (.int .i64 4)) (hB1 : Bs < w.heap.size) (hB2 : Bn < w.heap.size) (hc : 4 * m ≤ c) (ha : 0 < m → a = some ad) :
    SeqStopsK F n Try.prog 51 #[.pointer (some ⟨Bs, 0, none⟩), .pointer (some ⟨Bn, 0, none⟩)] (fun x : Fin m => four ad x.1) (KB Bs Bn) (fun ys => ys.map (·.1) = List.range m) (fun _ => True) m w := fun l J Jx W hW hJ _ hY h0 =>
  chunk_in F n h7 hro hn l Bs Bn ad c m a hm J Jx (fun pre W hp => hJ pre W _ none hp (grownBy_drew W) (fun r e => by cases e)) hY W ((hW.cell (p := ⟨Bs, 0, none⟩) hB1).trans h1) ((hW.cell (p := ⟨Bn, 0, none⟩) hB2).trans h2) hc ha h0

end Go.Proofs

set_option linter.unusedVariables false
set_option maxRecDepth 100000
set_option maxHeartbeats 4000000
namespace Go.Proofs
open Go Go.Den

/-! a part of janus fds.Decode -/
def ctl_dec_rest : List Nat := [98, 106, 108, 138]
def plan_dec_rest : Plan := (.seq (.reg .seq) (.seq (.seq (.reg .seq) (.block (.loop [(98, none), (99, none), (100, none), (101, none), (7, none), (8, none), (102, none), (103, none), (104, none), (105, none), (106, none), (107, none), (108, none), (109, none), (110, none), (111, none), (112, none), (113, none), (114, none), (115, none), (116, none), (117, none), (118, none), (119, none), (120, none), (121, none), (122, none), (123, none), (124, none), (125, none), (126, none), (127, none), (128, none), (129, none), (130, none), (131, none), (132, none), (133, none), (134, none), (97, some (.int .i64))] (.seq (.reg .seq) (.seq (.cond .leaf .leaf) (.join [(99, none), (100, none), (101, none), (7, none), (8, none), (102, none), (103, none), (104, none), (105, none), (106, none), (107, none), (108, none), (109, none), (110, none), (111, none), (112, none), (113, none), (114, none), (115, none), (116, none), (117, none), (118, none), (119, none), (120, none), (121, none), (122, none), (123, none), (124, none), (125, none), (126, none), (127, none), (128, none), (129, none), (130, none), (131, none), (132, none), (133, none)] (.block (.seq (.reg .seq) (.seq (.seq (.reg .seq) (.cond (.seq (.reg .seq) .leaf) .leaf)) (.seq (.reg .seq) (.cond (.seq (.reg (.tail 14)) (.reg .seq)) .leaf))))) (.reg .seq))))))) (.seq (.seq (.reg .seq) (.cond (.seq (.reg .seq) .leaf) .leaf)) (.seq (.reg .seq) .leaf))))
def act_dec_rest (wA1 : Option Addr) (wL2 : Nat) (wC3 : Nat) (r4 : Addr) (e5 : Addr) (l6 : Addr) (g : Nat → Value) (D : List Deferred) : Act := { tmps := #[.slice wA1 wL2 wC3, (g 1), .pointer (some r4), .pointer (some e5), .pointer (some l6), (g 5), (g 6), (g 7), (g 8), (g 9), (g 10), (g 11), (g 12), (g 13), (g 14), (g 15), (g 16), (g 17), (g 18), (g 19), (g 20), (g 21), (g 22), (g 23), (g 24), (g 25), (g 26), (g 27), (g 28), (g 29), (g 30), (g 31), (g 32), (g 33), (g 34), (g 35), (g 36), (g 37), (g 38), (g 39), (g 40), (g 41), (g 42), (g 43), (g 44), (g 45), (g 46), (g 47), (g 48), (g 49), (g 50), (g 51), (g 52), (g 53), (g 54), (g 55), (g 56), (g 57), (g 58), (g 59), (g 60), (g 61), (g 62), (g 63), (g 64), (g 65), (g 66), (g 67), (g 68), (g 69), (g 70), (g 71), (g 72), (g 73), (g 74), (g 75), (g 76), (g 77), (g 78), (g 79), (g 80), (g 81), (g 82), (g 83), (g 84), (g 85), (g 86), (g 87), (g 88), (g 89), (g 90), (g 91), (g 92), (g 93), (g 94), (g 95), (g 96), (g 97), (g 98), (g 99), (g 100), (g 101), (g 102), (g 103), (g 104), (g 105), (g 106), (g 107), (g 108), (g 109), (g 110), (g 111), (g 112), (g 113), (g 114), (g 115), (g 116), (g 117), (g 118), (g 119), (g 120), (g 121), (g 122), (g 123), (g 124), (g 125), (g 126), (g 127), (g 128), (g 129), (g 130), (g 131), (g 132), (g 133), (g 134), (g 135), (g 136), (g 137), (g 138), (g 139), (g 140)], defers := D }
def R_dec_rest (wA1 : Option Addr) (wL2 : Nat) (wC3 : Nat) (r4 : Addr) (e5 : Addr) (l6 : Addr) (g : Nat → Value) (D : List Deferred) (w : World) (X : Exit → World → Prop) : Prop :=
  CallsR Try.prog F_fds_New #[] w fun v7 w8 => ∃ r9 : Option Addr, v7 = .pointer r9 ∧ ((∃ xA10 : Option Addr, ∃ xL11 : Nat, ∃ xC12 : Nat, w8.cell? l6 = some (.slice xA10 xL11 xC12) ∧ (slK wA1 wL2 wC3 1 (some (IntKind.i64.wrap ((1 : Int) + (IntKind.i64.wrap ((4 : Int) * ((xL11 : Nat) : Int)))))) none none fun xA13 xL14 xC15 => ∃ I17 : Nat → Int → World → Prop, (∃ n59, I17 n59 0 w8) ∧ ∀ n18 : Nat, ∀ t16 : Int, ∀ (_ : Nat → Value) (w19 : World), I17 n18 t16 w19 → spl (decide (t16 < ((xL14 : Nat) : Int))) (∃ J21 : World → Prop, (∀ (_ : Nat → Value) (w22 : World), J21 w22 → ∃ m20, m20 < n18 ∧ I17 m20 (IntKind.i64.wrap (t16 + (1 : Int))) w22) ∧ (nilK xA13 fun a23 => (0 ≤ t16 ∧ t16 < ((xL14 : Nat) : Int)) ∧ ((∃ x24 : Int, w19.cell? (Addr.add a23 t16.toNat) = some (.int .u64 x24) ∧ ((∃ xA25 : Option Addr, ∃ xL26 : Nat, ∃ xC27 : Nat, w19.cell? l6 = some (.slice xA25 xL26 xC27) ∧ (spl (decide (x24 > (IntKind.u64.wrap ((xL26 : Nat) : Int)))) (stK r4 [.pointer none] w19 fun w28 => stK e5 [.int .i64 101] w28 fun w29 => X .ret w29) (spl (decide (x24 > (0 : Int))) (drK w19 fun w30 => (6 : Int) ≠ 0 ∧ ((6 : Int) ≠ 0 ∧ ((∃ xA31 : Option Addr, ∃ xL32 : Nat, ∃ xC33 : Nat, w30.cell? l6 = some (.slice xA31 xL32 xC33) ∧ (nilK xA31 fun a34 => (0 ≤ (IntKind.u64.wrap (x24 - (1 : Int))) ∧ (IntKind.u64.wrap (x24 - (1 : Int))) < ((xL32 : Nat) : Int)) ∧ ((∃ x35 : Option Addr, w30.cell? (Addr.add a34 ((IntKind.u64.wrap (x24 - (1 : Int)) : Int).toNat)) = some (.pointer x35) ∧ (nilK r9 fun a36 => (0 ≤ (IntKind.i64.wrap (Int.tdiv t16 (6 : Int))) ∧ (IntKind.i64.wrap (Int.tdiv t16 (6 : Int))) < (8 : Int)) ∧ ((0 ≤ (Int.tmod t16 (6 : Int)) ∧ (Int.tmod t16 (6 : Int)) < (6 : Int)) ∧ (stK (Addr.add (Addr.add a36 ((IntKind.i64.wrap (Int.tdiv t16 (6 : Int)) : Int).toNat * 6)) ((Int.tmod t16 (6 : Int) : Int).toNat)) [.pointer x35] w30 fun w37 => (∃ xA38 : Option Addr, ∃ xL39 : Nat, ∃ xC40 : Nat, w37.cell? l6 = some (.slice xA38 xL39 xC40) ∧ (nilK xA38 fun a41 => (0 ≤ (IntKind.u64.wrap (x24 - (1 : Int))) ∧ (IntKind.u64.wrap (x24 - (1 : Int))) < ((xL39 : Nat) : Int)) ∧ ((∃ x42 : Option Addr, w37.cell? (Addr.add a41 ((IntKind.u64.wrap (x24 - (1 : Int)) : Int).toNat)) = some (.pointer x42) ∧ (nilK x42 fun a43 => (∃ x44 : Int, w37.cell? (Addr.add a43 4) = some (.int .i64 x44) ∧ (nilK x42 fun a45 => stK (Addr.add a45 4) [.int .i64 (IntKind.i64.wrap (x44 + (1 : Int)))] w37 fun w46 => J21 w46))))))))))))))))) (J21 w19))))))))) (CallsR Try.prog F_fds_Fds_Encode #[.pointer r9] w19 fun v47 w48 => ∃ rA49 : Option Addr, ∃ rL50 : Nat, ∃ rC51 : Nat, v47 = .slice rA49 rL50 rC51 ∧ (CallsR Try.prog F_slices_Equal_uint64_uint64 #[.slice rA49 rL50 rC51, .slice wA1 wL2 wC3] w48 fun v52 w53 => ∃ r54 : Bool, v52 = .bool r54 ∧ (spl r54 (stK r4 [.pointer r9] w53 fun w55 => stK e5 [.int .i64 0] w55 fun w56 => X .ret w56) (stK r4 [.pointer none] w53 fun w57 => stK e5 [.int .i64 101] w57 fun w58 => X .ret w58)))))))
theorem R_dec_rest_den (wA1 : Option Addr) (wL2 : Nat) (wC3 : Nat) (r4 : Addr) (e5 : Addr) (l6 : Addr) (g : Nat → Value) (D : List Deferred) (w : World) (X : Exit → World → Prop) : den Try.prog ctl_dec_rest (cR (cR (cR (cR (bodyOf Try.f9))))) plan_dec_rest (fun e _ w => X e w) (act_dec_rest wA1 wL2 wC3 r4 e5 l6 g D) w = R_dec_rest wA1 wL2 wC3 r4 e5 l6 g D w X := by kernel_rfl
theorem R_dec_rest_ok {wA1 : Option Addr} {wL2 : Nat} {wC3 : Nat} {r4 : Addr} {e5 : Addr} {l6 : Addr} {g : Nat → Value} {D : List Deferred} {w : World} {X : Exit → World → Prop} (hX : ∀ ch w, ¬ X (.panic ch) w) (h : R_dec_rest wA1 wL2 wC3 r4 e5 l6 g D w X) : ((cR (cR (cR (cR (bodyOf Try.f9)))))).wp Try.prog (fun e a w => X e w ∧ Same (wr (cR (cR (cR (cR (bodyOf Try.f9)))))) (act_dec_rest wA1 wL2 wC3 r4 e5 l6 g D) a) (act_dec_rest wA1 wL2 wC3 r4 e5 l6 g D) w :=
  walks (cR (cR (cR (cR (bodyOf Try.f9))))) plan_dec_rest (by kernel_rfl) (by kernel_rfl) (fun e _ w => X e w) _ w (fun ch _ w => hX ch w) (by rw [R_dec_rest_den]; exact h)

/-! a part of janus fds.Decode -/
def ctl_dec_body : List Nat := [43, 48, 54, 60, 66]
def plan_dec_body : Plan := (.block (.seq (.seq (.reg .seq) (.cond (.seq (.reg .seq) .leaf) .leaf)) (.reg (.held [0, 1, 2, 3, 4, 5, 6, 7, 8, 9, 10, 11, 12, 13, 14, 15, 16, 17, 18, 19, 20, 21] [20, 21]))))
def act_dec_body (r1 : Addr) (e2 : Addr) (l3 : Addr) (xA4 : Option Addr) (xL5 : Nat) (xC6 : Nat) (g : Nat → Value) (D : List Deferred) : Act := { tmps := #[(g 0), (g 1), .pointer (some r1), .pointer (some e2), .pointer (some l3), .slice xA4 xL5 xC6, (g 6), (g 7), (g 8), (g 9), (g 10), (g 11), (g 12), (g 13), (g 14), (g 15), (g 16), (g 17), (g 18), (g 19), (g 20), (g 21), (g 22), (g 23), (g 24), (g 25), (g 26), (g 27), (g 28), (g 29), (g 30), (g 31), (g 32), (g 33), (g 34), (g 35), (g 36), (g 37), (g 38), (g 39), (g 40), (g 41), (g 42), (g 43), (g 44), (g 45), (g 46), (g 47), (g 48), (g 49), (g 50), (g 51), (g 52), (g 53), (g 54), (g 55), (g 56), (g 57), (g 58), (g 59), (g 60), (g 61), (g 62), (g 63), (g 64), (g 65), (g 66), (g 67), (g 68), (g 69), (g 70), (g 71), (g 72), (g 73), (g 74), (g 75), (g 76), (g 77), (g 78), (g 79), (g 80), (g 81), (g 82), (g 83), (g 84), (g 85), (g 86), (g 87), (g 88), (g 89), (g 90), (g 91), (g 92), (g 93), (g 94), (g 95), (g 96), (g 97), (g 98), (g 99), (g 100), (g 101), (g 102), (g 103), (g 104), (g 105), (g 106), (g 107), (g 108), (g 109), (g 110), (g 111), (g 112), (g 113), (g 114), (g 115), (g 116), (g 117), (g 118), (g 119), (g 120), (g 121), (g 122), (g 123), (g 124), (g 125), (g 126), (g 127), (g 128), (g 129), (g 130), (g 131), (g 132), (g 133), (g 134), (g 135), (g 136), (g 137), (g 138), (g 139), (g 140)], defers := D }
def R_dec_body (r1 : Addr) (e2 : Addr) (l3 : Addr) (xA4 : Option Addr) (xL5 : Nat) (xC6 : Nat) (g : Nat → Value) (D : List Deferred) (w : World) (X : Exit → World → Prop) : Prop :=
  nilK xA4 fun a7 => (0 ≤ (0 : Int) ∧ (0 : Int) < ((xL5 : Nat) : Int)) ∧ ((∃ x8 : Int, w.cell? a7 = some (.int .u64 x8) ∧ (spl (decide (x8 < (1 : Int))) (stK r1 [.pointer none] w fun w9 => stK e2 [.int .i64 101] w9 fun w10 => X .ret w10) (nilK xA4 fun a11 => (0 ≤ (0 : Int) ∧ (0 : Int) < ((xL5 : Nat) : Int)) ∧ ((∃ x12 : Int, w.cell? a11 = some (.int .u64 x12) ∧ (spl (decide (x12 > (4 : Int))) (stK r1 [.pointer none] w fun w13 => stK e2 [.int .i64 101] w13 fun w14 => X .ret w14) (nilK xA4 fun a15 => (0 ≤ (1 : Int) ∧ (1 : Int) < ((xL5 : Nat) : Int)) ∧ ((∃ x16 : Int, w.cell? (Addr.add a15 1) = some (.int .u64 x16) ∧ (spl (decide (x16 > (1048576 : Int))) (stK r1 [.pointer none] w fun w17 => stK e2 [.int .i64 101] w17 fun w18 => X .ret w18) (nilK xA4 fun a19 => (0 ≤ (2 : Int) ∧ (2 : Int) < ((xL5 : Nat) : Int)) ∧ ((∃ x20 : Int, w.cell? (Addr.add a19 2) = some (.int .u64 x20) ∧ (spl (decide (x20 > (1048576 : Int))) (stK r1 [.pointer none] w fun w21 => stK e2 [.int .i64 101] w21 fun w22 => X .ret w22) (nilK xA4 fun a23 => (0 ≤ (3 : Int) ∧ (3 : Int) < ((xL5 : Nat) : Int)) ∧ ((∃ x24 : Int, w.cell? (Addr.add a23 3) = some (.int .u64 x24) ∧ (spl (decide (x24 > (1 : Int))) (stK r1 [.pointer none] w fun w25 => stK e2 [.int .i64 101] w25 fun w26 => X .ret w26) (drK w fun w27 => ∃ B28 : List Nat, l3.block ∈ B28 ∧ (∃ xA29 : Option Addr, ∃ xL30 : Nat, ∃ xC31 : Nat, w27.cell? l3 = some (.slice xA29 xL30 xC31) ∧ (nilK xA4 fun a32 => (0 ≤ (0 : Int) ∧ (0 : Int) < ((xL5 : Nat) : Int)) ∧ (a32.block ∈ B28 ∧ (∃ x33 : Int, w27.cell? a32 = some (.int .u64 x33) ∧ (nilK xA4 fun a34 => (0 ≤ (1 : Int) ∧ (1 : Int) < ((xL5 : Nat) : Int)) ∧ ((Addr.add a34 1).block ∈ B28 ∧ (∃ x35 : Int, w27.cell? (Addr.add a34 1) = some (.int .u64 x35) ∧ (nilK xA4 fun a36 => (0 ≤ (2 : Int) ∧ (2 : Int) < ((xL5 : Nat) : Int)) ∧ ((Addr.add a36 2).block ∈ B28 ∧ (∃ x37 : Int, w27.cell? (Addr.add a36 2) = some (.int .u64 x37) ∧ (nilK xA4 fun a38 => (0 ≤ (3 : Int) ∧ (3 : Int) < ((xL5 : Nat) : Int)) ∧ ((Addr.add a38 3).block ∈ B28 ∧ (∃ x39 : Int, w27.cell? (Addr.add a38 3) = some (.int .u64 x39) ∧ (newK w27 (.cells #[.int .i64 (IntKind.i64.wrap x33), .int .i64 (IntKind.i64.wrap x35), .int .i64 (IntKind.i64.wrap x37), .bool (x39 == (1 : Int)), .int .i64 0] 37) fun b40 w41 => keepB B28 w27 w41 ∧ (newK w41 (.cells #[.pointer (some ⟨b40, 0, none⟩)] 72) fun b42 w43 => keepB B28 w27 w43 ∧ (runK ((Builtin.append_ #[68, 68] 68 #[.slice xA29 xL30 xC31, .slice (some ⟨b42, 0, none⟩) 1 1]).run Try.prog w43) fun v44 w45 => ∃ xA46 : Option Addr, ∃ xL47 : Nat, ∃ xC48 : Nat, v44 = .slice xA46 xL47 xC48 ∧ (stK l3 [.slice xA46 xL47 xC48] w45 fun w49 => X .normal w49)))))))))))))))))))))))))))))))))))))
theorem R_dec_body_den (r1 : Addr) (e2 : Addr) (l3 : Addr) (xA4 : Option Addr) (xL5 : Nat) (xC6 : Nat) (g : Nat → Value) (D : List Deferred) (w : World) (X : Exit → World → Prop) : den Try.prog ctl_dec_body (cR (cL (cR (cL (cR (cR (cR (bodyOf Try.f9)))))))) plan_dec_body (fun e _ w => X e w) (act_dec_body r1 e2 l3 xA4 xL5 xC6 g D) w = R_dec_body r1 e2 l3 xA4 xL5 xC6 g D w X := by kernel_rfl
theorem R_dec_body_ok {r1 : Addr} {e2 : Addr} {l3 : Addr} {xA4 : Option Addr} {xL5 : Nat} {xC6 : Nat} {g : Nat → Value} {D : List Deferred} {w : World} {X : Exit → World → Prop} (hX : ∀ ch w, ¬ X (.panic ch) w) (ho : ∀ w, ¬ X .outgrown w) (h : R_dec_body r1 e2 l3 xA4 xL5 xC6 g D w X) (l n : Nat) : ((cR (cL (cR (cL (cR (cR (cR (bodyOf Try.f9))))))))).wpIn (FR l) n Try.prog (fun e a w => X e w ∧ Same (wr (cR (cL (cR (cL (cR (cR (cR (bodyOf Try.f9))))))))) (act_dec_body r1 e2 l3 xA4 xL5 xC6 g D) a) (act_dec_body r1 e2 l3 xA4 xL5 xC6 g D) w :=
  walksI (cR (cL (cR (cL (cR (cR (cR (bodyOf Try.f9)))))))) plan_dec_body (by kernel_rfl) (by kernel_rfl) l n (fun e _ w => X e w) _ w (fun ch _ w => hX ch w) (fun ⟨_, w, h⟩ => ho w h) (by rw [R_dec_body_den]; exact h)

end Go.Proofs

set_option linter.unusedSimpArgs false
namespace Go.Proofs
open Go Go.Den

theorem _root_.Go.Den.Prts.merge {w : World} {p q r : Part} {l : List Part} (h : Prts w (p :: q :: l)) (hr : r.P w) (hF : ∀ x ∈ r.F, x ∈ p.F ∨ x ∈ q.F) : Prts w (r :: l) := by
  refine h.tail.tail.cons hr fun x hx hl => ?_
  obtain ⟨i, s, hi, hs⟩ := mem_PF.1 hl
  rcases hF x hx with h1 | h1
  · exact h.dj (i := 0) (j := i + 2) (by omega) rfl hi x h1 hs
  · exact h.dj (i := 1) (j := i + 2) (by omega) rfl hi x h1 hs
theorem _root_.Go.Den.Sep.merge {w0 w : World} {p q r : Part} {l : List Part} (h : Sep w0 w (p :: q :: l)) (hr : r.P w) (hF : ∀ x ∈ r.F, x ∈ p.F ∨ x ∈ q.F) : Sep w0 w (r :: l) := by
  refine Den.Sep.of_prts h.mod (Den.Prts.merge h.prts hr hF) fun x hx => ?_
  obtain ⟨i, s, hi, hs⟩ := mem_PF.1 hx
  cases i with
  | zero =>
    obtain rfl := Option.some.inj hi
    rcases hF x hs with h1 | h1
    · exact h.bey 0 rfl x h1
    · exact h.bey 1 rfl x h1
  | succ i => exact h.bey (i + 2) hi x hs

theorem _root_.Go.Den.Sep.front {w0 w : World} {l tl : List Part} (h : Sep w0 w (l ++ tl)) : Sep w0 w l := by
  have f : ∀ {i : Nat} {p : Part}, l[i]? = some p → (l ++ tl)[i]? = some p := fun {i p} hi => by
    rw [List.getElem?_append_left (List.getElem?_eq_some_iff.1 hi).1]; exact hi
  refine Den.Sep.of_prts h.mod ⟨fun {i _} hi => h.nth i (f hi), fun {i j _ _} hij hi hj => h.dj i j hij (f hi) (f hj)⟩ fun x hx => ?_
  obtain ⟨i, q, hi, hx⟩ := mem_PF.1 hx
  exact h.bey i (f hi) x hx

def isC (w : World) (b : Nat) : Prop := ∃ cs T fr, w.heap[b]? = some (.cells cs T fr)
/-- A part that is made of cells. -/
def CP (p : Part) : Prop := ∀ w, p.P w → ∀ b ∈ p.F, isC w b
theorem CP.blk (b : Nat) (cs : Array Value) (T : TypeId) : CP (blk b (.cells cs T (0, 0))) := fun w h c hc => by
  simp only [Den.blk, List.mem_singleton] at hc
  subst hc
  exact ⟨_, _, _, h⟩
theorem CP.sl (a : Option Addr) (l c sz : Nat) (vs : List Value) (F : List Nat) : CP (sl a l c sz vs F) := fun w h b hb => by
  rcases (show SlB w a l c sz vs F from h) with ⟨_, _, _, _, rfl⟩ | ⟨b', o, arr, T, _, rfl, h1, _⟩
  · cases hb
  · have hb : b ∈ [b'] := hb
    simp only [List.mem_singleton] at hb
    subst hb
    exact ⟨_, _, _, h1⟩

/-- Files at the blocks 'us'; 'rc i' places name the i-th. -/
def FilP (w : World) (us : List Nat) (fx : Nat → FX) (rc : Nat → Nat) : Prop := us.Nodup ∧ ∀ (i u : Nat), us[i]? = some u → ∃ T, w.heap[u]? = some (.cells (fxc (fx i) (rc i)).toArray T (0, 0))
theorem FilP.keep {w w' : World} {us : List Nat} {fx : Nat → FX} {rc : Nat → Nat} (h : FilP w us fx rc) (hk : ∀ b ∈ us, w'.heap[b]? = w.heap[b]?) : FilP w' us fx rc :=
  ⟨h.1, fun i u hi => by obtain ⟨T, h1⟩ := h.2 i u hi; exact ⟨T, (hk u (List.mem_of_getElem? hi)).trans h1⟩⟩
theorem FilP.lt {w : World} {us : List Nat} {fx : Nat → FX} {rc : Nat → Nat} (h : FilP w us fx rc) : ∀ b ∈ us, b < w.heap.size := fun b hb => by
  obtain ⟨i, hi⟩ := List.getElem?_of_mem hb
  obtain ⟨T, h1⟩ := h.2 i b hi
  exact lt_of_get h1
def filPart (us : List Nat) (fx : Nat → FX) (rc : Nat → Nat) : Part := ⟨us, fun w => FilP w us fx rc, fun h k => h.keep k, fun h => h.lt⟩

theorem CP.fil (us : List Nat) (fx : Nat → FX) (rc : Nat → Nat) : CP (filPart us fx rc) := fun w h b hb => by
  obtain ⟨i, hi⟩ := List.getElem?_of_mem (show b ∈ us from hb)
  obtain ⟨T, h1⟩ := (show FilP w us fx rc from h).2 i b hi
  exact ⟨_, _, _, h1⟩

def rowPart (p : Nat) (t : Tb) : Part := ⟨[p], fun w => ∃ T, w.heap[p]? = some (.cells (t.map ptrTo).toArray T (0, 0)), fun ⟨T, h⟩ k => ⟨T, (k p (by simp)).trans h⟩, fun ⟨T, h⟩ c hc => by simp only [List.mem_singleton] at hc; subst hc; exact lt_of_get h⟩

def nilV1 : Obj := .cells #[.pointer none] 24 (0, 0)
def int1 (n : Int) : Obj := .cells #[.int .i64 n] 25 (0, 0)
def slV (A : Option Addr) (L C : Nat) : Obj := .cells #[.slice A L C] 68 (0, 0)

def okF4 (x0 x1 x2 x3 : Int) : Prop := 1 ≤ x0 ∧ x0 ≤ 4 ∧ x1 ≤ 1048576 ∧ x2 ≤ 1048576 ∧ x3 ≤ 1

theorem body_run {w00 W : World} {us : List Nat} {fx : Nat → FX} {A : Option Addr} {C : Nat} {G : List Nat} {bl br be : Nat} {o1 : Value} {n1 : Int} {tl : List Part}
    (s : Sep w00 W (filPart us fx (fun _ => 0) :: sl A us.length C 1 (us.map ptr1) G :: blk bl (slV A us.length C) :: blk br (.cells #[o1] 24 (0, 0)) :: blk be (int1 n1) :: tl)) (hus : us.length ≤ 1000)
    {ad : Addr} {x0 x1 x2 x3 : Int} (hb : ad.block < w00.heap.size) (h0 : W.cell? ad = some (.int .u64 x0)) (h1 : W.cell? (Addr.add ad 1) = some (.int .u64 x1)) (h2 : W.cell? (Addr.add ad 2) = some (.int .u64 x2)) (h3 : W.cell? (Addr.add ad 3) = some (.int .u64 x3))
    (hx0 : 0 ≤ x0) (hx1 : 0 ≤ x1) (hx2 : 0 ≤ x2) {g : Nat → Value} {D : List Deferred} {X : Exit → World → Prop}
    (hbad : ∀ W', ¬ okF4 x0 x1 x2 x3 → Sep w00 W' (blk br nilV1 :: blk be (int1 101) :: tl) → Mod [br, be] W W' → X .ret W')
    (hok : ∀ W' A' C' G' u, okF4 x0 x1 x2 x3 → Sep w00 W' (filPart (us ++ [u]) (fun i => if i = us.length then ⟨x0, x1, x2, x3 == 1⟩ else fx i) (fun _ => 0) :: sl A' (us.length + 1) C' 1 ((us ++ [u]).map ptr1) G' :: blk bl (slV A' (us.length + 1) C') :: blk br (.cells #[o1] 24 (0, 0)) :: blk be (int1 n1) :: tl) →
      Mod (bl :: G) W W' → X .normal W') : R_dec_body ⟨br, 0, none⟩ ⟨be, 0, none⟩ ⟨bl, 0, none⟩ (some ad) 4 4 g D W X := by
  simp only [R_dec_body, nilK_some, addr_add, spl_decide]
  have bad : ¬ okF4 x0 x1 x2 x3 → stK ⟨br, 0, none⟩ [.pointer none] W fun w9 => stK ⟨be, 0, none⟩ [.int .i64 101] w9 fun w10 => X .ret w10 := fun hn => by
    refine s.st0 3 rfl rfl fun w1 s1 m1 => ?_
    refine s1.st0 4 rfl rfl fun w2 s2 m2 => ?_
    refine hbad w2 hn s2.pop.pop.pop ?_
    exact (m1.mono (by simp)).trans' (m2.mono (by simp))
  refine ⟨by omega, x0, h0, fun c => bad (by unfold okF4; omega), fun c0 => ⟨by omega, x0, h0, fun c => bad (by unfold okF4; omega), fun c1 => ⟨by omega, x1, h1, fun c => bad (by unfold okF4; omega), fun c2 => ⟨by omega, x2, h2, fun c => bad (by unfold okF4; omega), fun c3 => ⟨by omega, x3, h3, fun c => bad (by unfold okF4; omega), fun c4 => ?_⟩⟩⟩⟩⟩
  have hok4 : okF4 x0 x1 x2 x3 := ⟨by omega, by omega, by omega, by omega, by omega⟩
  rw [drK_eq]
  have sd := s.mod0 (Mod.refl [] W).drew
  have d0 : W.drew.cell? ad = some (.int .u64 x0) := h0
  have d1 : W.drew.cell? (Addr.add ad 1) = some (.int .u64 x1) := h1
  have d2 : W.drew.cell? (Addr.add ad 2) = some (.int .u64 x2) := h2
  have d3 : W.drew.cell? (Addr.add ad 3) = some (.int .u64 x3) := h3
  refine ⟨[bl, ad.block], by simp, _, _, _, sd.cell 2 rfl rfl, by omega, by simp, _, d0, by omega, by simp [add_block], _, d1, by omega, by simp [add_block], _, d2, by omega, by simp [add_block], _, d3, ?_⟩
  rw [w64 (by omega) (by omega), w64 (by omega) (by omega), w64 (by omega) (by omega)]
  have hlb : ad.block < W.drew.heap.size := Nat.lt_of_lt_of_le hb sd.mod.size
  have hlbl : bl < W.drew.heap.size := lt_of_get (show W.drew.heap[bl]? = some _ from sd.nth 2 rfl)
  refine sd.new fun u w1 s1 m1 hu => ?_
  have k1 : keepB [bl, ad.block] W.drew w1 := fun x hx => by
    simp only [List.mem_cons, List.not_mem_nil, or_false] at hx
    rcases hx with rfl | rfl
    · exact m1.keep _ hlbl (by simp)
    · exact m1.keep _ hlb (by simp)
  refine ⟨k1, ?_⟩
  rw [newK_eq]
  refine ⟨fun x hx => ?_, ?_⟩
  · have hx' := hx
    simp only [List.mem_cons, List.not_mem_nil, or_false] at hx'
    rw [alloc_old]
    · exact k1 x hx
    · rcases hx' with rfl | rfl
      · exact Nat.lt_of_lt_of_le hlbl m1.size
      · exact Nat.lt_of_lt_of_le hlb m1.size
  have hun : u ∉ us := s1.dj 0 1 (by decide) rfl rfl u (by simp [blk])
  have s2 : Sep w00 w1 (filPart (us ++ [u]) (fun i => if i = us.length then ⟨x0, x1, x2, x3 == 1⟩ else fx i) (fun _ => 0) :: sl A us.length C 1 (us.map ptr1) G :: blk bl (slV A us.length C) :: blk br (.cells #[o1] 24 (0, 0)) :: blk be (int1 n1) :: tl) := by
    refine s1.merge ⟨?_, fun i v hi => ?_⟩ fun x hx => ?_
    · have hf : FilP w1 us fx (fun _ => 0) := s1.nth 1 rfl
      rw [List.nodup_append]
      refine ⟨hf.1, by simp, fun a ha c hc => ?_⟩
      simp only [List.mem_singleton] at hc
      subst hc
      rintro rfl
      exact hun ha
    · have hf : FilP w1 us fx (fun _ => 0) := s1.nth 1 rfl
      by_cases hlt : i < us.length
      · rw [List.getElem?_append_left hlt] at hi
        simp only
        rw [if_neg (by omega)]
        exact hf.2 i v hi
      · have hil : i = us.length := by
          have := (List.getElem?_eq_some_iff.1 hi).1
          simp at this
          omega
        subst hil
        simp at hi
        subst hi
        simp only [if_true]
        exact ⟨37, s1.nth 0 rfl⟩
    · rcases List.mem_append.1 hx with h | h
      · exact .inr h
      · exact .inl h
  have hs : SlB w1 A us.length C 1 (us.map ptr1) G := s2.nth 1 rfl
  refine grow_K slT_P_api_File (by decide) hs (us := [ptr1 u]) (n := 1) rfl (by simp [ptr1, isCell]) (by omega) (by omega) fun A' C' w3 G' hs3 m3 o3 => ⟨_, _, _, rfl, ?_⟩
  have s3 := s2.step 1 rfl (sl A' (us.length + 1) C' 1 ((us ++ [u]).map ptr1) G') (by rw [List.map_append]; exact hs3) m3 o3
  refine s3.st0 2 rfl rfl fun w4 s4 m4 => ?_
  refine hok w4 A' C' G' u hok4 s4 ?_
  have m5 : Mod (bl :: G) W w3 := (((Mod.refl [] W).drew.trans' m1).of0 (S := bl :: G)).trans' (m3.mono fun x hx => List.mem_cons_of_mem _ hx)
  exact m5.trans' (m4.mono (by simp))

end Go.Proofs

set_option linter.unusedSimpArgs false
namespace Go.Proofs
open Go Go.Den

def renU (us : List Nat) (i : Nat) : Nat := us[i]?.getD 0
def tK (ws : List Int) (us : List Nat) (k : Nat) : Tb := (List.range 48).map fun j => if j < k then (dK ws j).map (renU us) else none
theorem tK_len (ws : List Int) (us : List Nat) (k : Nat) : (tK ws us k).length = 48 := by simp [tK]
theorem tK_get (ws : List Int) (us : List Nat) (k : Nat) {j : Nat} (hj : j < 48) : (tK ws us k)[j]? = some (if j < k then (dK ws j).map (renU us) else none) := by simp [tK, hj]
theorem tK_zero (ws : List Int) (us : List Nat) : tK ws us 0 = List.replicate 48 none := by
  apply List.ext_getElem?
  intro j
  by_cases hj : j < 48
  · rw [tK_get _ _ _ hj, List.getElem?_replicate, if_pos hj, if_neg (by omega)]
  · rw [List.getElem?_eq_none (by rw [tK_len]; omega), List.getElem?_eq_none (by simp; omega)]
theorem tK_succ (ws : List Int) (us : List Nat) {k : Nat} (hk : k < 48) : tK ws us (k + 1) = (tK ws us k).set k ((dK ws k).map (renU us)) := by
  apply List.ext_getElem?
  intro j
  rw [set_get (by rw [tK_len]; exact hk)]
  by_cases hj : j < 48
  · rw [tK_get _ _ _ hj, tK_get _ _ _ hj]
    by_cases h1 : k = j
    · subst h1; rw [if_pos rfl, if_pos (by omega)]
    · rw [if_neg h1]
      by_cases h2 : j < k
      · rw [if_pos (by omega), if_pos h2]
      · rw [if_neg (by omega), if_neg h2]
  · rw [if_neg (by omega), List.getElem?_eq_none (by rw [tK_len]; omega), List.getElem?_eq_none (by rw [tK_len]; omega)]
theorem tK_48 (ws : List Int) (us : List Nat) : tK ws us 48 = (dT ws).map (Option.map (renU us)) := by
  apply List.ext_getElem?
  intro j
  by_cases hj : j < 48
  · rw [tK_get _ _ _ hj, if_pos hj, List.getElem?_map, dT_get ws hj]; rfl
  · rw [List.getElem?_eq_none (by rw [tK_len]; omega), List.getElem?_eq_none (by simp [dT_len]; omega)]

/-- How many places name each file so far. -/
def rcK (t : Tb) (us : List Nat) (i : Nat) : Nat := (plc t (renU us i)).length

theorem u64s_wf {w : World} {a : Option Addr} {l : Nat} {ws : List Int} {F : List Nat} (h : Rd w a l 1 (u64s ws) F) {k : Nat} (hk : k < l) : ∃ ad, a = some ad ∧ w.cell? (Addr.add ad k) = some (.int .u64 (wAt ws k)) ∧ ad.block < w.heap.size := by
  obtain ⟨ad, x, rfl, hx, hc, -, hb⟩ := h.u64at hk
  refine ⟨ad, rfl, ?_, hb⟩
  rw [hc, wAt, hx]
  rfl

theorem rest_run {w00 W : World} {ws : List Int} {us : List Nat} {a : Option Addr} {l c : Nat} {F : List Nat} {A : Option Addr} {C : Nat} {G : List Nat} {bl br be : Nat} {o1 : Value} {n1 : Int}
    (hin : Rd w00 a l 1 (u64s ws) F) (hlc : l ≤ c) (h0 : ∀ i, 0 ≤ wAt ws i) (hh : okHead ws) (hu : us.length = dN ws) (hfile : ∀ i, i < dN ws → okFile ws i)
    (s : Sep w00 W [filPart us (dF ws) (fun _ => 0), sl A us.length C 1 (us.map ptr1) G, blk bl (slV A us.length C), blk br (.cells #[o1] 24 (0, 0)), blk be (int1 n1)]) {g : Nat → Value} {D : List Deferred} {X : Exit → World → Prop}
    (hbad : ∀ W', ¬ decOK ws → Sep w00 W' [blk br nilV1, blk be (int1 101)] → Mod (br :: be :: us) W W' → X .ret W')
    (hok : ∀ W' p t ob, decOK ws → FdsP W' p t ob → can t ob = can (dT ws) (dF ws) → Sep w00 W' [fdsPart p t ob, blk br (.cells #[ptr1 p] 24 (0, 0)), blk be (int1 0)] → Mod (br :: be :: us) W W' → X .ret W') :
    R_dec_rest a l c ⟨br, 0, none⟩ ⟨be, 0, none⟩ ⟨bl, 0, none⟩ g D W X := by
  have hwl := hin.u64
  obtain ⟨hh1, hh2, hh3⟩ := hh
  have hn0 : ((dN ws : Nat) : Int) = wAt ws 0 := by have := h0 0; unfold dN; omega
  have hn32 : us.length ≤ 32 := by omega
  simp only [R_dec_rest]
  refine fds_new (fun q => dF ws (us.idxOf q)) fun p w1 hp m1 hpb => ⟨_, rfl, ?_⟩
  have s1 : Sep w00 w1 [rowPart p (tK ws us 0), filPart us (dF ws) (fun _ => 0), sl A us.length C 1 (us.map ptr1) G, blk bl (slV A us.length C), blk br (.cells #[o1] 24 (0, 0)), blk be (int1 n1)] := by
    refine s.push (rowPart p (tK ws us 0)) m1 ?_ (by intro x hx; simp only [rowPart, List.mem_singleton] at hx; omega)
    rw [tK_zero]
    exact hp.row
  clear hp
  have hrc0 : (fun _ => 0 : Nat → Nat) = rcK (tK ws us 0) us := by
    funext i
    unfold rcK
    rw [plc_nil]
    · rfl
    · intro hd
      obtain ⟨k, hk⟩ := mem_dd'.1 hd
      rw [tK_zero, List.getElem?_replicate] at hk
      split at hk <;> cases hk
  rw [hrc0] at s1
  refine ⟨_, _, _, s1.cell 3 rfl rfl, ?_⟩
  rw [w64 (n := 4 * _) (by omega) (by omega), w64 (by omega) (by omega)]
  have e0 : (1 : Int) + 4 * (us.length : Int) = ((1 + 4 * us.length : Nat) : Int) := by omega
  rw [e0]
  have bad : ∀ w', Sep w00 w' [blk br (.cells #[o1] 24 (0, 0)), blk be (int1 n1)] → Mod us W w' → ¬ decOK ws → stK ⟨br, 0, none⟩ [.pointer none] w' fun w28 => stK ⟨be, 0, none⟩ [.int .i64 101] w28 fun w29 => X .ret w29 := fun w' s' m' hn => by
    refine s'.st0 0 rfl rfl fun w2 s2 m2 => ?_
    refine s2.st0 1 rfl rfl fun w3 s3 m3 => ?_
    refine hbad w3 hn s3 ?_
    exact ((m'.mono fun x hx => by simp [hx]).trans' (m2.mono (by simp))).trans' (m3.mono (by simp))
  refine slK_rd (hin.mod0 s1.mod) hlc (L := 1 + 4 * us.length) (H := l) (.inl rfl) (.inr ⟨rfl, rfl⟩) (by omega) (Nat.le_refl _) fun a' G2 hr2 hG2 => ?_
  have hl48 : l - (1 + 4 * us.length) = 48 := by omega
  rw [hl48] at hr2 ⊢
  have hd2 : ((u64s ws).drop ((1 + 4 * us.length) * 1)).take (48 * 1) = u64s (ws.drop (1 + 4 * us.length)) := by
    simp only [Nat.mul_one]
    rw [u64s_drop, List.take_of_length_le (by rw [u64s_length, List.length_drop]; omega)]
  rw [hd2] at hr2
  have hblt : ∀ ad, a' = some ad → ad.block < w1.heap.size := fun ad e => by
    obtain ⟨ad', e', -, hb⟩ := u64s_wf hr2 (k := 0) (by omega)
    rw [e] at e'
    cases e'
    exact hb
  have hwk : ∀ k, wAt (ws.drop (1 + 4 * us.length)) k = dD ws k := fun k => by
    unfold wAt dD wAt
    rw [List.getElem?_drop, hu]
  have hfid : ∀ {u i : Nat}, us[i]? = some u → renU us i = u := fun h => by unfold renU; rw [h]; rfl
  refine ⟨fun m i w' => ∃ k : Nat, i = k ∧ k ≤ 48 ∧ m = 48 - k ∧ Sep w00 w' [rowPart p (tK ws us k), filPart us (dF ws) (rcK (tK ws us k) us), sl A us.length C 1 (us.map ptr1) G, blk bl (slV A us.length C), blk br (.cells #[o1] 24 (0, 0)), blk be (int1 n1)] ∧ (∀ j, j < k → dD ws j ≤ dN ws) ∧ Mod us W w' ∧ Rd w' a' 48 1 (u64s (ws.drop (1 + 4 * us.length))) G2,
    ⟨48, 0, rfl, by omega, by omega, s1, fun j hj => by omega, m1.of0, hr2⟩, ?_⟩
  rintro m i - w2 ⟨k, rfl, hk, rfl, s2, hd, m2, hr⟩
  rw [spl_decide]
  have hnd : us.Nodup := (show FilP w2 us _ _ from s2.nth 1 rfl).1
  refine ⟨fun hlt => ?_, fun hge => ?_⟩
  · have hk48 : k < 48 := by omega
    refine ⟨fun w3 => Sep w00 w3 [rowPart p (tK ws us (k + 1)), filPart us (dF ws) (rcK (tK ws us (k + 1)) us), sl A us.length C 1 (us.map ptr1) G, blk bl (slV A us.length C), blk br (.cells #[o1] 24 (0, 0)), blk be (int1 n1)] ∧ (∀ j, j < k + 1 → dD ws j ≤ dN ws) ∧ Mod us W w3 ∧ Rd w3 a' 48 1 (u64s (ws.drop (1 + 4 * us.length))) G2,
      fun _ w3 hj => ⟨48 - (k + 1), by omega, k + 1, by rw [w64 (by omega) (by omega)]; omega, by omega, rfl, hj⟩, ?_⟩
    obtain ⟨ad, rfl, hcx, -⟩ := u64s_wf hr hk48
    rw [hwk] at hcx
    have hx0 : 0 ≤ dD ws k := h0 _
    simp only [nilK_some, Int.toNat_natCast, spl_decide]
    refine ⟨⟨by omega, by omega⟩, _, hcx, _, _, _, s2.cell 3 rfl rfl, ?_⟩
    rw [wu64 (n := ((us.length : Nat) : Int)) (by omega) (by omega)]
    refine ⟨fun hbig => ?_, fun hsm => ?_⟩
    · exact bad w2 s2.pop.pop.pop.pop m2 fun hdec => by have := hdec.2.2.1 k hk48; omega
    · have hd' : ∀ j, j < k + 1 → dD ws j ≤ dN ws := fun j hj => by
        rcases Nat.lt_or_ge j k with h | h
        · exact hd j h
        · rw [show j = k by omega]; omega
      refine ⟨fun hpos => ?_, fun hz => ?_⟩
      · have hdk : dK ws k = some ((dD ws k).toNat - 1) := by unfold dK; rw [if_neg (by omega)]
        obtain ⟨i, hi⟩ : ∃ i, i = (dD ws k).toNat - 1 := ⟨_, rfl⟩
        rw [← hi] at hdk
        have hil : i < us.length := by omega
        have hgu : us[i]? = some us[i] := List.getElem?_eq_getElem hil
        obtain ⟨u, hueq⟩ : ∃ u, u = us[i] := ⟨_, rfl⟩
        rw [← hueq] at hgu
        have hren := hfid hgu
        have htk : tK ws us (k + 1) = (tK ws us k).set k (some u) := by rw [tK_succ ws us hk48, hdk, Option.map_some, hren]
        have htk0 : (tK ws us k)[k]? = some none := by rw [tK_get _ _ _ hk48, if_neg (by omega)]
        rw [drK_eq, wu64 (by omega) (by omega)]
        have ei : (dD ws k - 1).toNat = i := by omega
        rw [ei]
        have sd := s2.mod0 (Mod.refl [] w2).drew
        have hsl : SlB w2.drew A us.length C 1 (us.map ptr1) G := sd.nth 2 rfl
        obtain ⟨b, o, rfl, rfl⟩ := hsl.isNone (by omega)
        have hcA : w2.drew.cell? (Addr.add ⟨b, o, none⟩ i) = some (ptr1 u) := by
          rw [hsl.cell (by simpa using hil), List.getElem?_map, hgu]; rfl
        have e5 : 0 + (Int.tdiv (k : Int) 6).toNat * 6 + (Int.tmod (k : Int) 6).toNat = k := by
          rw [Int.tdiv_eq_ediv_of_nonneg (by omega), Int.tmod_eq_emod_of_nonneg (by omega)]
          omega
        have e6 : 0 ≤ Int.tdiv (k : Int) 6 ∧ Int.tdiv (k : Int) 6 < 8 := by
          rw [Int.tdiv_eq_ediv_of_nonneg (by omega)]; omega
        have e7 : 0 ≤ Int.tmod (k : Int) 6 ∧ Int.tmod (k : Int) 6 < 6 := by
          rw [Int.tmod_eq_emod_of_nonneg (by omega)]; omega
        rw [w64 (n := Int.tdiv (k : Int) 6) (by omega) (by omega)]
        refine ⟨by decide, by decide, _, _, _, sd.cell 3 rfl rfl, ?_⟩
        simp only [nilK_some]
        refine ⟨⟨by omega, by omega⟩, _, hcA, ?_⟩
        simp only [ptr1, nilK_some, addr_add]
        refine ⟨e6, e7, ?_⟩
        rw [e5]
        obtain ⟨T, hrow⟩ : ∃ T, w2.drew.heap[p]? = some (.cells ((tK ws us k).map ptrTo).toArray T (0, 0)) := sd.nth 0 rfl
        refine row_stK (o := some u) hrow (by rw [tK_len]; exact hk48) ?_
        rw [← htk]
        have mp : Mod [p] w2.drew (w2.drew.upd p (.cells ((tK ws us (k + 1)).map ptrTo).toArray T (0, 0))) := (Mod.refl _ _).upd (.inl (by simp)) _
        have s3 := sd.turn 0 rfl (rowPart p (tK ws us (k + 1))) ⟨T, upd_same hrow⟩ mp rfl
        have m3 : Mod us W (w2.drew.upd p (.cells ((tK ws us (k + 1)).map ptrTo).toArray T (0, 0))) := m2.drew.upd (.inr hpb) _
        have hpb2 : p ∉ G2 := fun hm => by
          have h1 := hr2.lt p hm
          obtain ⟨ad3, e3, -, hb3⟩ := u64s_wf hin (k := 0) (by omega)
          have h2 := hG2 p hm
          have h3 := hin.lt p h2
          have := s1.bey 0 rfl p (by simp [rowPart])
          omega
        have hr3 := (hr.keep (w' := w2.drew) fun _ _ => rfl).mod mp fun x hx => by simp only [List.mem_singleton]; rintro rfl; exact hpb2 hx
        generalize hw3 : w2.drew.upd p (.cells ((tK ws us (k + 1)).map ptrTo).toArray T (0, 0)) = w3 at s3 m3 hr3 ⊢
        have hsl3 : SlB w3 (some ⟨b, o, none⟩) us.length C 1 (us.map ptr1) [b] := s3.nth 2 rfl
        have hcA3 : w3.cell? ⟨b, o + i, none⟩ = some (ptr1 u) := by
          have := hsl3.cell (i := i) (by simpa using hil)
          rw [addr_add, List.getElem?_map, hgu] at this
          exact this
        refine ⟨_, _, _, s3.cell 3 rfl rfl, ?_⟩
        simp only [nilK_some, addr_add]
        refine ⟨⟨by omega, by omega⟩, _, hcA3, ?_⟩
        have hfil : FilP w3 us (dF ws) (rcK (tK ws us k) us) := s3.nth 1 rfl
        obtain ⟨T2, hfu⟩ := hfil.2 i u hgu
        simp only [nilK_some, addr_add, Nat.zero_add]
        refine ⟨_, (fx_cell hfu).2.2.2.2, ?_⟩
        have hrl : rcK (tK ws us k) us i ≤ 48 := by
          have := plc_len_le (tK ws us k) (renU us i)
          rw [tK_len] at this
          exact this
        rw [w64 (by omega) (by omega)]
        refine file_stK hfu _ ?_
        have hrc1 : (rcK (tK ws us k) us i : Int) + 1 = ((rcK (tK ws us (k + 1)) us i : Nat) : Int) := by
          unfold rcK
          rw [htk, hren, plc_len_set htk0]
          simp
        rw [hrc1]
        have mu : Mod us w3 (w3.upd u (.cells (fxc (dF ws i) (rcK (tK ws us (k + 1)) us i)).toArray T2 (0, 0))) := (Mod.refl _ _).upd (.inl (List.mem_of_getElem? hgu)) _
        refine ⟨s3.turn 1 rfl (filPart us (dF ws) (rcK (tK ws us (k + 1)) us)) ⟨hnd, fun j v hj => ?_⟩ mu rfl, hd', m3.trans' mu, hr3.mod mu fun x hx hxu => ?_⟩
        · by_cases hji : j = i
          · subst hji
            rw [hgu] at hj
            cases hj
            exact ⟨T2, upd_same hfu⟩
          · obtain ⟨T3, h3⟩ := hfil.2 j v hj
            have hvu : v ≠ u := fun e => hji (by
              have h1 := List.getElem?_eq_some_iff.1 hj
              have h2 := List.getElem?_eq_some_iff.1 hgu
              exact (List.getElem_inj hnd).1 (h1.2.trans (e.trans h2.2.symm)))
            refine ⟨T3, ?_⟩
            rw [upd_ne _ (Ne.symm hvu), h3]
            have : rcK (tK ws us (k + 1)) us j = rcK (tK ws us k) us j := by
              unfold rcK
              rw [htk, hfid hj, plc_set_ne htk0 hvu]
            rw [this]
        · have h2 := hin.lt x (hG2 x hx)
          have := s1.bey 1 rfl x hxu
          omega
      · have hdk : dK ws k = none := by unfold dK; rw [if_pos (by omega)]
        have htk : tK ws us (k + 1) = tK ws us k := by
          rw [tK_succ ws us hk48, hdk]
          apply List.ext_getElem?
          intro j
          rw [set_get (by rw [tK_len]; exact hk48)]
          by_cases hj : k = j
          · subst hj; rw [if_pos rfl, tK_get _ _ _ hk48, if_neg (by omega)]; rfl
          · rw [if_neg hj]
        rw [htk]
        exact ⟨s2, hd', m2, hr⟩
  · obtain rfl : k = 48 := by omega
    clear hr hr2
    have hdt := tK_48 ws us
    obtain ⟨t, ht⟩ : ∃ t, t = tK ws us 48 := ⟨_, rfl⟩
    rw [← ht] at s2 hdt
    have hkey : ∀ i, i ∈ dd (dT ws) → i < us.length := fun i hi => by rw [hu]; exact dT_key h0 hd hi
    have hinj : ∀ i j, i ∈ dd (dT ws) → j ∈ dd (dT ws) → renU us i = renU us j → i = j := fun i j hi hj e => by
      have h1 := hkey i hi
      have h2 := hkey j hj
      rw [hfid (List.getElem?_eq_getElem h1), hfid (List.getElem?_eq_getElem h2)] at e
      exact (List.getElem_inj hnd).1 e
    have hob : ∀ i, i ∈ dd (dT ws) → (fun q => dF ws (us.idxOf q)) (renU us i) = dF ws i := fun i hi => by
      have h1 := hkey i hi
      have : us.idxOf (renU us i) = i := by
        rw [hfid (List.getElem?_eq_getElem h1)]
        exact hnd.idxOf_getElem i h1
      simp only [this]
    have hcan := can_ren (ob := fun q => dF ws (us.idxOf q)) (fx := dF ws) hdt hinj hob
    have hddu : ∀ q, q ∈ dd t → ∃ i, i ∈ dd (dT ws) ∧ renU us i = q ∧ us[i]? = some q := fun q hq => by
      rw [dd_ren hdt hinj] at hq
      obtain ⟨i, hi, rfl⟩ := List.mem_map.1 hq
      have h1 := hkey i hi
      exact ⟨i, hi, rfl, by rw [hfid (List.getElem?_eq_getElem h1)]; exact List.getElem?_eq_getElem h1⟩
    have hfp : FdsP w2 p t (fun q => dF ws (us.idxOf q)) := by
      refine ⟨s2.nth 0 rfl, by rw [ht, tK_len], fun q hq => ?_, fun hq => ?_⟩
      · obtain ⟨i, hi, hri, hgi⟩ := hddu q hq
        have hfil : FilP w2 us (dF ws) (rcK t us) := s2.nth 1 rfl
        obtain ⟨T, h1⟩ := hfil.2 i q hgi
        refine ⟨T, ?_⟩
        rw [h1]
        have := hob i hi
        simp only [hri] at this
        rw [this]
        unfold rcK
        rw [hri]
      · obtain ⟨i, hi, hri, hgi⟩ := hddu p hq
        exact s2.dj 0 1 (by decide) rfl rfl p (by simp [rowPart]) (List.mem_of_getElem? hgi)
    have sf : Sep w00 w2 [fdsPart p t (fun q => dF ws (us.idxOf q)), sl A us.length C 1 (us.map ptr1) G, blk bl (slV A us.length C), blk br (.cells #[o1] 24 (0, 0)), blk be (int1 n1)] := by
      refine s2.merge hfp fun x hx => ?_
      rcases List.mem_cons.1 hx with h | h
      · left; simp [rowPart, h]
      · obtain ⟨i, hi, hri, hgi⟩ := hddu x h
        exact .inr (List.mem_of_getElem? hgi)
    refine fencode_run hfp fun A2 C2 w3 hw3 => ⟨_, _, _, rfl, ?_⟩
    have m3 := hw3.mod
    obtain ⟨G3, hs3, -, -⟩ := hw3
    have sf3 := sf.mod0 m3
    have hel : (enc18 t (fun q => dF ws (us.idxOf q))).length ≤ 1000 := by
      have h4 := dd_len t
      rw [ht, tK_len, ← ht] at h4
      unfold enc18
      simp only [List.length_cons, List.length_append, List.length_map, List.length_range]
      rw [flat4 (fun q => fxw (dF ws (us.idxOf q))) (fun q => fxw_len _)]
      omega
    refine equal_words hs3.rd (hin.mod0 sf3.mod) (by omega) fun w4 m4 => ⟨_, rfl, ?_⟩
    have sf4 := sf3.mod0 m4
    have m24 : Mod us W w4 := (m2.trans' m3.of0).trans' m4.of0
    have eenc : enc18 t (fun q => dF ws (us.idxOf q)) = enc18 (dT ws) (dF ws) := by rw [← encC_can, hcan, encC_can]
    rw [eenc, spl_decide]
    refine ⟨fun heq => ?_, fun hne => ?_⟩
    · have hdec : decOK ws := ⟨⟨hh1, hh2, hh3⟩, hfile, hd, heq⟩
      refine sf4.st0 3 rfl rfl fun w5 s5 m5 => ?_
      refine s5.st0 4 rfl rfl fun w6 s6 m6 => ?_
      refine hok w6 p t _ hdec (s6.nth 0 rfl) hcan ?_ (((m24.mono fun x hx => by simp [hx]).trans' (m5.mono (by simp))).trans' (m6.mono (by simp)))
      have s7 : Sep w00 w6 [fdsPart p t (fun q => dF ws (us.idxOf q)), sl A us.length C 1 (us.map ptr1) G, blk bl (slV A us.length C), blk br (.cells #[ptr1 p] 24 (0, 0)), blk be (int1 0)] := s6
      have s8 := s7.merge (s7.nth 0 rfl) fun x hx => .inl hx
      exact s8.merge (s8.nth 0 rfl) fun x hx => .inl hx
    · exact bad w4 sf4.pop.pop.pop m24 fun hdec => hne hdec.2.2.2

end Go.Proofs

set_option linter.unusedSimpArgs false
namespace Go.Proofs
open Go Go.Den Go.RowKit
attribute [local go_sem] Oper.semAt_some

theorem res9 {tmps : Array Value} {w : World} {br be : Addr} {x : Option Addr} {e : Int} (h2 : tmps.getD 2 undef = .pointer (some br)) (h3 : tmps.getD 3 undef = .pointer (some be)) (c2 : w.cell? br = some (.pointer x)) (c3 : w.cell? be = some (.int .i64 e)) :
    (results Try.f9 tmps).run Try.prog w = .ok (.tuple #[.pointer x, .int .i64 e]) w := by
  simp only [Array.getD_eq_getD_getElem?] at h2 h3
  simp [results, Try.f9, go_sem, h2, h3, c2, c3]

theorem post9 {R : Ending → World → Prop} {a : Act} {w : World} {br be : Addr} {x : Option Addr} {e : Int} (hd : a.defers = []) (h2 : a.tmps.getD 2 undef = .pointer (some br)) (h3 : a.tmps.getD 3 undef = .pointer (some be)) (c2 : w.cell? br = some (.pointer x)) (c3 : w.cell? be = some (.int .i64 e))
    (hR : R (.returned (.tuple #[.pointer x, .int .i64 e])) w) : bodyPostM Fence.wide 5 Try.prog Try.f9 R .ret a w := by
  show LeavesInM _ _ _ _ _ _ _ _ _
  rw [hd]
  exact ⟨_, res9 h2 h3 c2 c3, hR⟩

theorem post9m {R : Ending → World → Prop} {a : Act} {w : World} {br be : Addr} {x : Option Addr} {e : Int} {D : Nat} (hd : a.defers = [{ target := .collected D, args := #[] }]) (hD : w.heap[D]? = some (.deferred (some []))) (h2 : a.tmps.getD 2 undef = .pointer (some br)) (h3 : a.tmps.getD 3 undef = .pointer (some be))
    (c2 : (w.putObj D (.deferred none)).cell? br = some (.pointer x)) (c3 : (w.putObj D (.deferred none)).cell? be = some (.int .i64 e))
    (hR : R (.returned (.tuple #[.pointer x, .int .i64 e])) (w.putObj D (.deferred none))) : bodyPostM Fence.wide 5 Try.prog Try.f9 R .ret a w := by
  show LeavesInM _ _ _ _ _ _ _ _ _
  rw [hd]
  exact ⟨by simp, .inl ⟨_, _, rfl, run_takeDeferred hD, _, res9 h2 h3 c2 c3, hR⟩⟩

theorem chunk_call (a : Option Addr) (l c : Nat) (w : World) : CallsIn Fence.wide 4 Try.prog 35 #[.slice a l c, .int .i64 4] w fun e w' => e = .returned (.func (.func 51) #[] #[.pointer (some ⟨w.heap.size, 0, none⟩), .pointer (some ⟨w.heap.size + 1, 0, none⟩)]) ∧ w' = (w.alloc (.cells #[.slice a l c] 22)).alloc (.cells #[.int .i64 4] 3) := by
  refine callsIn_wide.2 ?_
  have h : CallsR Try.prog F_slices_Chunk_uint64_uint64 #[.slice a l c, .int .i64 4] w fun v w' => v = .func (.func 51) #[] #[.pointer (some ⟨w.heap.size, 0, none⟩), .pointer (some ⟨w.heap.size + 1, 0, none⟩)] ∧ w' = (w.alloc (.cells #[.slice a l c] 22)).alloc (.cells #[.int .i64 4] 3) := by
    apply R_slices_Chunk_uint64_uint64_ok
    simp only [R_slices_Chunk_uint64_uint64, newK_eq, spl_decide]
    have hc := alloc_new (w.alloc (.cells #[.slice a l c] 22)) (.cells #[.int .i64 4] 3)
    rw [alloc_size] at hc ⊢
    refine ⟨4, by rw [cell_get hc]; rfl, fun h => absurd h (by decide), fun _ => by simp⟩
  refine Calls.mono h ?_
  rintro e w' ⟨v, rfl, rfl, rfl⟩
  exact ⟨rfl, rfl⟩

theorem cap_tmps {F : Fence} {n : Nat} {P : Program} {c : Code} {Q : Exit → Act → World → Prop} {T : Array Value} {D : List Deferred} {w : World} (h : ∀ T', T' = T → c.wpIn F n P Q { tmps := T', defers := D } w) : c.wpIn F n P Q { tmps := T, defers := D } w := h T rfl

/-! ### The range -/

noncomputable def rf9 : Code := cL (cR (cL (cR (cR (cR (bodyOf Try.f9))))))
noncomputable def rest9 : Code := cR (cR (cR (cR (bodyOf Try.f9))))
theorem rf9_eq : rf9 = Code.rangeFunc (.tmp 38) #[39] (cL rf9) (cR rf9) := by kernel_rfl
theorem wr2 : (wr rest9).contains 2 = false := by kernel_rfl
theorem wr3 : (wr rest9).contains 3 = false := by kernel_rfl

theorem sep_own {w0 W W' : World} {B : Nat} {row : Option Nat} {l : List Part} (hB : w0.heap.size ≤ B) (hcp : ∀ p ∈ l, CP p) (h : Den.Sep w0 W l) (hg : W.grownBy W' row) (hr : ∀ r, row = some r → B ≤ r ∧ ∃ o : Obj, W.heap[r]? = some o ∧ o.isCells = false) : Den.Sep w0 W' l := by
  have hk : ∀ b ∈ PF l, W'.heap[b]? = W.heap[b]? := fun b hb => by
    obtain ⟨i, p, hi, hx⟩ := mem_PF.1 hb
    obtain ⟨cs, T, fr, hc⟩ := hcp p (List.mem_of_getElem? hi) W (h.nth i hi) b hx
    refine hg.block b (lt_of_get hc) fun e => ?_
    obtain ⟨-, o, ho, hn⟩ := hr b e.symm
    rw [hc] at ho
    cases ho
    simp [Obj.isCells] at hn
  have hm := h.mod
  refine Den.Sep.of_prts ⟨hg.os.trans hm.os, hg.tape.trans hm.tape, hg.output.trans hm.output, Nat.le_trans hm.size hg.size, fun b hb _ => ?_⟩ (h.prts.keep hk) fun x hx => ?_
  · refine (hg.block b (Nat.lt_of_lt_of_le hb hm.size) fun e => ?_).trans (hm.keep b hb (by simp))
    have := (hr b e.symm).1
    omega
  · obtain ⟨i, q, hi, hx⟩ := mem_PF.1 hx
    exact h.bey i hi x hx

theorem asg9 : cL rf9 = Code.region 5 #[{ dst := some 5, op := .assign (.tmp 39), type := 22, pos := "fds.go:209", after := #[], guard := none }] false := by kernel_rfl

/-- A block that is no cells is none of the parts. -/
theorem putD {w0 W : World} {D : Nat} {o o' : Obj} {l : List Part} (hcp : ∀ p ∈ l, CP p) (h : Den.Sep w0 W l) (hD : W.heap[D]? = some o) (ho : o.isCells = false) (hw : w0.heap.size ≤ D) : Den.Sep w0 (W.putObj D o') l :=
  sep_own (B := w0.heap.size) (Nat.le_refl _) hcp h (grownBy_putObj' W D o') fun r e => by cases e; exact ⟨hw, o, hD, ho⟩

theorem keepsFrom_mod {B : Nat} {W W' : World} {S : List Nat} (hm : Den.Mod S W W') (hS : ∀ b ∈ S, isC W b) : KeepsFrom B W W' :=
  ⟨hm.size, fun k o _ hk ho => (hm.keep k (lt_of_get hk) fun hs => by
    obtain ⟨cs, T, fr, h1⟩ := hS k hs
    rw [hk] at h1
    cases h1
    simp [Obj.isCells] at ho).trans hk⟩

/-- What a round leaves: files so far. -/
def RdI (w : World) (ws : List Int) (n bl br be Bs Bn : Nat) (oS oN : Value) (pre : List (Fin n)) (W : World) : Prop :=
  ∃ (A : Option Addr) (C : Nat) (us G : List Nat) (fx : Nat → FX), us.length = pre.length ∧
    Den.Sep w W [filPart us fx (fun _ => 0), sl A us.length C 1 (us.map ptr1) G, blk bl (slV A us.length C), blk br nilV1, blk be (int1 0), blk Bs (.cells #[oS] 22 (0, 0)), blk Bn (.cells #[oN] 3 (0, 0))] ∧
    ∀ (i : Nat) (x : Fin n), pre[i]? = some x → fx i = dF ws x.1 ∧ okFile ws x.1
def RdX (w : World) (ws : List Int) (n br be Bs Bn : Nat) (oS oN : Value) (c : Code) (_ : List (Fin n)) (W : World) : Prop :=
  c = .ret ∧ ¬ decOK ws ∧ Den.Sep w W [blk br nilV1, blk be (int1 101), blk Bs (.cells #[oS] 22 (0, 0)), blk Bn (.cells #[oN] 3 (0, 0))]

theorem cpI {us : List Nat} {fx : Nat → FX} {A : Option Addr} {L C : Nat} {vs : List Value} {G : List Nat} {bl br be Bs Bn : Nat} {o1 o2 o3 oS oN : Value} : ∀ p ∈ [filPart us fx (fun _ => 0), sl A L C 1 vs G, blk bl (.cells #[o1] 68 (0, 0)), blk br (.cells #[o2] 24 (0, 0)), blk be (.cells #[o3] 25 (0, 0)), blk Bs (.cells #[oS] 22 (0, 0)), blk Bn (.cells #[oN] 3 (0, 0))], CP p := by
  intro p hp
  simp only [List.mem_cons, List.not_mem_nil, or_false] at hp
  rcases hp with rfl | rfl | rfl | rfl | rfl | rfl | rfl
  · exact CP.fil _ _ _
  · exact CP.sl _ _ _ _ _ _
  all_goals exact CP.blk _ _ _
theorem cpX {br be Bs Bn : Nat} {o2 o3 oS oN : Value} : ∀ p ∈ [blk br (.cells #[o2] 24 (0, 0)), blk be (.cells #[o3] 25 (0, 0)), blk Bs (.cells #[oS] 22 (0, 0)), blk Bn (.cells #[oN] 3 (0, 0))], CP p := by
  intro p hp
  simp only [List.mem_cons, List.not_mem_nil, or_false] at hp
  rcases hp with rfl | rfl | rfl | rfl
  all_goals exact CP.blk _ _ _

set_option maxRecDepth 100000 in
set_option maxHeartbeats 2000000 in
theorem rf_run {w W5 : World} {ws : List Int} {ad : Addr} {l c n : Nat} {F : List Nat} {bl br be Bs Bn : Nat} (hin : Rd w (some ad) l 1 (u64s ws) F) (hlc : l ≤ c) (h64 : ∀ i, 0 ≤ wAt ws i ∧ wAt ws i < 18446744073709551616) (hh : okHead ws) (hn : dN ws = n) {K : Value → World → Prop}
    (hbad : ∀ w', ¬ decOK ws → Mod [] w w' → K (.tuple #[.pointer none, .int .i64 101]) w')
    (hok : ∀ w' p t ob, decOK ws → FdsP w' p t ob → (∀ b ∈ p :: dd t, w.heap.size ≤ b) → can t ob = can (dT ws) (dF ws) → Mod [] w w' → K (.tuple #[ptr1 p, .int .i64 0]) w')
    (s : Den.Sep w W5 [filPart [] (fun _ => fx0) (fun _ => 0), sl none 0 0 1 [] [], blk bl (slV none 0 0), blk br nilV1, blk be (int1 0), blk Bs (.cells #[.slice (some (ad.add 1)) (4 * n) (c - 1)] 22 (0, 0)), blk Bn (.cells #[.int .i64 4] 3 (0, 0))])
    {T : Array Value} (t38 : T.getD 38 undef = .func (.func 51) #[] #[.pointer (some ⟨Bs, 0, none⟩), .pointer (some ⟨Bn, 0, none⟩)])
    (t2 : T.getD 2 undef = .pointer (some ⟨br, 0, none⟩)) (t3 : T.getD 3 undef = .pointer (some ⟨be, 0, none⟩))
    (hbody : ∀ x : Nat, ∃ g, act_dec_body ⟨br, 0, none⟩ ⟨be, 0, none⟩ ⟨bl, 0, none⟩ (some ((ad.add 1).add (4 * x))) 4 4 g [] = { tmps := (T.setIfInBounds 39 (.slice (some ((ad.add 1).add (4 * x))) 4 4)).setIfInBounds 5 (.slice (some ((ad.add 1).add (4 * x))) 4 4), defers := [] })
    (hrst : ∃ g, ∀ D, act_dec_rest (some ad) l c ⟨br, 0, none⟩ ⟨be, 0, none⟩ ⟨bl, 0, none⟩ g D = { tmps := T, defers := D })
    (hassign : ∀ (lb : Nat) (x : Value) (W : World) (K : Act → World → Prop), K { tmps := (T.setIfInBounds 39 x).setIfInBounds 5 x, defers := [] } W → (cL rf9).wpIn (FR lb) 3 Try.prog (Exit.then K (fun _ _ _ => False)) { tmps := T.setIfInBounds 39 x, defers := [] } W)
    {K1 : Act → World → Prop} (hK1 : ∀ a w, rest9.wpIn Fence.wide 5 Try.prog (bodyPostM Fence.wide 5 Try.prog Try.f9 fun e w' => ∃ v, e = .returned v ∧ K v w') a w → K1 a w) :
    rf9.wpIn Fence.wide 5 Try.prog (Exit.inBlock 0 (Exit.then K1 (bodyPostM Fence.wide 5 Try.prog Try.f9 fun e w' => ∃ v, e = .returned v ∧ K v w'))) { tmps := T, defers := [] } W5 := by
  have hwl := hin.u64
  have hh0 := hh
  obtain ⟨hh1, hh2, hh3⟩ := hh
  have hn0 : ((dN ws : Nat) : Int) = wAt ws 0 := by have := (h64 0).1; unfold dN; omega
  have hn32 : n ≤ 32 := by omega
  have hcell : ∀ k, k < l → w.cell? (ad.add k) = some (.int .u64 (wAt ws k)) := fun k hk => by
    obtain ⟨ad', e, h1, -⟩ := u64s_wf hin hk
    cases e
    exact h1
  have hadb : ad.block < w.heap.size := by
    obtain ⟨ad', e, -, h1⟩ := u64s_wf hin (k := 0) (by omega)
    cases e
    exact h1
  rw [rf9_eq]
  have cS : W5.cell? ⟨Bs, 0, none⟩ = some (.slice (some (ad.add 1)) (4 * n) (c - 1)) := s.cell 5 rfl rfl
  have cN : W5.cell? ⟨Bn, 0, none⟩ = some (.int .i64 4) := s.cell 6 rfl rfl
  have lS : Bs < W5.heap.size := lt_of_get (show W5.heap[Bs]? = some _ from s.nth 5 rfl)
  have lN : Bn < W5.heap.size := lt_of_get (show W5.heap[Bn]? = some _ from s.nth 6 rfl)
  refine wpIn_rangeFunc_ownG (F := Fence.wide) (n := 5) rfl (by decide) (gf := 51) (lb := #[.pointer (some ⟨Bs, 0, none⟩), .pointer (some ⟨Bn, 0, none⟩)]) t38 trivial (enters_of Try.func51 (by kernel_rfl) rfl)
    (chunk_stops Fence.wide 4 trivial rfl (by decide) Bs Bn (ad.add 1) (c - 1) n (some (ad.add 1)) (by omega) W5 cS cN lS lN (by omega) (fun _ => rfl)) KB.trans ?hKb (Below.refl _ _) (fun _ => rfl)
    (RdI w ws n bl br be Bs Bn (.slice (some (ad.add 1)) (4 * n) (c - 1)) (.int .i64 4)) (RdX w ws n br be Bs Bn (.slice (some (ad.add 1)) (4 * n) (c - 1)) (.int .i64 4)) ?hI ?hIx ?h0
    (fun x : Fin n => { tmps := (T.setIfInBounds 39 (.slice (some ((ad.add 1).add (4 * x.1))) 4 4)).setIfInBounds 5 (.slice (some ((ad.add 1).add (4 * x.1))) 4 4), defers := [] }) ?assign ?body ?done ?stop
  case hKb =>
    intro W k o o' hk ho hnc hnw
    exact ⟨World.putObj_heap_other (by omega), World.putObj_heap_other (by omega)⟩
  case hI =>
    rintro pre W W' row ⟨A, C, us, G, fx, h1, h2, h3⟩ hg hr
    exact ⟨A, C, us, G, fx, h1, sep_own (B := W5.heap.size) s.mod.size cpI h2 hg hr, h3⟩
  case hIx =>
    rintro c' pre W W' row ⟨h1, h2, h3⟩ hg hr
    exact ⟨h1, h2, sep_own (B := W5.heap.size) s.mod.size cpX h3 hg hr⟩
  case h0 => exact ⟨none, 0, [], [], _, rfl, s, fun i x hx => by simp at hx⟩
  case assign =>
    intro lb x W K' hK'
    simpa [four] using hassign lb _ W K' hK'
  case body =>
    rintro lb pre x W ⟨A, C, us, G, fx, hul, hs, hfx⟩ hlt
    obtain ⟨g, hg⟩ := hbody x.1
    have hx := x.2
    rw [← hg]
    have hm := hs.mod
    have cell : ∀ i, i < 4 → W.cell? (Addr.add ((ad.add 1).add (4 * x.1)) i) = some (.int .u64 (wAt ws (1 + 4 * x.1 + i))) := fun i hi => by
      rw [add_add, add_add, show 1 + (4 * x.1 + i) = 1 + 4 * x.1 + i by omega, Den.Mod.cell hm (by rw [add_block]; exact hadb)]
      exact hcell _ (by omega)
    have c0 := cell 0 (by omega)
    rw [add_zero, Nat.add_zero] at c0
    have c1 := cell 1 (by omega)
    have c2 := cell 2 (by omega)
    have c3 := cell 3 (by omega)
    rw [show 1 + 4 * x.1 + 1 = 2 + 4 * x.1 by omega] at c1
    rw [show 1 + 4 * x.1 + 2 = 3 + 4 * x.1 by omega] at c2
    rw [show 1 + 4 * x.1 + 3 = 4 + 4 * x.1 by omega] at c3
    have hcS : ∀ {b : Nat} {i : Nat} {p : Part}, [filPart us fx (fun _ => 0), sl A us.length C 1 (us.map ptr1) G, blk bl (slV A us.length C), blk br nilV1, blk be (int1 0), blk Bs (.cells #[.slice (some (ad.add 1)) (4 * n) (c - 1)] 22 (0, 0)), blk Bn (.cells #[.int .i64 4] 3 (0, 0))][i]? = some p → b ∈ p.F → isC W b :=
      fun {b i p} hi hb => cpI p (List.mem_of_getElem? hi) W (hs.nth i hi) b hb
    refine wpIn_mono (R_dec_body_ok (X := fun e W' => ownPostG W5.heap.size (KB Bs Bn) (RdI w ws n bl br be Bs Bn (.slice (some (ad.add 1)) (4 * n) (c - 1)) (.int .i64 4)) (RdX w ws n br be Bs Bn (.slice (some (ad.add 1)) (4 * n) (c - 1)) (.int .i64 4)) (pre ++ [x]) W e { tmps := #[], defers := [] } W') (fun _ _ h => h) (fun _ h => h) ?_ lb _) ?_
    · refine body_run hs (by omega) (by rw [add_block, add_block]; exact hadb) c0 c1 c2 c3 (h64 _).1 (h64 _).1 (h64 _).1 (fun W' hno hs' hm' => ?_) (fun W' A' C' G' u hof hs' hm' => ?_)
      · refine ⟨keepsFrom_mod hm' fun b hb => ?_, rfl, fun hd => hno (hd.2.1 x.1 (by omega)), hs'⟩
        simp only [List.mem_cons, List.not_mem_nil, or_false] at hb
        rcases hb with rfl | rfl
        · exact hcS (i := 3) rfl (by simp [blk])
        · exact hcS (i := 4) rfl (by simp [blk])
      · refine ⟨keepsFrom_mod hm' fun b hb => ?_, ⟨hs'.kept hs 5 5 rfl rfl |>.symm, hs'.kept hs 6 6 rfl rfl |>.symm⟩, ?_⟩
        · rcases List.mem_cons.1 hb with rfl | hb
          · exact hcS (i := 2) rfl (by simp [blk])
          · exact hcS (i := 1) rfl hb
        · refine ⟨A', C', us ++ [u], G', _, by simp [hul], by rw [show (us ++ [u]).length = us.length + 1 by simp]; exact hs', fun i y hy => ?_⟩
          by_cases hi : i < pre.length
          · rw [List.getElem?_append_left hi] at hy
            rw [if_neg (by omega)]
            exact hfx i y hy
          · have hil : i = pre.length := by
              have := (List.getElem?_eq_some_iff.1 hy).1
              simp at this
              omega
            subst hil
            simp at hy
            subst hy
            rw [if_pos hul.symm]
            exact ⟨rfl, hof⟩
    · rintro e a' W' ⟨h, -⟩
      cases e <;> exact h
  case done =>
    rintro D xs W hD hxs ⟨A, C, us, G, fx, hul, hs, hfx⟩ hDo
    show K1 _ W
    refine hK1 _ _ (wpIn_wide.2 ?_)
    obtain ⟨g, hg⟩ := hrst
    have hxl : xs.length = n := by have := congrArg List.length hxs; simpa using this
    have hfile : ∀ i, i < n → fx i = dF ws i ∧ okFile ws i := fun i hi => by
      have h1 : xs[i]? = some xs[i] := List.getElem?_eq_getElem (by omega)
      have h2 : (xs.map (·.1))[i]? = some i := by rw [hxs]; simp [hi]
      rw [List.getElem?_map, h1] at h2
      have h3 : xs[i].1 = i := Option.some.inj h2
      have := hfx i _ h1
      rw [h3] at this
      exact this
    have hs5 : Den.Sep w W [filPart us (dF ws) (fun _ => 0), sl A us.length C 1 (us.map ptr1) G, blk bl (slV A us.length C), blk br nilV1, blk be (int1 0)] := by
      have h1 : Den.Sep w W [filPart us fx (fun _ => 0), sl A us.length C 1 (us.map ptr1) G, blk bl (slV A us.length C), blk br nilV1, blk be (int1 0)] := Den.Sep.front (l := [filPart us fx (fun _ => 0), sl A us.length C 1 (us.map ptr1) G, blk bl (slV A us.length C), blk br nilV1, blk be (int1 0)]) (tl := [blk Bs (.cells #[.slice (some (ad.add 1)) (4 * n) (c - 1)] 22 (0, 0)), blk Bn (.cells #[.int .i64 4] 3 (0, 0))]) hs
      refine h1.turn 0 rfl (filPart us (dF ws) (fun _ => 0)) ?_ (Den.Mod.refl _ _) rfl
      have hf : FilP W us fx (fun _ => 0) := h1.nth 0 rfl
      refine ⟨hf.1, fun i u hi => ?_⟩
      rw [← (hfile i (by have := (List.getElem?_eq_some_iff.1 hi).1; omega)).1]
      exact hf.2 i u hi
    have hcS : ∀ {b : Nat} {i : Nat} {p : Part}, [filPart us fx (fun _ => 0), sl A us.length C 1 (us.map ptr1) G, blk bl (slV A us.length C), blk br nilV1, blk be (int1 0), blk Bs (.cells #[.slice (some (ad.add 1)) (4 * n) (c - 1)] 22 (0, 0)), blk Bn (.cells #[.int .i64 4] 3 (0, 0))][i]? = some p → b ∈ p.F → isC W b :=
      fun {b i p} hi hb => cpI p (List.mem_of_getElem? hi) W (hs.nth i hi) b hb
    have hDn : ∀ b, isC W b → b ≠ D := fun b ⟨cs, T, fr, h1⟩ e => by
      rw [e, hDo] at h1
      cases h1
    have hDS : D ∉ br :: be :: us := fun hm => by
      rcases List.mem_cons.1 hm with e | hm
      · exact hDn br (hcS (i := 3) rfl (by simp [blk])) e.symm
      · rcases List.mem_cons.1 hm with e | hm
        · exact hDn be (hcS (i := 4) rfl (by simp [blk])) e.symm
        · exact hDn D (hcS (i := 0) rfl hm) rfl
    have hwD : w.heap.size ≤ D := Nat.le_trans s.mod.size hD
    rw [← hg]
    refine wp_mono (R_dec_rest_ok (X := fun e W' => e = .ret ∧ ∃ (x : Option Addr) (ev : Int), (W'.putObj D (.deferred none)).cell? ⟨br, 0, none⟩ = some (.pointer x) ∧ (W'.putObj D (.deferred none)).cell? ⟨be, 0, none⟩ = some (.int .i64 ev) ∧ W'.heap[D]? = some (.deferred (some [])) ∧ K (.tuple #[.pointer x, .int .i64 ev]) (W'.putObj D (.deferred none))) (fun _ _ h => by cases h.1) ?_) ?_
    · refine rest_run hin hlc (fun i => (h64 i).1) hh0 (by omega) (fun i hi => (hfile i (by omega)).2) hs5 (fun W' hno hs' hm' => ?_) (fun W' p t ob hdec hp hcan hs' hm' => ?_)
      · have hD' : W'.heap[D]? = some (.deferred (some [])) := hm'.get hDo hDS
        have hcp : ∀ p ∈ [blk br nilV1, blk be (int1 101)], CP p := fun p hp => by
          simp only [List.mem_cons, List.not_mem_nil, or_false] at hp
          rcases hp with rfl | rfl
          all_goals exact CP.blk _ _ _
        have s9 := putD (o' := .deferred none) hcp hs' hD' rfl hwD
        exact ⟨rfl, none, 101, s9.cell 0 rfl rfl, s9.cell 1 rfl rfl, hD', hbad _ hno s9.mod⟩
      · have hD' : W'.heap[D]? = some (.deferred (some [])) := hm'.get hDo hDS
        have hcp : ∀ q ∈ [fdsPart p t ob, blk br (.cells #[ptr1 p] 24 (0, 0)), blk be (int1 0)], CP q := fun q hq => by
          simp only [List.mem_cons, List.not_mem_nil, or_false] at hq
          rcases hq with rfl | rfl | rfl
          · intro w1 h1 b hb
            have h1 : FdsP w1 p t ob := h1
            rcases List.mem_cons.1 (show b ∈ p :: dd t from hb) with rfl | hb
            · obtain ⟨T, h2⟩ := h1.row; exact ⟨_, _, _, h2⟩
            · obtain ⟨T, h2⟩ := h1.at_ b hb; exact ⟨_, _, _, h2⟩
          all_goals exact CP.blk _ _ _
        have s9 := putD (o' := .deferred none) hcp hs' hD' rfl hwD
        exact ⟨rfl, some ⟨p, 0, none⟩, 0, s9.cell 1 rfl rfl, s9.cell 2 rfl rfl, hD', hok _ p t ob hdec (s9.nth 0 rfl) (fun b hb => s9.bey 0 rfl b hb) hcan s9.mod⟩
    · rintro e a' W' ⟨⟨rfl, x, ev, h1, h2, h3, h4⟩, hsame⟩
      rw [hg] at hsame
      obtain ⟨d1, d2, d3⟩ := hsame
      have g2 : a'.tmps.getD 2 undef = .pointer (some ⟨br, 0, none⟩) := by
        have := d3 2 (by have := wr2; show 2 ∉ wr rest9; simpa using this)
        rw [← t2, Array.getD_eq_getD_getElem?, Array.getD_eq_getD_getElem?, this]
      have g3 : a'.tmps.getD 3 undef = .pointer (some ⟨be, 0, none⟩) := by
        have := d3 3 (by have := wr3; show 3 ∉ wr rest9; simpa using this)
        rw [← t3, Array.getD_eq_getD_getElem?, Array.getD_eq_getD_getElem?, this]
      exact post9m d1 h3 g2 g3 h1 h2 ⟨_, rfl, h4⟩
  case stop =>
    rintro D c' pre W hD - ⟨rfl, hno, hs⟩ hDo
    have hwD : w.heap.size ≤ D := Nat.le_trans s.mod.size hD
    have s9 := putD (o' := .deferred none) cpX hs hDo rfl hwD
    refine wpIn_ret ?_
    exact post9m rfl hDo t2 t3 (s9.cell 0 rfl rfl) (s9.cell 1 rfl rfl) ⟨_, rfl, hbad _ hno s9.mod⟩

set_option maxRecDepth 100000 in
set_option maxHeartbeats 4000000 in
theorem fdec_run {w : World} {a : Option Addr} {l c : Nat} {ws : List Int} {F : List Nat} (hin : Rd w a l 1 (u64s ws) F) (hlc : l ≤ c) (h64 : ∀ i, 0 ≤ wAt ws i ∧ wAt ws i < 18446744073709551616) {K : Value → World → Prop}
    (hbad : ∀ w', ¬ decOK ws → Mod [] w w' → K (.tuple #[.pointer none, .int .i64 101]) w')
    (hok : ∀ w' p t ob, decOK ws → FdsP w' p t ob → (∀ b ∈ p :: dd t, w.heap.size ≤ b) → can t ob = can (dT ws) (dF ws) → Mod [] w w' → K (.tuple #[ptr1 p, .int .i64 0]) w') : CallsR Try.prog F_fds_Decode #[.slice a l c] w K := by
  have hwl := hin.u64
  show Calls Try.prog 9 _ w _
  refine (callsIn_wide (n := 5)).1 ?_
  refine callsIn_of_wp_marks Try.func9 rfl trivial ?_ rfl
  simp only [Try.ntmps9, List.size_toArray, List.length_cons, List.length_nil, Nat.reduceAdd, Nat.reduceSub, Array.replicate_succ, Array.replicate_zero, List.push_toArray, List.append_toArray, List.nil_append, List.cons_append]
  have hm2 : Den.Mod [] w ((w.alloc (Obj.cells #[Value.pointer none] 24)).alloc (Obj.cells #[Value.int IntKind.i64 101] 25)) := ((Den.Mod.refl [] w).alloc _).alloc _
  have hb1 : ((w.alloc (Obj.cells #[Value.pointer none] 24)).alloc (Obj.cells #[Value.int IntKind.i64 101] 25)).cell? ⟨w.heap.size, 0, none⟩ = some (.pointer none) := by
    rw [cell_get (alloc_get _ (alloc_new w _))]; rfl
  have hb2 : ((w.alloc (Obj.cells #[Value.pointer none] 24)).alloc (Obj.cells #[Value.int IntKind.i64 101] 25)).cell? ⟨w.heap.size + 1, 0, none⟩ = some (.int .i64 101) := by
    have := alloc_new (w.alloc (Obj.cells #[Value.pointer none] 24)) (Obj.cells #[Value.int IntKind.i64 101] 25)
    rw [alloc_size] at this
    rw [cell_get this]; rfl
  by_cases hl0 : l < 1
  · gi_wp2
    exact post9 rfl rfl rfl hb1 hb2 ⟨_, rfl, hbad _ (fun h => by have := h.1.1; omega) hm2⟩
  obtain ⟨ad, rfl, hcell0, hadb⟩ := u64s_wf hin (k := 0) (by omega)
  rw [add_zero] at hcell0
  obtain ⟨h00, h01⟩ := h64 0
  by_cases hbig : 32 < wAt ws 0
  · gi_wp2
    · exact post9 rfl rfl rfl hb1 hb2 ⟨_, rfl, hbad _ (fun h => by have := h.1.2.1; omega) hm2⟩
    all_goals exact absurd hbig (by assumption)
  obtain ⟨n, hn⟩ := nat_of h00
  have hdn : dN ws = n := by unfold dN; omega
  rw [hn] at hcell0
  have hn32 : n ≤ 32 := by omega
  by_cases hlen : l = 1 + 4 * n + 48
  · have hcell0a : ((w.alloc (Obj.cells #[Value.pointer none] 24)).alloc (Obj.cells #[Value.int IntKind.i64 0] 25)).cell? ad = some (.int .u64 (n : Int)) := by
      rw [Den.Mod.cell (((Den.Mod.refl [] w).alloc _).alloc _) hadb]; exact hcell0
    have hcell0b : (((w.alloc (Obj.cells #[Value.pointer none] 24)).alloc (Obj.cells #[Value.int IntKind.i64 0] 25)).alloc (Obj.cells #[Value.slice none 0 0] 68)).cell? ad = some (.int .u64 (n : Int)) := by
      rw [Den.Mod.cell ((((Den.Mod.refl [] w).alloc _).alloc _).alloc _) hadb]; exact hcell0
    gi_wp2_with (refine ⟨trivial, ?_⟩; gi_at_call 35; refine (chunk_call _ _ _ _).mono ?_; rintro e w' ⟨rfl, rfl⟩)
    refine cap_tmps fun T hT => ?_
    rename_i Q1 g1 g2 g3 g4 K1 a1
    obtain ⟨W1, e1⟩ : ∃ W1, W1 = w.alloc (.cells #[.pointer none] 24) := ⟨_, rfl⟩
    obtain ⟨W2, e2⟩ : ∃ W2, W2 = W1.alloc (.cells #[.int .i64 0] 25) := ⟨_, rfl⟩
    obtain ⟨W3, e3⟩ : ∃ W3, W3 = W2.alloc (.cells #[.slice none 0 0] 68) := ⟨_, rfl⟩
    obtain ⟨W4, e4⟩ : ∃ W4, W4 = W3.alloc (.cells #[.slice (some (ad.add 1)) (4 * n) (c - 1)] 22) := ⟨_, rfl⟩
    obtain ⟨W5, e5⟩ : ∃ W5, W5 = W4.alloc (.cells #[.int .i64 4] 3) := ⟨_, rfl⟩
    have z1 : W1.heap.size = w.heap.size + 1 := by rw [e1, alloc_size]
    have z2 : W2.heap.size = w.heap.size + 1 + 1 := by rw [e2, alloc_size, z1]
    have z3 : W3.heap.size = w.heap.size + 1 + 1 + 1 := by rw [e3, alloc_size, z2]
    have z4 : W4.heap.size = w.heap.size + 1 + 1 + 1 + 1 := by rw [e4, alloc_size, z3]
    have h1 : W5.heap[w.heap.size]? = some (.cells #[.pointer none] 24 (0, 0)) := by
      rw [e5]; refine alloc_get _ ?_; rw [e4]; refine alloc_get _ ?_; rw [e3]; refine alloc_get _ ?_; rw [e2]; refine alloc_get _ ?_; rw [e1]; exact alloc_new _ _
    have h2 : W5.heap[w.heap.size + 1]? = some (.cells #[.int .i64 0] 25 (0, 0)) := by
      rw [e5]; refine alloc_get _ ?_; rw [e4]; refine alloc_get _ ?_; rw [e3]; refine alloc_get _ ?_; rw [e2, ← z1]; exact alloc_new _ _
    have h3 : W5.heap[w.heap.size + 1 + 1]? = some (.cells #[.slice none 0 0] 68 (0, 0)) := by
      rw [e5]; refine alloc_get _ ?_; rw [e4]; refine alloc_get _ ?_; rw [e3, ← z2]; exact alloc_new _ _
    have h4 : W5.heap[w.heap.size + 1 + 1 + 1]? = some (.cells #[.slice (some (ad.add 1)) (4 * n) (c - 1)] 22 (0, 0)) := by
      rw [e5]; refine alloc_get _ ?_; rw [e4, ← z3]; exact alloc_new _ _
    have h5 : W5.heap[w.heap.size + 1 + 1 + 1 + 1]? = some (.cells #[.int .i64 4] 3 (0, 0)) := by
      rw [e5, ← z4]; exact alloc_new _ _
    have hm5 : Den.Mod [] w W5 := by rw [e5, e4, e3, e2, e1]; exact ((((((Den.Mod.refl [] w).alloc _).alloc _).alloc _).alloc _).alloc _)
    have s : Den.Sep w W5 [filPart [] (fun _ => fx0) (fun _ => 0), sl none 0 0 1 [] [], blk (w.heap.size + 1 + 1) (slV none 0 0), blk w.heap.size nilV1, blk (w.heap.size + 1) (int1 0), blk (w.heap.size + 1 + 1 + 1) (.cells #[.slice (some (ad.add 1)) (4 * n) (c - 1)] 22 (0, 0)), blk (w.heap.size + 1 + 1 + 1 + 1) (.cells #[.int .i64 4] 3 (0, 0))] := by
      refine Den.Sep.of_prts hm5 (Den.Prts.cons (Den.Prts.cons (Den.Prts.cons (Den.Prts.cons (Den.Prts.cons (Den.Prts.cons (Den.Prts.cons (Den.Prts.nil W5) h5 ?_) h4 ?_) h2 ?_) h1 ?_) h3 ?_) (SlB.nil W5 1) ?_) ⟨by simp, fun i u hi => by simp at hi⟩ ?_) ?_
      all_goals (intro x hx; simp [PF, blk, sl, filPart, Beyond] at hx ⊢)
      all_goals omega
    show rf9.wpIn Fence.wide 5 Try.prog (Exit.inBlock 0 (Exit.then K1 _)) { tmps := T, defers := [] } (((((w.alloc (.cells #[.pointer none] 24)).alloc (.cells #[.int .i64 0] 25)).alloc (.cells #[.slice none 0 0] 68)).alloc (.cells #[.slice (some (ad.add 1)) (4 * n) (c - 1)] 22)).alloc (.cells #[.int .i64 4] 3))
    rw [← e1, ← e2, ← e3, ← e4, ← e5]
    refine rf_run hin hlc h64 ⟨by omega, by omega, by omega⟩ hdn hbad hok s (by rw [hT]; rfl) (by rw [hT]; rfl) (by rw [hT]; rfl) (fun x => ⟨fun i => ((T.setIfInBounds 39 (.slice (some ((ad.add 1).add (4 * x))) 4 4)).setIfInBounds 5 (.slice (some ((ad.add 1).add (4 * x))) 4 4)).getD i undef, by rw [hT]; rfl⟩) ⟨fun i => T.getD i undef, fun D => by rw [hT, hlen]; rfl⟩ (fun lb x W K' hK' => ?_) a1
    rw [asg9]
    subst hT
    gi_wp2
    exact hK'
  · have hne : ((l : Int) != 1 + 4 * (n : Int) + 48) = true := by simp; omega
    gi_wp2
    exact post9 rfl rfl rfl hb1 hb2 ⟨_, rfl, hbad _ (fun h => by have := h.1.2.2; omega) hm2⟩

end Go.Proofs
