/-
  'den': the weakest precondition in its normal form; what each operation that acts asks.
-/
import Derived.Test.YtkcnchnlhdhcbaaDen3
import Derived.Deep.LoopGhost
namespace Go.Den
open Go

/-- A call that returns. -/
def CallsR (P : Program) (f : FuncId) (args : Array Value) (w : World) (K : Value → World → Prop) : Prop :=
  Calls P f args w fun e w' => ∃ v, e = .returned v ∧ K v w'

theorem CallsR.mono {P : Program} {f : FuncId} {args : Array Value} {w : World} {K K' : Value → World → Prop} (h : CallsR P f args w K) (hk : ∀ v w', K v w' → K' v w') : CallsR P f args w K' :=
  Calls.mono h fun _ _ ⟨v, he, hK⟩ => ⟨v, he, hk v _ hK⟩

def _root_.Go.World.upd (w : World) (b : Nat) (o : Obj) : World := { w with heap := w.heap.setIfInBounds b o }

def splice (cs : Array Value) (off : Nat) : List Value → Array Value
  | [] => cs
  | v :: vs => splice (cs.setIfInBounds off v) (off + 1) vs

def stK (ad : Addr) (vs : List Value) (w : World) (K : World → Prop) : Prop :=
  ∃ (cs : Array Value) (T : TypeId) (fr : Nat × Nat), w.heap[ad.block]? = some (.cells cs T fr) ∧ ad.spot = none ∧ ad.off + vs.length ≤ cs.size ∧ (fr.2 ≤ ad.off ∨ ad.off + vs.length ≤ fr.1) ∧
    K (w.upd ad.block (.cells (splice cs ad.off vs) T fr))

def isCell : Value → Bool
  | .agg _ | .tuple _ => false
  | _ => true

def zc (P : Program) (t : TypeId) : Array Value := match (P.info? t).bind (·.zero) with
  | some z => z.cells
  | none => #[]

def hasZero (P : Program) (t : TypeId) : Bool := ((P.info? t).bind (·.zero)).isSome

def sliceV (P : Program) (e : TypeId) (len : Nat) (parts : List (Nat × Value)) : Option (Array Value) :=
  if P.cellsOf e = 0 then none else if !hasZero P e then none else if len * P.cellsOf e > 2 ^ 24 then none else if len * P.cellsOf e = 0 then (if parts.isEmpty then some #[] else none) else
  Instr.fill (fun i => some (i * P.cellsOf e, P.cellsOf e)) ((List.range (len * P.cellsOf e)).map fun i => (zc P e).toList.getD (i % (zc P e).toList.length) default).toArray parts

def resTys (P : Program) (f : FuncId) : List Ty1 := match P.funcs[f]? with
  | some fn => fn.resultTypes.toList.map (ty P)
  | none => []

def callable (P : Program) (f : FuncId) : Bool := match P.funcs[f]? with
  | some fn => !(fn.name == "runtime.NumGoroutine") && !fn.body.isNone
  | none => false

def bltn : Builtin → Option ((Array TypeId → TypeId → Array Value → Sem Value) × List Ty1)
  | .append => some (Builtin.append_, [.one .slice])
  | .copy => some (Builtin.copy_, [.one (.int .i64)])
  | .delete => some (Builtin.delete_, [])
  | .clear => some (Builtin.clear_, [])
  | .len => some (Builtin.len_, [.one (.int .i64)])
  | _ => none

/-- Does the operation only read? -/
def qk (P : Program) (o : Oper) : Bool := match o.op with
  | .move _ | .assign _ | .pick _ _ _ | .load _ _ | .nilCheck _ | .fieldAddr _ _ _ | .indexAddr _ _ _ | .index _ _ _ | .field _ _ _ | .binOp _ _ _ _ _ | .unOp _ _ _ | .slice _ _ _ _ _ | .extract _ _
  | .makeFunc _ _ _ | .build _ _ | .lookup _ _ _ _ => true
  | .convert src dst _ => (match P.underlying src, P.underlying dst with
    | some _, some (.int _) => true
    | some .string, some .string => true
    | _, _ => false)
  | .call { callee := .builtin b, argTypes, .. } => (match b with
    | .min | .max | .cap => true
    | .len => (match argTypes.toList with
      | [t] => (match P.underlying t with | some (.map _ _) => false | _ => true)
      | _ => false)
    | _ => false)
  | _ => false

def opM (P : Program) (ctl : List Nat) (o : Oper) (a : Act) (w : World) (next : Act → World → Prop) : Prop :=
  match o.op with
  | .store t x v => (match a.eval x with
    | .pointer (some ad) => (if P.cellsOf t = 0 then False else if P.cellsOf t ≤ 24 then (if (a.eval v).cells.toList.length = P.cellsOf t ∧ (a.eval v).cells.toList.all isCell = true then stK ad (a.eval v).cells.toList w fun w' => next (a.put o.dst undef) w' else False)
      else ((a.eval v).cells.size = P.cellsOf t ∧ (∀ c ∈ (a.eval v).cells.toList, isCell c = true)) ∧ stK ad (a.eval v).cells.toList w fun w' => next (a.put o.dst undef) w')
    | _ => False)
  | .alloc e => if hasZero P e then finQ ctl o.dst a (fun a' => next a' (w.alloc (.cells (zc P e) e))) (.pointer (some ⟨w.heap.size, 0, none⟩)) else False
  | .box e x => finQ ctl o.dst a (fun a' => next a' (w.alloc (.cells (a.eval x).cells e))) (.pointer (some ⟨w.heap.size, 0, none⟩))
  | .buildSlice t len parts => (match P.underlying t with
    | some (.slice e) => (match sliceV P e len (parts.toList.map fun p => (p.1, a.eval p.2)) with
      | some cells => finQ ctl o.dst a (fun a' => next a' (w.alloc (.cells cells e))) (.slice (some ⟨w.heap.size, 0, none⟩) len len)
      | none => False)
    | _ => False)
  | .makeSlice t l c => runK ((Instr.makeSlice t (a.eval l) (a.eval c)).run P w) fun v w' => exS .slice fun v' => v = v' ∧ finQ ctl o.dst a (fun a' => next a' w') v'
  | .makeMap _ none => finQ ctl o.dst a (fun a' => next a' (w.alloc (.map #[] 0))) (.map (some w.heap.size))
  | .mapUpdate t m k x | .insert t m k x => runK ((Instr.mapUpdate t (a.eval m) (a.eval k) (a.eval x)).run P w) fun _ w' => next (a.put o.dst undef) w'
  | .convert src dst x => runK ((convert src dst (a.eval x)).run P w) fun v w' => exT (ty P dst) fun v' => v = v' ∧ finQ ctl o.dst a (fun a' => next a' w') v'
  | .call { callee := .value f, args, .. } => (match a.eval f with
    | .func (.func g) fi ca => if callable P g then CallsR P g (fi.toList ++ args.toList.map a.eval ++ ca.toList).toArray w fun v w' => exR (resTys P g) fun v' => v = v' ∧ finQ ctl o.dst a (fun a' => next a' w') v' else False
    | _ => False)
  | .call { callee := .builtin b, args, argTypes } => (match bltn b with
    | some (f, tys) => runK ((f argTypes o.type (args.toList.map a.eval).toArray).run P w) fun v w' => exR tys fun v' => v = v' ∧ finQ ctl o.dst a (fun a' => next a' w') v'
    | none => False)
  | _ => False

def opD (P : Program) (ctl : List Nat) (o : Oper) (a : Act) (w : World) (next : Act → World → Prop) : Prop :=
  match qk P o with
  | true => opQ P ctl o a w none fun a' => next a' w
  | false => opM P ctl o a w next

def denList (P : Program) (ctl : List Nat) (ops : Array Oper) (Q : Act → World → Prop) : List Oper → Act → World → Prop
  | [], a, w => Q a w
  | o :: rest, a, w => match Region.wanted o (yielded ops a.tmps) with
    | true => opD P ctl o a w (denList P ctl ops Q rest)
    | false => denList P ctl ops Q rest (a.put o.dst undef) w

def denStill (P : Program) (ctl : List Nat) (ops : Array Oper) (w : World) (Q : Act → Prop) : List Oper → Act → Prop
  | [], a => Q a
  | o :: rest, a => match Region.wanted o (yielded ops a.tmps) with
    | true => opQ P ctl o a w none (denStill P ctl ops w Q rest)
    | false => denStill P ctl ops w Q rest (a.put o.dst undef)

def keepB (B : List Nat) (w0 w' : World) : Prop := ∀ b ∈ B, w'.heap[b]? = w0.heap[b]?

/-- Does what it yields hang on the world? -/
def wq (o : Oper) : Bool := match o.op with
  | .load _ _ => true
  | _ => false

def lateK (late : List Nat) (i : Nat) (B : List Nat) (w0 w' : World) (X : Prop) : Prop := match late.contains i with
  | true => X
  | false => keepB B w0 w' ∧ X

def denHeld (P : Program) (ctl : List Nat) (ops : Array Oper) (B : List Nat) (late : List Nat) (w0 : World) (Q : Act → World → Prop) : List Nat → Act → World → Prop
  | [], a, w => Q a w
  | i :: rest, a, w => match ops.toList[i]? with
    | none => False
    | some o => match Region.wanted o (yielded ops a.tmps) with
      | false => denHeld P ctl ops B late w0 Q rest (a.put o.dst undef) w
      | true => match qk P o with
        | true => opQ P ctl o a w (some (match wq o with | true => B | false => [])) fun a' => denHeld P ctl ops B late w0 Q rest a' w
        | false => opM P ctl o a w fun a' w' => lateK late i B w0 w' (denHeld P ctl ops B late w0 Q rest a' w')

/-- In which orders a region's operations are walked: at a fork two of them may come next. -/
inductive Sched where
  | nil | op (i : Nat) (r : Sched) | fork (i : Nat) (x : Sched) (j : Nat) (y : Sched)

/-- One operation of a region that is walked by a 'Sched'. -/
def actT (P : Program) (ctl : List Nat) (ops : Array Oper) (B : List Nat) (late : List Nat) (w0 : World) (i : Nat) (a : Act) (w : World) (next : Act → World → Prop) : Prop :=
  match ops.toList[i]? with
  | none => False
  | some o => match Region.wanted o (yielded ops a.tmps) with
    | false => next (a.put o.dst undef) w
    | true => match qk P o with
      | true => opQ P ctl o a w (some (match wq o with | true => B | false => [])) fun a' => next a' w
      | false => opM P ctl o a w fun a' w' => lateK late i B w0 w' (next a' w')

def denTree (P : Program) (ctl : List Nat) (ops : Array Oper) (B : List Nat) (late : List Nat) (w0 : World) (Q : Act → World → Prop) : Sched → Act → World → Prop
  | .nil, a, w => Q a w
  | .op i r, a, w => actT P ctl ops B late w0 i a w (denTree P ctl ops B late w0 Q r)
  | .fork i x j y, a, w => actT P ctl ops B late w0 i a w (denTree P ctl ops B late w0 Q x) ∧ actT P ctl ops B late w0 j a w (denTree P ctl ops B late w0 Q y)

/-- How a region is walked. -/
inductive RK where
  | seq | still | tail (n : Nat) | held (sched late : List Nat) | tree (sched : Sched) (late : List Nat)

def denReg (P : Program) (ctl : List Nat) (k : RK) (ops : Array Oper) (draw : Bool) (Q : Act → World → Prop) (a : Act) (w : World) : Prop :=
  match k, draw with
  | .seq, false => denList P ctl ops Q ops.toList a w
  | .still, true => denStill P ctl ops w.drew (fun a' => Q a' w.drew) ops.toList a
  | .tail n, true => denStill P ctl ops w.drew (fun a' => denList P ctl ops Q (ops.toList.drop n) a' w.drew) (ops.toList.take n) a
  | .held s late, true => ∃ B : List Nat, denHeld P ctl ops B late w.drew Q s a w.drew
  | .tree s late, true => ∃ B : List Nat, denTree P ctl ops B late w.drew Q s a w.drew
  | _, _ => False

/-! ### Typed relations of loops and joins -/

def IT : List Sh → Type
  | [] => World → Prop
  | .int _ :: ss => Int → IT ss
  | .bool :: ss => Bool → IT ss
  | .str :: ss => ByteArray → IT ss
  | .ptr :: ss => Option Addr → IT ss
  | .slice :: ss => Option Addr → Nat → Nat → IT ss
  | .map :: ss => Option Nat → IT ss
  | .any :: ss => Value → IT ss

def appI : (ss : List Sh) → IT ss → List Value → World → Prop
  | [], J, vs, w => (match vs with | [] => J w | _ => False)
  | .int k :: ss, J, vs, w => (match vs with | .int k' n :: vs => if k' = k then appI ss (J n) vs w else False | _ => False)
  | .bool :: ss, J, vs, w => (match vs with | .bool b :: vs => appI ss (J b) vs w | _ => False)
  | .str :: ss, J, vs, w => (match vs with | .string s :: vs => appI ss (J s) vs w | _ => False)
  | .ptr :: ss, J, vs, w => (match vs with | .pointer p :: vs => appI ss (J p) vs w | _ => False)
  | .slice :: ss, J, vs, w => (match vs with | .slice p l c :: vs => appI ss (J p l c) vs w | _ => False)
  | .map :: ss, J, vs, w => (match vs with | .map r :: vs => appI ss (J r) vs w | _ => False)
  | .any :: ss, J, vs, w => (match vs with | v :: vs => appI ss (J v) vs w | _ => False)

def allI : (ss : List Sh) → IT ss → ((World → Prop) → List Value → Prop) → Prop
  | [], J, K => K J []
  | .int k :: ss, J, K => ∀ n : Int, allI ss (J n) fun J' vs => K J' (.int k n :: vs)
  | .bool :: ss, J, K => ∀ b : Bool, allI ss (J b) fun J' vs => K J' (.bool b :: vs)
  | .str :: ss, J, K => ∀ s : ByteArray, allI ss (J s) fun J' vs => K J' (.string s :: vs)
  | .ptr :: ss, J, K => ∀ p : Option Addr, allI ss (J p) fun J' vs => K J' (.pointer p :: vs)
  | .slice :: ss, J, K => ∀ (p : Option Addr) (l c : Nat), allI ss (J p l c) fun J' vs => K J' (.slice p l c :: vs)
  | .map :: ss, J, K => ∀ r : Option Nat, allI ss (J r) fun J' vs => K J' (.map r :: vs)
  | .any :: ss, J, K => ∀ v : Value, allI ss (J v) fun J' vs => K J' (v :: vs)

theorem allI_of : ∀ (ss : List Sh) (J : IT ss) (K : (World → Prop) → List Value → Prop) (vs : List Value) (w : World), appI ss J vs w → allI ss J K → ∃ J' : World → Prop, J' w ∧ K J' vs
  | [], J, K, vs, w, h, hK => by
    simp only [appI] at h
    split at h
    · exact ⟨J, h, hK⟩
    · exact h.elim
  | .int k :: ss, J, K, vs, w, h, hK => by
    simp only [appI] at h
    split at h
    · rename_i k' n vs
      split at h
      · rename_i hk
        subst hk
        exact allI_of ss (J n) _ vs w h (hK n)
      · exact h.elim
    · exact h.elim
  | .bool :: ss, J, K, vs, w, h, hK => by
    simp only [appI] at h
    split at h
    · rename_i b vs
      exact allI_of ss (J b) (fun J' vs => K J' (.bool b :: vs)) vs w h (hK b)
    · exact h.elim
  | .str :: ss, J, K, vs, w, h, hK => by
    simp only [appI] at h
    split at h
    · rename_i s vs
      exact allI_of ss (J s) (fun J' vs => K J' (.string s :: vs)) vs w h (hK s)
    · exact h.elim
  | .ptr :: ss, J, K, vs, w, h, hK => by
    simp only [appI] at h
    split at h
    · rename_i p vs
      exact allI_of ss (J p) (fun J' vs => K J' (.pointer p :: vs)) vs w h (hK p)
    · exact h.elim
  | .slice :: ss, J, K, vs, w, h, hK => by
    simp only [appI] at h
    split at h
    · rename_i p l c vs
      exact allI_of ss (J p l c) (fun J' vs => K J' (.slice p l c :: vs)) vs w h (hK p l c)
    · exact h.elim
  | .map :: ss, J, K, vs, w, h, hK => by
    simp only [appI] at h
    split at h
    · rename_i r vs
      exact allI_of ss (J r) (fun J' vs => K J' (.map r :: vs)) vs w h (hK r)
    · exact h.elim
  | .any :: ss, J, K, vs, w, h, hK => by
    simp only [appI] at h
    split at h
    · rename_i v vs
      exact allI_of ss (J v) (fun J' vs => K J' (v :: vs)) vs w h (hK v)
    · exact h.elim

/-- The slots that a loop or a branch writes: those that are read behind it bear a shape. -/
abbrev Ms := List (Nat × Option Sh)

def Ms.shs (ms : Ms) : List Sh := ms.filterMap (·.2)
def Ms.vals : Ms → Act → List Value
  | [], _ => []
  | (t, some _) :: ms, a => a.tmps.getD t undef :: Ms.vals ms a
  | (_, none) :: ms, a => Ms.vals ms a

def Ms.set : Ms → List Value → (Nat → Value) → Act → Act
  | [], _, _, a => a
  | (t, some _) :: ms, vs, junk, a => Ms.set ms vs.tail junk { a with tmps := a.tmps.setIfInBounds t (vs.headD undef) }
  | (t, none) :: ms, vs, junk, a => Ms.set ms vs junk { a with tmps := a.tmps.setIfInBounds t (junk t) }

inductive Plan where
  | leaf
  | reg (k : RK)
  | seq (p q : Plan)
  | join (ms : Ms) (p q : Plan)
  | cond (p q : Plan)
  | block (p : Plan)
  | loop (ms : Ms) (p : Plan)

def den (P : Program) (ctl : List Nat) (c : Code) : Plan → (Exit → Act → World → Prop) → Act → World → Prop :=
  Code.rec (motive := fun _ => Plan → (Exit → Act → World → Prop) → Act → World → Prop)
    (fun _ Q a w => Q .normal a w)
    (fun _ ops draw p Q a w => match p with | .reg k => denReg P ctl k ops draw (Q .normal) a w | _ => False)
    (fun _ _ dx dy p Q a w => match p with
      | .seq p q => dx p (Exit.then (dy q Q) Q) a w
      | .join ms p q => ∃ J : IT ms.shs, allI ms.shs J (fun J' vs => ∀ (junk : Nat → Value) (w' : World), J' w' → dy q Q (ms.set vs junk a) w') ∧ dx p (Exit.then (fun a' w' => appI ms.shs J (ms.vals a') w') Q) a w
      | _ => False)
    (fun c _ _ dx dy p Q a w => match p with
      | .cond p q => (match a.eval c with
        | .bool true => dx p Q a w
        | .bool false => dy q Q a w
        | _ => False)
      | _ => False)
    (fun id _ dx p Q a w => match p with | .block p => dx p (Exit.inBlock id Q) a w | _ => False)
    (fun _ dx p Q a w => match p with
      | .loop ms p => ∃ I : Nat → IT ms.shs, (∃ n, appI ms.shs (I n) (ms.vals a) w) ∧ ∀ n, allI ms.shs (I n) fun I' vs => ∀ (junk : Nat → Value) (w' : World), I' w' →
          dx p (Exit.then (fun a'' w'' => ∃ m, m < n ∧ appI ms.shs (I m) (ms.vals a'') w'') Q) (ms.set vs junk a) w'
      | _ => False)
    (fun _ _ _ _ _ _ _ _ _ _ => False)
    (fun id _ Q a w => Q (.exit id) a w)
    (fun _ _ _ _ _ _ => False)
    (fun _ _ _ _ _ => False)
    (fun _ _ _ _ _ => False)
    (fun _ Q a w => Q .ret a w)
    (fun _ _ _ _ _ => False)
    c

/-- What is asked where the function's body ends. -/
def retK (P : Program) (a : Act) (w : World) : List ResultVar → (List Value → Prop) → Prop
  | [], K => K []
  | .tmp t :: l, K => retK P a w l fun vs => K (a.tmps.getD t undef :: vs)
  | .cell b t :: l, K => (match a.tmps.getD b undef with
    | .pointer (some ad) => ldT P t ad w fun v => retK P a w l fun vs => K (v :: vs)
    | _ => False)

def retT (K : Value → World → Prop) (w : World) : List Value → Prop
  | [] => K (.tuple #[]) w
  | [v] => K v w
  | vs => K (.tuple vs.toArray) w

def endD (P : Program) (fn : Func) (K : Value → World → Prop) : Exit → Act → World → Prop
  | .normal, a, w | .ret, a, w => retK P a w fn.results.toList (retT K w)
  | _, _, _ => False

def frame (args : List Value) (n : Nat) : Act := { tmps := (args ++ List.replicate (n - args.length) undef).toArray, defers := [] }

end Go.Den
