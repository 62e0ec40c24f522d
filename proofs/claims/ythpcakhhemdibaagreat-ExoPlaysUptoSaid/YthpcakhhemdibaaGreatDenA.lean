/-
  An own engine, no program in sight: 'den', a syntactic weakest precondition over the model's Code, in a normal form over typed values; it is sound for 'Calls'.
  The operations that only read: what 'opQ' says holds of the model's own run.
  The operations that only read, all: 'opQ' is sound.
  'den': the weakest precondition in its normal form; what each operation that acts asks.
  'den' is sound: the operations that act, the regions, the code, a call.
-/
import Derived.Tactics
import Derived.StillTail
import Derived.OrdersHeld
import Derived.Laws.World
import Derived.KernelRfl
import Derived.LaidEql
import Derived.Laws.Cells
import Derived.Laws.Concat
import Derived.Deep.LoopGhost
set_option linter.unusedVariables false
namespace Go.Den
open Go

/-! ### Shapes -/

inductive Sh where
  | int (k : IntKind) | bool | str | ptr | slice | map | any

inductive Ty1 where
  | one (s : Sh) | agg (l : List Sh) | big

def exS : Sh → (Value → Prop) → Prop
  | .int k, K => ∃ n : Int, K (.int k n)
  | .bool, K => ∃ b : Bool, K (.bool b)
  | .str, K => ∃ s : ByteArray, K (.string s)
  | .ptr, K => ∃ p : Option Addr, K (.pointer p)
  | .slice, K => ∃ (a : Option Addr) (l c : Nat), K (.slice a l c)
  | .map, K => ∃ r : Option Nat, K (.map r)
  | .any, K => ∃ v : Value, K v

def exL : List Sh → (List Value → Prop) → Prop
  | [], K => K []
  | s :: ss, K => exS s fun v => exL ss fun vs => K (v :: vs)

def exT : Ty1 → (Value → Prop) → Prop
  | .one s, K => exS s K
  | .agg l, K => exL l fun vs => K (.agg vs.toArray)
  | .big, K => ∃ cs : Array Value, K (.agg cs)

def exTs : List Ty1 → (List Value → Prop) → Prop
  | [], K => K []
  | t :: ts, K => exT t fun v => exTs ts fun vs => K (v :: vs)

def exR : List Ty1 → (Value → Prop) → Prop
  | [], K => K (.tuple #[])
  | [t], K => exT t K
  | ts, K => exTs ts fun vs => K (.tuple vs.toArray)

theorem exS_of {s : Sh} {K : Value → Prop} (h : exS s K) : ∃ v, K v := by
  cases s <;> simp only [exS] at h
  case int => exact ⟨_, h.choose_spec⟩
  case bool => exact ⟨_, h.choose_spec⟩
  case str => exact ⟨_, h.choose_spec⟩
  case ptr => exact ⟨_, h.choose_spec⟩
  case slice => obtain ⟨a, l, c, h⟩ := h; exact ⟨_, h⟩
  case map => exact ⟨_, h.choose_spec⟩
  case any => exact h

theorem exL_of : ∀ {l : List Sh} {K : List Value → Prop}, exL l K → ∃ vs, vs.length = l.length ∧ K vs
  | [], _, h => ⟨[], rfl, h⟩
  | _ :: _, _, h => by
    obtain ⟨v, h⟩ := exS_of h
    obtain ⟨vs, hl, h⟩ := exL_of h
    exact ⟨v :: vs, by simp [hl], h⟩

theorem exT_of {t : Ty1} {K : Value → Prop} (h : exT t K) : ∃ v, K v := by
  cases t with
  | one s => exact exS_of h
  | agg l => obtain ⟨vs, _, h⟩ := exL_of h; exact ⟨_, h⟩
  | big => obtain ⟨cs, h⟩ := h; exact ⟨_, h⟩

theorem exTs_of : ∀ {l : List Ty1} {K : List Value → Prop}, exTs l K → ∃ vs, K vs
  | [], _, h => ⟨[], h⟩
  | _ :: _, _, h => by
    obtain ⟨v, h⟩ := exT_of h
    obtain ⟨vs, h⟩ := exTs_of h
    exact ⟨v :: vs, h⟩

theorem exR_of {l : List Ty1} {K : Value → Prop} (h : exR l K) : ∃ v, K v := by
  match l, h with
  | [], h => exact ⟨_, h⟩
  | [_], h => exact exT_of h
  | _ :: _ :: _, h => obtain ⟨vs, h⟩ := exTs_of h; exact ⟨_, h⟩

/-- The cells of a type, in order. -/
def shs (P : Program) : Nat → TypeId → List Sh
  | 0, _ => []
  | d + 1, t => match P.underlying t with
    | some (.int k) => [.int k]
    | some .bool => [.bool]
    | some .string => [.str]
    | some (.pointer _) => [.ptr]
    | some (.slice _) => [.slice]
    | some (.map _ _) => [.map]
    | some (.struct fs) => fs.toList.flatMap fun f => shs P d f.type
    | some (.array n e) => (List.replicate n (shs P d e)).flatten
    | _ => [.any]

def isAgg (P : Program) (t : TypeId) : Bool := match P.underlying t with
  | some (.struct _) | some (.array _ _) => true
  | _ => false

def ty (P : Program) (t : TypeId) : Ty1 :=
  if isAgg P t then (if P.cellsOf t ≤ 24 then .agg (shs P 8 t) else .big) else .one ((shs P 1 t).headD .any)

/-! ### Combinators of the normal form -/

def spl (b : Bool) (X Y : Prop) : Prop := (b = true → X) ∧ (b = false → Y)

def nilK (p : Option Addr) (K : Addr → Prop) : Prop := match p with
  | some a => K a
  | none => False

/-- What a test for nil lets by. -/
def nilV (v : Value) (K : Value → Prop) : Prop := match v with
  | .pointer p => nilK p fun ad => K (.pointer (some ad))
  | .func (.func f) fi ca => K (.func (.func f) fi ca)
  | .iface u x => K (.iface u x)
  | _ => False

def mulc (n k : Nat) : Nat := if k = 1 then n else n * k

def runK {α : Type} (r : Result α) (K : α → World → Prop) : Prop := ∃ v w', r = .ok v w' ∧ K v w'
def runQ {α : Type} (r : Result α) (w : World) (K : α → Prop) : Prop := ∃ v, r = .ok v w ∧ K v

def inB (B : Option (List Nat)) (b : Nat) (X : Prop) : Prop := match B with
  | none => X
  | some bs => b ∈ bs ∧ X

def cellsAre (w : World) (a : Addr) : Nat → List Value → Prop
  | _, [] => True
  | i, [v] => w.cell? (a.add i) = some v
  | i, v :: vs => w.cell? (a.add i) = some v ∧ cellsAre w a (i + 1) vs

def rowIs (w : World) (a : Addr) (n : Nat) (cs : Array Value) : Prop := cs.size = n ∧ ∀ i < n, w.cell? (a.add i) = cs[i]?

def ldT (P : Program) (t : TypeId) (a : Addr) (w : World) (K : Value → Prop) : Prop :=
  match ty P t with
  | .one s => if (P.underlying t).isSome then exS s fun v => w.cell? a = some v ∧ K v else False
  | .agg l => if l.length = P.cellsOf t then exL l fun vs => cellsAre w a 0 vs ∧ K (.agg vs.toArray) else False
  | .big => ∃ cs, rowIs w a (P.cellsOf t) cs ∧ K (.agg cs)

/-- A slice expression's three bounds. -/
def sM (x : Option Int) (y : Nat) : Nat := match x with
  | none => y
  | some n => n.toNat

def sOK (x : Option Int) (y : Nat) : Prop := match x with
  | none => True
  | some n => 0 ≤ n ∧ n ≤ (y : Int)

def slA (base : Option Addr) (m l size : Nat) : Option Addr := if m = l then base else base.map (·.add (l * size))

def slK (base : Option Addr) (len cap size : Nat) (lo hi mx : Option Int) (K : Option Addr → Nat → Nat → Prop) : Prop :=
  sOK mx cap ∧ (hi.isNone = true → mx.isNone = true) ∧ sOK hi (sM mx cap) ∧ sOK lo (sM hi len) ∧
  K (slA base (sM mx cap) (sM lo 0) size) (sM hi len - sM lo 0) (sM mx cap - sM lo 0)

def strK (s : ByteArray) (lo hi : Option Int) (K : ByteArray → Prop) : Prop :=
  sOK hi s.size ∧ sOK lo (sM hi s.size) ∧ K (s.extract (sM lo 0) (sM hi s.size))

def fieldOff (P : Program) (s : TypeId) (f : Nat) : Option Nat := match P.underlying s with
  | some (.struct fs) => match fs[f]? with
    | some f => if P.cellsOf f.type = 0 then none else some f.offset
    | none => none
  | _ => none

def ibits (op : BinOp) (k : IntKind) (a b : Int) : Int :=
  match op with
  | .and => k.wrap ((BitVec.ofInt k.bits a &&& BitVec.ofInt k.bits b).toNat)
  | .or => k.wrap ((BitVec.ofInt k.bits a ||| BitVec.ofInt k.bits b).toNat)
  | .xor => k.wrap ((BitVec.ofInt k.bits a ^^^ BitVec.ofInt k.bits b).toNat)
  | _ => k.wrap ((BitVec.ofInt k.bits a &&& ~~~ (BitVec.ofInt k.bits b)).toNat)

def cellEq : Value → Value → Bool
  | .int _ a, .int _ b => a == b
  | .bool a, .bool b => a == b
  | .string a, .string b => a == b
  | _, _ => false

def cellsEq : List Value → List Value → Bool
  | [], _ => true
  | [x], ys => cellEq x (ys.headD undef)
  | x :: xs, ys => cellEq x (ys.headD undef) && cellsEq xs ys.tail

/-- '==' of two structs or arrays. -/
def eqAgg (P : Program) (t : TypeId) (xs ys : Array Value) (K : Bool → Prop) : Prop :=
  ∃ b, (∀ w' : World, (Op.equal t (.agg xs) (.agg ys)).run P w' = .ok b w') ∧ K b

/-- Two pointers may be compared: in one block, or both blocks are plain rows. -/
def peqOK (p q : Option Addr) (w : World) : Prop := match p, q with
  | some a, some b => a.block = b.block ∨ ((∃ cs T, w.heap[a.block]? = some (.cells cs T (0, 0))) ∧ ∃ cs T, w.heap[b.block]? = some (.cells cs T (0, 0)))
  | _, _ => True

def isCtl (ctl : List Nat) (dst : Option Tmp) : Bool := match dst with
  | some d => ctl.contains d
  | none => false

def splitV (v : Value) (K : Value → Prop) : Prop := match v with
  | .bool b => spl b (K (.bool true)) (K (.bool false))
  | _ => False

def finQ (ctl : List Nat) (dst : Option Tmp) (a : Act) (next : Act → Prop) (v : Value) : Prop :=
  match isCtl ctl dst with
  | true => splitV v fun v => next (a.put dst v)
  | false => next (a.put dst v)

theorem finQ_of {ctl : List Nat} {dst : Option Tmp} {a : Act} {next : Act → Prop} {v : Value} (h : finQ ctl dst a next v) : next (a.put dst v) := by
  unfold finQ at h
  split at h
  · unfold splitV at h
    split at h
    · rename_i b
      cases b
      · exact h.2 rfl
      · exact h.1 rfl
    · exact h.elim
  · exact h

/-! ### Operations that only read -/

def isNilC : Operand → Bool
  | .const (.pointer none) | .const (.slice none _ _) | .const (.map none) | .const .nilFunc => true
  | _ => false

/-- A struct or an array whose cells are numbers, bools and strings, one behind the other, no field blank. -/
def eqPlain (P : Program) : Nat → TypeId → Bool
  | 0, _ => false
  | d + 1, t => match P.underlying t with
    | some (.int _) | some .bool | some .string | some (.pointer _) => true
    | some (.struct fs) => !P.stoodInHeld t && fs.toList.all fun f => f.name != "_" && eqPlain P d f.type
    | some (.array _ e) => eqPlain P d e
    | _ => false

def binQ (op : BinOp) (vx vy : Value) (fin : Value → Prop) : Prop :=
  match vx, vy with
  | .int k a, .int k' b => match op with
    | .shl => 0 ≤ b ∧ fin (.int k (k.wrap (a * 2 ^ (min b.toNat k.bits))))
    | .shr => 0 ≤ b ∧ fin (.int k (a.fdiv (2 ^ (min b.toNat k.bits))))
    | _ => if k = k' then match op with
      | .add => fin (.int k (k.wrap (a + b)))
      | .sub => fin (.int k (k.wrap (a - b)))
      | .mul => fin (.int k (k.wrap (a * b)))
      | .quo => b ≠ 0 ∧ fin (.int k (k.wrap (a.tdiv b)))
      | .rem => b ≠ 0 ∧ fin (.int k (a.tmod b))
      | .and | .or | .xor | .andNot => fin (.int k (ibits op k a b))
      | .eql => fin (.bool (a == b))
      | .neq => fin (.bool (a != b))
      | .lss => fin (.bool (decide (a < b)))
      | .leq => fin (.bool (decide (a ≤ b)))
      | .gtr => fin (.bool (decide (a > b)))
      | .geq => fin (.bool (decide (a ≥ b)))
      | _ => False
      else False
  | .string a, .string b => match op with
    | .add => ((a.size + b.size : Nat) : Int) ≤ IntKind.i64.max ∧ fin (.string (a ++ b))
    | .eql => fin (.bool (a.toList == b.toList))
    | .neq => fin (.bool !(a.toList == b.toList))
    | _ => False
  | _, _ => False

/-- '==' of two values of a type that is no number. -/
def eqQ (P : Program) (t : TypeId) (nx ny : Bool) (vx vy : Value) (w : World) (B : Option (List Nat)) (fin : Bool → Prop) : Prop :=
  match P.underlying t with
  | some .bool => (match vx, vy with
    | .bool a, .bool b => fin (a == b)
    | _, _ => False)
  | some (.pointer e) => (match vx, vy with
    | .pointer p, .pointer q => match nx, ny with
      | _, true => fin p.isNone
      | true, _ => fin q.isNone
      | false, false => match B with
        | none => P.cellsOf e ≠ 0 ∧ peqOK p q w ∧ fin (p == q)
        | some _ => False
    | _, _ => False)
  | some (.slice _) => (match vx, vy with
    | .slice p _ _, .slice q _ _ => match nx, ny with
      | _, true => fin p.isNone
      | true, _ => fin q.isNone
      | false, false => False
    | _, _ => False)
  | some (.map _ _) => (match vx, vy with
    | .map p, .map q => match nx, ny with
      | _, true => fin p.isNone
      | true, _ => fin q.isNone
      | false, false => False
    | _, _ => False)
  | some (.func _ _ _) => (match vx, vy with
    | .func _ _ _, .nilFunc => fin false
    | .nilFunc, .nilFunc => fin true
    | _, _ => False)
  | _ => False

/-- The value of a struct literal or an array literal. -/
def buildV (P : Program) (t : TypeId) (parts : List (Nat × Value)) : Option Value :=
  match (P.info? t).bind (·.zero), P.underlying t with
  | some z, some (.struct fs) =>
    if fs.toList.all fun f => P.cellsOf f.type != 0 then
      match Instr.fill (fun i => (fs.toList[i]?).map fun f => (f.offset, P.cellsOf f.type)) z.cells parts with
      | some cells => some (.agg cells)
      | none => none
    else none
  | some z, some (.array _ e) => if P.cellsOf e = 0 then none else
    match Instr.fill (fun i => some (i * P.cellsOf e, P.cellsOf e)) z.cells parts with
    | some cells => some (.agg cells)
    | none => none
  | _, _ => none

/-- A type whose values an interface may hold. -/
def ifaceOK (P : Program) (t : TypeId) : Bool := match P.underlying t with
  | some (.interface _) => false
  | some _ => true
  | none => false

def opQ (P : Program) (ctl : List Nat) (o : Oper) (a : Act) (w : World) (B : Option (List Nat)) (next : Act → Prop) : Prop :=
  match o.op with
  | .move x | .assign x => finQ ctl o.dst a next (a.eval x)
  | .pick c x y => (match a.eval c with
    | .bool true => finQ ctl o.dst a next (a.eval x)
    | .bool false => finQ ctl o.dst a next (a.eval y)
    | _ => False)
  | .load t x => (match a.eval x with
    | .pointer (some ad) => inB B ad.block (ldT P t ad w (finQ ctl o.dst a next))
    | _ => False)
  | .nilCheck x => nilV (a.eval x) fun v => finQ ctl o.dst a next v
  | .fieldAddr s x f => (match a.eval x with
    | .pointer (some ad) => match fieldOff P s f with
      | some off => finQ ctl o.dst a next (.pointer (some (ad.add off)))
      | none => False
    | _ => False)
  | .indexAddr t x i => (match a.eval i with
    | .int _ n => match P.underlying t with
      | some (.array len elem) => (match a.eval x with
        | .pointer (some ad) => if P.cellsOf elem = 0 then False else (0 ≤ n ∧ n < (len : Int)) ∧ finQ ctl o.dst a next (.pointer (some (ad.add (mulc n.toNat (P.cellsOf elem)))))
        | _ => False)
      | some (.slice elem) => (match a.eval x with
        | .slice base len _ => if P.cellsOf elem = 0 then False else nilK base fun ad => (0 ≤ n ∧ n < (len : Int)) ∧ finQ ctl o.dst a next (.pointer (some (ad.add (mulc n.toNat (P.cellsOf elem)))))
        | _ => False)
      | _ => False
    | _ => False)
  | .index t x i => (match a.eval i with
    | .int _ n => match P.underlying t with
      | some .string => (match a.eval x with
        | .string s => ∃ b : UInt8, (0 ≤ n ∧ s[n.toNat]? = some b) ∧ finQ ctl o.dst a next (.int .u8 b.toNat)
        | _ => False)
      | some (.array len elem) => (match a.eval x with
        | .agg cs => if isAgg P elem then (if P.cellsOf elem = 0 then False else (0 ≤ n ∧ n < (len : Int)) ∧ exT (ty P elem) fun v => v = .agg ((cs.toList.drop (n.toNat * P.cellsOf elem)).take (P.cellsOf elem)).toArray ∧ finQ ctl o.dst a next v) else if (P.underlying elem).isNone then False else if P.cellsOf elem = 1 then (0 ≤ n ∧ n < (len : Int)) ∧ (exS ((shs P 1 elem).headD .any) fun v => cs[n.toNat]? = some v ∧ finQ ctl o.dst a next v) else False
        | _ => False)
      | _ => False
    | _ => False)
  | .field t x f => (match a.eval x with
    | .agg cs => match P.underlying t with
      | some (.struct fs) => match fs[f]? with
        | some f => if P.cellsOf f.type = 0 then False else if isAgg P f.type then finQ ctl o.dst a next (.agg ((cs.toList.drop f.offset).take (P.cellsOf f.type)).toArray)
          else if (P.underlying f.type).isNone then False else match cs.toList[f.offset]? with
            | some v => finQ ctl o.dst a next v
            | none => False
        | none => False
      | _ => False
    | _ => False)
  | .binOp op t x y _ => (match op with
    | .eql => match P.underlying t with
      | some (.int _) | some .string => binQ .eql (a.eval x) (a.eval y) (finQ ctl o.dst a next)
      | some (.struct _) | some (.array _ _) => (match a.eval x, a.eval y with
        | .agg xs, .agg ys => if eqPlain P 8 t && !(P.eqGuardType P.depth t) then eqAgg P t xs ys fun b => finQ ctl o.dst a next (.bool b) else False
        | _, _ => False)
      | _ => eqQ P t (isNilC x) (isNilC y) (a.eval x) (a.eval y) w B (fun b => finQ ctl o.dst a next (.bool b))
    | .neq => match P.underlying t with
      | some (.int _) | some .string => binQ .neq (a.eval x) (a.eval y) (finQ ctl o.dst a next)
      | some (.struct _) | some (.array _ _) => (match a.eval x, a.eval y with
        | .agg xs, .agg ys => if eqPlain P 8 t && !(P.eqGuardType P.depth t) then eqAgg P t xs ys fun b => finQ ctl o.dst a next (.bool !b) else False
        | _, _ => False)
      | _ => eqQ P t (isNilC x) (isNilC y) (a.eval x) (a.eval y) w B (fun b => finQ ctl o.dst a next (.bool !b))
    | op => binQ op (a.eval x) (a.eval y) (finQ ctl o.dst a next))
  | .unOp op _ x => (match op, a.eval x with
    | .not, .bool b => finQ ctl o.dst a next (.bool !b)
    | .neg, .int k n => finQ ctl o.dst a next (.int k (k.wrap (0 - n)))
    | _, _ => False)
  | .convert src dst x => (match P.underlying src, P.underlying dst with
    | some _, some (.int k) => match a.eval x with
      | .int _ n => finQ ctl o.dst a next (.int k (k.wrap n))
      | _ => False
    | some .string, some .string => match a.eval x with
      | .string s => finQ ctl o.dst a next (.string s)
      | _ => False
    | _, _ => False)
  | .slice t x lo hi mx => (match P.underlying t with
    | some (.slice elem) => (match a.eval x with
      | .slice base len cap => if P.cellsOf elem = 0 then False else slK base len cap (P.cellsOf elem) (ints a lo) (ints a hi) (ints a mx) fun b l c => finQ ctl o.dst a next (.slice b l c)
      | _ => False)
    | some (.array n elem) => (match a.eval x with
      | .pointer (some ad) => if P.cellsOf elem = 0 then False else slK (some ad) n n (P.cellsOf elem) (ints a lo) (ints a hi) (ints a mx) fun b l c => finQ ctl o.dst a next (.slice b l c)
      | _ => False)
    | some .string => (match a.eval x with
      | .string s => match mx with
        | none => strK s (ints a lo) (ints a hi) fun s => finQ ctl o.dst a next (.string s)
        | some _ => False
      | _ => False)
    | _ => False)
  | .extract x i => (match a.eval x with
    | .tuple vs => match vs.toList[i]? with
      | some v => finQ ctl o.dst a next v
      | none => False
    | _ => False)
  | .makeInterface t x => if ifaceOK P t then finQ ctl o.dst a next (.iface t (a.eval x)) else False
  | .makeFunc fn fi ca => finQ ctl o.dst a next (.func fn (fi.toList.map a.eval).toArray (ca.toList.map a.eval).toArray)
  | .build t parts => (match buildV P t (parts.toList.map fun p => (p.1, a.eval p.2)) with
    | some v => finQ ctl o.dst a next v
    | none => False)
  | .lookup t x i ok => (match B with
    | none => runQ ((Instr.lookup t (a.eval x) (a.eval i) ok).run P w) w fun v =>
        exR (match P.underlying t with | some (.map _ e) => if ok then [ty P e, .one .bool] else [ty P e] | _ => []) fun v' => v = v' ∧ finQ ctl o.dst a next v'
    | some _ => False)
  | .call { callee := .builtin b, args, argTypes } => (match b, args.toList.map a.eval, argTypes.toList with
    | .len, [.slice _ n _], [t] => (match P.underlying t with | some (.slice _) => finQ ctl o.dst a next (.int .i64 n) | _ => False)
    | .len, [.string s], [t] => (match P.underlying t with | some .string => finQ ctl o.dst a next (.int .i64 s.size) | _ => False)
    | .len, [_], [t] => (match P.underlying t with | some (.array n _) => finQ ctl o.dst a next (.int .i64 n) | _ => False)
    | .cap, [.slice _ _ n], [t] => (match P.underlying t with | some (.slice _) => finQ ctl o.dst a next (.int .i64 n) | _ => False)
    | .min, [.int k x, .int _ y], _ => finQ ctl o.dst a next (.int k (if y < x then y else x))
    | .max, [.int k x, .int _ y], _ => finQ ctl o.dst a next (.int k (if y > x then y else x))
    | _, _, _ => False)
  | _ => False
where
  ints (a : Act) : Option Operand → Option Int
    | none => none
    | some x => match a.eval x with
      | .int _ n => some n
      | _ => some (-1)

end Go.Den

set_option linter.unusedSimpArgs false
namespace Go.Den
open Go

variable {P : Program} {ctl : List Nat} {o : Oper} {a : Act} {w : World} {B : Option (List Nat)} {next : Act → Prop}

/-- In 'w', and in every world that has the blocks 'B' as 'w' has them, the operation yields 'v' and does nothing else. -/
def YV (P : Program) (o : Oper) (a : Act) (w : World) (B : Option (List Nat)) (v : Value) : Prop :=
  (execOp a.eval o).run P w = .ok (.value v) w ∧ ∀ bs, B = some bs → ∀ w' : World, (∀ b ∈ bs, w'.heap[b]? = w.heap[b]?) → (execOp a.eval o).run P w' = .ok (.value v) w'

theorem YV.always {v : Value} (h : ∀ w : World, (execOp a.eval o).run P w = .ok (.value v) w) : YV P o a w B v := ⟨h w, fun _ _ w' _ => h w'⟩
theorem YV.now {v : Value} (h : (execOp a.eval o).run P w = .ok (.value v) w) : YV P o a w none v := ⟨h, fun _ h => by cases h⟩

/-- What is to be shown of each operation. -/
def Got (P : Program) (o : Oper) (a : Act) (w : World) (B : Option (List Nat)) (next : Act → Prop) : Prop := ∃ v, YV P o a w B v ∧ next (a.put o.dst v)

theorem Got.of {v : Value} (h : finQ ctl o.dst a next v) (hy : YV P o a w B v) : Got P o a w B next := ⟨v, hy, finQ_of h⟩

theorem cellsOf_of {t : TypeId} {i : TypeInfo} (h : P.info? t = some i) : P.cellsOf t = i.size := by simp [Program.cellsOf, h]

theorem isSome_of_cells {t : TypeId} (h : P.cellsOf t ≠ 0) : ∃ i, P.info? t = some i := by
  cases hi : P.info? t with
  | some i => exact ⟨i, rfl⟩
  | none => simp [Program.cellsOf, hi] at h

theorem run_sizeOf' {t : TypeId} (h : P.cellsOf t ≠ 0) (w : World) : (sizeOf t).run P w = .ok (P.cellsOf t) w := by
  obtain ⟨i, hi⟩ := isSome_of_cells h
  simp [sizeOf, typeInfo, hi, Program.cellsOf]

theorem isAgg_true {t : TypeId} (h : isAgg P t = true) (w : World) : (Go.isAgg t).run P w = .ok true w := by
  unfold isAgg at h
  unfold Go.isAgg
  split at h
  · rename_i h'; simp [run_underlying h']
  · rename_i h'; simp [run_underlying h']
  · cases h

theorem isAgg_false {t : TypeId} (h : isAgg P t = false) (h1 : P.underlying t ≠ none) (w : World) : (Go.isAgg t).run P w = .ok false w := by
  unfold isAgg at h
  unfold Go.isAgg
  cases hu : P.underlying t with
  | none => exact absurd hu h1
  | some d => cases d <;> simp_all [run_underlying hu]

theorem cellsAre_get : ∀ {vs : List Value} {i : Nat} {ad : Addr} {w : World}, cellsAre w ad i vs → ∀ j v, vs[j]? = some v → w.cell? (ad.add (i + j)) = some v
  | [], _, _, _, _, j, v, hv => by simp at hv
  | [x], i, ad, w, h, j, v, hv => by
    cases j with
    | zero => simp at hv; subst hv; simpa [cellsAre] using h
    | succ j => simp at hv
  | x :: y :: vs, i, ad, w, h, j, v, hv => by
    simp only [cellsAre] at h
    cases j with
    | zero => simp at hv; subst hv; simpa using h.1
    | succ j =>
      have := cellsAre_get (vs := y :: vs) h.2 j v (by simpa using hv)
      rwa [show i + 1 + j = i + (j + 1) by omega] at this

theorem same_cell {w w' : World} {ad : Addr} (h : w'.heap[ad.block]? = w.heap[ad.block]?) : w'.cell? ad = w.cell? ad := by simp [World.cell?, h]

theorem add_block (ad : Addr) (n : Nat) : (ad.add n).block = ad.block := by unfold Addr.add; split <;> rfl

/-- A load, in every world in which the cells are as they are here. -/
theorem ldT_of {t : TypeId} {ad : Addr} {K : Value → Prop} (h : ldT P t ad w K) :
    ∃ v, K v ∧ ∀ w' : World, w'.heap[ad.block]? = w.heap[ad.block]? → (loadVar t ad).run P w' = .ok v w' := by
  unfold ldT ty at h
  by_cases hA : isAgg P t = true
  · simp only [hA, if_true] at h
    by_cases hs : P.cellsOf t ≤ 24
    · simp only [hs, if_true] at h
      split at h
      · rename_i hl
        obtain ⟨vs, hvl, hc, hK⟩ := exL_of h
        refine ⟨_, hK, fun w' hw => ?_⟩
        have hvs : vs.length = P.cellsOf t := hvl.trans hl
        by_cases h0 : P.cellsOf t = 0
        · have hvs0 : vs = [] := List.eq_nil_of_length_eq_zero (by omega)
          subst hvs0
          cases hi : P.info? t with
          | none =>
            exfalso
            unfold isAgg at hA
            have : P.underlying t = none := by simp [Program.underlying, hi]
            simp [this] at hA
          | some i =>
            have : i.size = 0 := by rw [← cellsOf_of hi]; exact h0
            simp [loadVar, isAgg_true hA, sizeOf, typeInfo, hi, this, loadCells, loadCellsFrom]
        · have := run_loadCells_list (P := P) w' ad vs (fun j v hv => by
            have := cellsAre_get hc j v hv
            rw [Nat.zero_add] at this
            exact (same_cell (w := w) (w' := w') (by rw [add_block]; exact hw)).trans this)
          rw [hvs] at this
          simp [loadVar, isAgg_true hA, run_sizeOf' h0, this]
      · exact h.elim
    · simp only [hs, if_false] at h
      obtain ⟨cs, ⟨hsz, hc⟩, hK⟩ := h
      refine ⟨_, hK, fun w' hw => ?_⟩
      have := run_loadCells_list (P := P) w' ad cs.toList (fun j v hv => by
        have hj : j < P.cellsOf t := by
          have := (List.getElem?_eq_some_iff.1 hv).1
          simpa [hsz] using this
        refine (same_cell (w := w) (w' := w') (by rw [add_block]; exact hw)).trans ((hc j hj).trans ?_)
        simpa using hv)
      have h1 : cs.toList.length = P.cellsOf t := by simpa using hsz
      rw [h1] at this
      simp [loadVar, isAgg_true hA, run_sizeOf' (P := P) (t := t) (by omega), this]
  · have hA' : isAgg P t = false := by simpa using hA
    simp only [hA', Bool.false_eq_true, if_false] at h
    split at h
    · rename_i hu
      obtain ⟨v, hc, hK⟩ := exS_of h
      refine ⟨v, hK, fun w' hw => ?_⟩
      have hu' : P.underlying t ≠ none := by intro h0; simp [h0] at hu
      simp [loadVar, isAgg_false hA' hu', same_cell hw, hc]
    · exact h.elim

theorem fieldOff_of {s : TypeId} {f off : Nat} (h : fieldOff P s f = some off) (ad : Addr) (w : World) :
    (Instr.fieldAt s (.pointer (some ad)) f).run P w = .ok (.pointer (some (ad.add off))) w := by
  unfold fieldOff at h
  split at h
  · rename_i fs hu
    split at h
    · rename_i fd hf
      split at h
      · cases h
      · rename_i h0
        simp only [Option.some.injEq] at h
        subst h
        simp [Instr.fieldAt, run_underlying hu, hf, Instr.sureAddr, fieldPlace, run_sizeOf' h0, h0]
    · cases h
  · cases h

theorem mulc_eq (n k : Nat) : mulc n k = n * k := by unfold mulc; split <;> simp_all

theorem ibits_run {op : BinOp} (h : op = .and ∨ op = .or ∨ op = .xor ∨ op = .andNot) (k : IntKind) (x y : Int) (w : World) :
    (Op.intBits op k x y).run P w = .ok (.int k (ibits op k x y)) w := by
  rcases h with rfl | rfl | rfl | rfl <;> simp [Op.intBits, ibits]

theorem binQ_of {t _yt : TypeId} {op : BinOp} {x y : Operand} {vx vy : Value} {K : Value → Prop} (h : binQ op vx vy K) (hop : (op = .eql ∨ op = .neq) → ∃ d, P.underlying t = some d) :
    ∃ v, K v ∧ ∀ w : World, (do eqGuard op t x y vx vy; binOp op t vx vy : Sem Value).run P w = .ok v w := by
  unfold binQ at h
  split at h
  · rename_i k n k' m
    split at h
    · exact ⟨_, h.2, fun w => by simp [eqGuard, binOp, Op.shift, show ¬ m < 0 by omega]⟩
    · exact ⟨_, h.2, fun w => by simp [eqGuard, binOp, Op.shift, show ¬ m < 0 by omega]⟩
    · split at h
      · rename_i hk
        subst hk
        split at h <;> first
          | exact h.elim
          | exact ⟨_, h, fun w => by simp [eqGuard, binOp, Op.intArith, Op.intCmp, ibits_run]⟩
          | exact ⟨_, h.2, fun w => by simp [eqGuard, binOp, Op.intDiv, h.1]⟩
      · exact h.elim
  · rename_i s s'
    split at h <;> first
      | exact h.elim
      | exact ⟨_, h, fun w => by simp [eqGuard, binOp, Op.stringOp]⟩
      | exact ⟨_, h.2, fun w => by have h1 := h.1; simp at h1; simp [eqGuard, binOp, Op.stringOp, show ¬ (9223372036854775807 < (s.size : Int) + s'.size) by omega]⟩
  · exact h.elim

/-- What a comparison by 'Op.equal' yields. -/
def Eqs (P : Program) (t : TypeId) (vx vy : Value) (w : World) (b : Bool) : Prop := (Op.equal t vx vy).run P w = .ok b w

theorem eqs_eql {t : TypeId} {x y : Operand} {vx vy : Value} {b : Bool} (h : Eqs P t vx vy w b) (hg : (eqGuard .eql t x y vx vy).run P w = .ok () w)
    (hb : (binOp .eql t vx vy).run P w = ((Op.equal t vx vy).run P w).andThen fun b w' => .ok (.bool b) w') :
    (do eqGuard .eql t x y vx vy; binOp .eql t vx vy : Sem Value).run P w = .ok (.bool b) w := by
  simp only [Sem.run_bind, hg, Result.andThen_ok, hb]
  unfold Eqs at h
  simp [h]

theorem eqs_neq {t : TypeId} {x y : Operand} {vx vy : Value} {b : Bool} (h : Eqs P t vx vy w b) (hg : (eqGuard .neq t x y vx vy).run P w = .ok () w)
    (hb : (binOp .neq t vx vy).run P w = ((Op.equal t vx vy).run P w).andThen fun b w' => .ok (.bool !b) w') :
    (do eqGuard .neq t x y vx vy; binOp .neq t vx vy : Sem Value).run P w = .ok (.bool !b) w := by
  simp only [Sem.run_bind, hg, Result.andThen_ok, hb]
  unfold Eqs at h
  simp [h]

theorem isNilC_eval {x : Operand} (h : isNilC x = true) (a : Act) : a.eval x = .pointer none ∨ (∃ n c, a.eval x = .slice none n c) ∨ a.eval x = .map none ∨ a.eval x = .nilFunc := by
  unfold isNilC at h
  split at h <;> simp [Act.eval] at *

/-- What is to be shown of a comparison by 'Op.equal'. -/
def EqRes (P : Program) (t : TypeId) (x y : Operand) (vx vy : Value) (w : World) (B : Option (List Nat)) (K : Bool → Prop) : Prop :=
  ∃ b, K b ∧ Eqs P t vx vy w b ∧ (∀ bs, B = some bs → ∀ w', Eqs P t vx vy w' b) ∧
      (∀ op, op = .eql ∨ op = .neq → ∀ w, (eqGuard op t x y vx vy).run P w = .ok () w) ∧
      (∀ w, (binOp .eql t vx vy).run P w = ((Op.equal t vx vy).run P w).andThen fun b w' => .ok (.bool b) w') ∧
      (∀ w, (binOp .neq t vx vy).run P w = ((Op.equal t vx vy).run P w).andThen fun b w' => .ok (.bool !b) w')

theorem eqs_of {t : TypeId} {vx vy : Value} {w : World} {b : Bool} (h : ∀ d : Nat, (Op.equalIn (d + 1) t vx vy).run P w = .ok b w) : Eqs P t vx vy w b := h 9999

/-- The values that 'binOp' hands to 'Op.equal'. -/
def byEqual : Value → Value → Bool
  | .bool _, .bool _ | .pointer _, .pointer _ | .slice _ _ _, .slice _ _ _ | .map _, .map _ | .func _ _ _, .nilFunc | .nilFunc, .nilFunc => true
  | _, _ => false

theorem byEqual_runs {t : TypeId} {x y : Operand} {vx vy : Value} (h : byEqual vx vy = true) :
      (∀ op, op = .eql ∨ op = .neq → ∀ w, (eqGuard op t x y vx vy).run P w = .ok () w) ∧
      (∀ w, (binOp .eql t vx vy).run P w = ((Op.equal t vx vy).run P w).andThen fun b w' => .ok (.bool b) w') ∧
      (∀ w, (binOp .neq t vx vy).run P w = ((Op.equal t vx vy).run P w).andThen fun b w' => .ok (.bool !b) w') := by
  unfold byEqual at h
  split at h <;> first
    | (refine ⟨fun op hop w => ?_, fun w => ?_, fun w => ?_⟩
       · rcases hop with rfl | rfl <;> simp [eqGuard]
       · simp [binOp]
       · simp [binOp])
    | cases h

theorem EqRes.mk' {t : TypeId} {x y : Operand} {vx vy : Value} {K : Bool → Prop} {b : Bool} (hb : byEqual vx vy = true) (hK : K b) (h : ∀ (w : World) (d : Nat), (Op.equalIn (d + 1) t vx vy).run P w = .ok b w) :
    EqRes P t x y vx vy w B K :=
  have := byEqual_runs (P := P) (t := t) (x := x) (y := y) hb
  ⟨b, hK, eqs_of (h w), fun _ _ w' => eqs_of (h w'), this.1, this.2.1, this.2.2⟩

theorem EqRes.now {t : TypeId} {x y : Operand} {vx vy : Value} {K : Bool → Prop} {b : Bool} (hb : byEqual vx vy = true) (hK : K b) (h : ∀ (d : Nat), (Op.equalIn (d + 1) t vx vy).run P w = .ok b w) :
    EqRes P t x y vx vy w none K :=
  have := byEqual_runs (P := P) (t := t) (x := x) (y := y) hb
  ⟨b, hK, eqs_of h, fun _ h => (by cases h), this.1, this.2.1, this.2.2⟩

theorem nil_ptr {x : Operand} {p : Option Addr} (h : isNilC x = true) (hx : a.eval x = .pointer p) : p = none := by
  rcases isNilC_eval h a with h' | ⟨_, _, h'⟩ | h' | h' <;> rw [hx] at h' <;> simp_all
theorem nil_slice {x : Operand} {p : Option Addr} {n c : Nat} (h : isNilC x = true) (hx : a.eval x = .slice p n c) : p = none := by
  rcases isNilC_eval h a with h' | ⟨_, _, h'⟩ | h' | h' <;> rw [hx] at h' <;> simp_all
theorem nil_map {x : Operand} {p : Option Nat} (h : isNilC x = true) (hx : a.eval x = .map p) : p = none := by
  rcases isNilC_eval h a with h' | ⟨_, _, h'⟩ | h' | h' <;> rw [hx] at h' <;> simp_all

/-- The comparisons of 'eqQ': bools, pointers, slices, maps, functions. -/
theorem eqQ_of {t : TypeId} {x y : Operand} {K : Bool → Prop} (h : eqQ P t (isNilC x) (isNilC y) (a.eval x) (a.eval y) w B K) :
    EqRes P t x y (a.eval x) (a.eval y) w B K := by
  unfold eqQ at h
  split at h
  · rename_i hu
    split at h
    · rename_i p q hx hy
      rw [hx, hy]
      exact .mk' rfl h fun w d => by simp [Op.equalIn, run_underlying hu]
    · exact h.elim
  · rename_i e hu
    split at h
    · rename_i p q hx hy
      split at h
      · rename_i hy'
        have hq := nil_ptr hy' hy
        rw [hx, hy]
        subst hq
        exact .mk' rfl h fun w d => by cases p <;> simp [Op.equalIn, run_underlying hu]
      · rename_i hx' _
        have hp := nil_ptr hx' hx
        rw [hx, hy]
        subst hp
        exact .mk' rfl h fun w d => by simp [Op.equalIn, run_underlying hu]
      · split at h
        · obtain ⟨h0, hok, hK⟩ := h
          rw [hx, hy]
          refine .now rfl hK fun d => ?_
          cases p with
          | none => cases q <;> simp [Op.equalIn, run_underlying hu]
          | some p =>
            cases q with
            | none => simp [Op.equalIn, run_underlying hu]
            | some q =>
              simp only [Op.equalIn, Sem.run_bind, run_underlying hu, Result.andThen_ok, run_sizeOf' h0, ne_eq, h0, not_false_eq_true, if_true]
              by_cases hpq : p = q
              · subst hpq; rw [run_sameAddr_same]; simp
              · have hne : (some p == some q) = false := by simpa using hpq
                rw [hne]
                simp only [peqOK] at hok
                rcases hok with hb | ⟨⟨c1, t1, k1⟩, c2, t2, k2⟩
                · simp [sameAddr, hb, hpq]
                · exact run_sameAddr_other w hpq k1 k2
        · exact h.elim
    · exact h.elim
  · rename_i e hu
    split at h
    · rename_i p n c q m d hx hy
      split at h
      · rename_i hy'
        have hq := nil_slice hy' hy
        rw [hx, hy]
        subst hq
        exact .mk' rfl h fun w d => by cases p <;> simp [Op.equalIn, run_underlying hu]
      · rename_i hx' _
        have hp := nil_slice hx' hx
        rw [hx, hy]
        subst hp
        exact .mk' rfl h fun w d => by simp [Op.equalIn, run_underlying hu]
      · exact h.elim
    · exact h.elim
  · rename_i k e hu
    split at h
    · rename_i p q hx hy
      split at h
      · rename_i hy'
        have hq := nil_map hy' hy
        rw [hx, hy]
        subst hq
        exact .mk' rfl h fun w d => by cases p <;> simp [Op.equalIn, run_underlying hu]
      · rename_i hx' _
        have hp := nil_map hx' hx
        rw [hx, hy]
        subst hp
        exact .mk' rfl h fun w d => by simp [Op.equalIn, run_underlying hu]
      · exact h.elim
    · exact h.elim
  · rename_i ps rs vr hu
    split at h
    · rename_i hx hy
      rw [hx, hy]
      exact .mk' rfl h fun w d => by simp [Op.equalIn, run_underlying hu]
    · rename_i hx hy
      rw [hx, hy]
      exact .mk' rfl h fun w d => by simp [Op.equalIn, run_underlying hu]
    · exact h.elim
  · exact h.elim

end Go.Den

set_option linter.unusedSimpArgs false
namespace Go.Den
open Go

variable {P : Program} {ctl : List Nat} {o : Oper} {a : Act} {w : World} {B : Option (List Nat)} {next : Act → Prop}

theorem ints_some {x : Option Operand} {n : Int} (h : opQ.ints a x = some n) (h0 : 0 ≤ n) : ∃ y k, x = some y ∧ a.eval y = .int k n := by
  unfold opQ.ints at h
  split at h
  · cases h
  · rename_i y
    split at h
    · rename_i k m hy
      simp only [Option.some.injEq] at h
      subst h
      exact ⟨y, k, rfl, hy⟩
    · simp only [Option.some.injEq] at h
      omega

theorem ints_none {x : Option Operand} (h : opQ.ints a x = none) : x = none := by
  unfold opQ.ints at h
  split at h
  · rfl
  · split at h <;> cases h

theorem sliceBound_of {k : IntKind} {n : Int} {y : Nat} {c : BoundsCode} (h0 : 0 ≤ n) (h1 : n ≤ y) (w : World) : (Instr.sliceBound (.int k n) y c).run P w = .ok n.toNat w := by
  simp [Instr.sliceBound, asIntOf, h0, h1]

/-- The three bounds of a slice expression. -/
theorem sliceBounds_of {isSlice : Bool} {len cap : Nat} {lo hi mx : Option Operand}
    (hm : sOK (opQ.ints a mx) cap) (hn : (opQ.ints a hi).isNone = true → (opQ.ints a mx).isNone = true) (hh : sOK (opQ.ints a hi) (sM (opQ.ints a mx) cap)) (hl : sOK (opQ.ints a lo) (sM (opQ.ints a hi) len)) (w : World) :
    (Instr.sliceBounds isSlice len cap (lo.map a.eval) (hi.map a.eval) (mx.map a.eval)).run P w = .ok (sM (opQ.ints a lo) 0, sM (opQ.ints a hi) len, sM (opQ.ints a mx) cap) w := by
  cases hmx : opQ.ints a mx with
  | none =>
    have e1 := ints_none hmx
    subst e1
    cases hhi : opQ.ints a hi with
    | none =>
      have e2 := ints_none hhi
      subst e2
      cases hlo : opQ.ints a lo with
      | none =>
        have e3 := ints_none hlo
        subst e3
        simp [Instr.sliceBounds, sM]
      | some n =>
        simp only [hhi, hlo, sOK, sM] at hl
        obtain ⟨y, k, rfl, hy⟩ := ints_some hlo hl.1
        simp [Instr.sliceBounds, sM, hy, sliceBound_of hl.1 hl.2]
    | some j =>
      simp only [hmx, hhi, sOK, sM] at hh
      obtain ⟨z, k', rfl, hz⟩ := ints_some hhi hh.1
      cases hlo : opQ.ints a lo with
      | none =>
        have e3 := ints_none hlo
        subst e3
        simp [Instr.sliceBounds, sM, hz, sliceBound_of hh.1 hh.2]
      | some n =>
        simp only [hhi, hlo, sOK, sM] at hl
        obtain ⟨y, k, rfl, hy⟩ := ints_some hlo hl.1
        simp [Instr.sliceBounds, sM, hy, hz, sliceBound_of hh.1 hh.2, sliceBound_of (y := j.toNat) hl.1 (by omega)]
  | some i =>
    simp only [hmx, sOK, sM] at hm hh
    obtain ⟨u, k'', rfl, hu⟩ := ints_some hmx hm.1
    cases hhi : opQ.ints a hi with
    | none => simp [hhi, hmx] at hn
    | some j =>
      simp only [hhi] at hh
      obtain ⟨z, k', rfl, hz⟩ := ints_some hhi hh.1
      cases hlo : opQ.ints a lo with
      | none =>
        have e3 := ints_none hlo
        subst e3
        simp [Instr.sliceBounds, sM, hz, hu, sliceBound_of hm.1 hm.2, sliceBound_of (y := i.toNat) hh.1 (by omega)]
      | some n =>
        simp only [hhi, hlo, sOK, sM] at hl
        obtain ⟨y, k, rfl, hy⟩ := ints_some hlo hl.1
        simp [Instr.sliceBounds, sM, hy, hz, hu, sliceBound_of hm.1 hm.2, sliceBound_of (y := i.toNat) hh.1 (by omega), sliceBound_of (y := j.toNat) hl.1 (by omega)]

theorem opQ_move {x : Operand} (ho : o.op = .move x ∨ o.op = .assign x) (h : finQ ctl o.dst a next (a.eval x)) : Got P o a w B next :=
  .of h (.always fun w => by rcases ho with ho | ho <;> simp [execOp, ho])

theorem Got.pure {v : Value} (h : finQ ctl o.dst a next v) (hr : ∀ w : World, (execOp a.eval o).run P w = .ok (.value v) w) : Got P o a w B next := .of h (.always hr)

theorem fields_mapM : ∀ (l : List Field) (w : World), (∀ f ∈ l, P.cellsOf f.type ≠ 0) →
    (l.mapM fun (f : Field) => do pure (f.offset, ← sizeOf f.type) : Sem (List (Nat × Nat))).run P w = .ok (l.map fun (f : Field) => ((f.offset : Nat), P.cellsOf f.type)) w
  | [], w, _ => by simp
  | f :: l, w, h => by
    have ih := fields_mapM l w (fun g hg => h g (List.mem_cons_of_mem _ hg))
    have h0 := run_sizeOf' (P := P) (h f (by simp)) w
    simp only [List.mapM_cons, Sem.run_bind, h0, Result.andThen_ok, Sem.run_pure, ih, List.map_cons]

theorem buildV_of {t : TypeId} {parts : List (Nat × Value)} {v : Value} (h : buildV P t parts = some v) (w : World) : (Instr.build t parts.toArray).run P w = .ok v w := by
  unfold buildV at h
  split at h
  · rename_i z fs hz hu
    split at h
    · rename_i hall
      split at h
      · rename_i cells hf
        simp only [Option.some.injEq] at h
        subst h
        obtain ⟨i, hi, hz'⟩ := Option.bind_eq_some_iff.1 hz
        have hm := fields_mapM (P := P) fs.toList w (fun f hf => by simpa using (List.all_eq_true.1 hall) f hf)
        have hm' : (fs.mapM fun (f : Field) => do pure (f.offset, ← sizeOf f.type) : Sem (Array (Nat × Nat))).run P w = .ok (fs.toList.map fun (f : Field) => (f.offset, P.cellsOf f.type)).toArray w := by
          rw [Array.mapM_eq_mapM_toList, Sem.run_map, hm]; rfl
        have hzr : (zeroValue t).run P w = .ok z w := by simp [zeroValue, typeInfo, hi, hz']
        have hp : (fun (i : Nat) => ((fs.toList.map fun (f : Field) => (f.offset, P.cellsOf f.type)).toArray[i]? : Option (Nat × Nat))) = fun (i : Nat) => (fs.toList[i]?).map fun (f : Field) => (f.offset, P.cellsOf f.type) := by
          funext i; simp
        simp only [Instr.build, Sem.run_bind, hzr, Result.andThen_ok, run_underlying hu, hm', hp, hf, Sem.run_pure]
      · cases h
    · cases h
  · rename_i z n e hz hu
    split at h
    · cases h
    · rename_i h0
      split at h
      · rename_i cells hf
        simp only [Option.some.injEq] at h
        subst h
        obtain ⟨i, hi, hz'⟩ := Option.bind_eq_some_iff.1 hz
        have hzr : (zeroValue t).run P w = .ok z w := by simp [zeroValue, typeInfo, hi, hz']
        simp only [Instr.build, Sem.run_bind, hzr, Result.andThen_ok, run_underlying hu, run_sizeOf' h0, hf, Sem.run_pure]
      · cases h
  · cases h

theorem part_agg {t : TypeId} {cs : Array Value} {off : Nat} (hA : isAgg P t = true) (h0 : P.cellsOf t ≠ 0) (w : World) :
    (part t cs off).run P w = .ok (.agg ((cs.toList.drop off).take (P.cellsOf t)).toArray) w := by
  simp [part, isAgg_true hA, run_sizeOf' h0]
  apply Array.ext'
  simp [List.take_drop]

theorem part_one {t : TypeId} {cs : Array Value} {off : Nat} {v : Value} (hA : isAgg P t = false) (hu : P.underlying t ≠ none) (hv : cs[off]? = some v) (w : World) :
    (part t cs off).run P w = .ok v w := by
  simp [part, isAgg_false hA hu, hv]

theorem eqAgg_of {t : TypeId} {x y : Operand} {xs ys : Array Value} {K : Bool → Prop} (hd : P.eqGuardType P.depth t = false) (h : eqAgg P t xs ys K) :
    ∃ b, K b ∧ (∀ w, (do eqGuard .eql t x y (.agg xs) (.agg ys); binOp .eql t (.agg xs) (.agg ys) : Sem Value).run P w = .ok (.bool b) w) ∧
      ∀ w, (do eqGuard .neq t x y (.agg xs) (.agg ys); binOp .neq t (.agg xs) (.agg ys) : Sem Value).run P w = .ok (.bool !b) w := by
  obtain ⟨b, hb, hK⟩ := h
  have hg : ∀ op, op = .eql ∨ op = .neq → ∀ w, (eqGuard op t x y (.agg xs) (.agg ys)).run P w = .ok () w := fun op hop w => by
    rcases hop with rfl | rfl <;> simp [eqGuard, hd]
  refine ⟨b, hK, fun w => ?_, fun w => ?_⟩
  · simp only [Sem.run_bind, hg _ (.inl rfl), Result.andThen_ok]
    simp [binOp, hb]
  · simp only [Sem.run_bind, hg _ (.inr rfl), Result.andThen_ok]
    simp [binOp, hb]

set_option maxHeartbeats 1000000 in
theorem opQ_of (h : opQ P ctl o a w B next) : Got P o a w B next := by
  unfold opQ at h
  split at h
  case h_1 x ho => exact opQ_move (.inl ho) h
  case h_2 x ho => exact opQ_move (.inr ho) h
  case h_3 c x y ho =>
    split at h
    · rename_i hc; exact .pure h fun w => by simp [execOp, ho, hc, asBool]
    · rename_i hc; exact .pure h fun w => by simp [execOp, ho, hc, asBool]
    · exact h.elim
  case h_4 t x ho =>
    split at h
    · rename_i ad hx
      have key : ∀ {K : Value → Prop}, ldT P t ad w K → ∃ v, K v ∧ ∀ w' : World, w'.heap[ad.block]? = w.heap[ad.block]? → (execOp a.eval o).run P w' = .ok (.value v) w' := fun hl => by
        obtain ⟨v, hK, hr⟩ := ldT_of hl
        exact ⟨v, hK, fun w' hw => by simp [execOp, ho, hx, Instr.loadAt, Instr.sureAddr, hr w' hw]⟩
      unfold inB at h
      split at h
      · obtain ⟨v, hK, hr⟩ := key h
        exact .of hK (.now (hr w rfl))
      · rename_i bs
        obtain ⟨hin, hl⟩ := h
        obtain ⟨v, hK, hr⟩ := key hl
        exact .of hK ⟨hr w rfl, fun bs' hb w' hw => by cases hb; exact hr w' (hw _ hin)⟩
    · exact h.elim
  case h_5 x ho =>
    unfold nilV at h
    split at h
    · rename_i p hx
      cases p with
      | none => exact h.elim
      | some ad => exact .pure h fun w => by simp [execOp, ho, hx]
    · rename_i f fi ca hx
      exact .pure h fun w => by simp [execOp, ho, hx]
    · rename_i u y hx
      exact .pure h fun w => by simp [execOp, ho, hx]
    · exact h.elim
  case h_6 s x f ho =>
    split at h
    · rename_i ad hx
      split at h
      · rename_i off hf
        exact .pure h fun w => by simp [execOp, ho, hx, fieldOff_of hf]
      · exact h.elim
    · exact h.elim
  case h_7 t x i ho =>
    split at h
    · rename_i k n hi
      split at h
      · rename_i len elem hu
        split at h
        · rename_i ad hx
          split at h
          · exact h.elim
          · rename_i h0
            refine .pure h.2 fun w => ?_
            rw [mulc_eq]
            simp [execOp, ho, hx, hi, Instr.indexAt, asIntOf, run_underlying hu, Instr.sureAddr, h.1, run_sizeOf' h0]
        · exact h.elim
      · rename_i elem hu
        split at h
        · rename_i base len cap hx
          split at h
          · exact h.elim
          · rename_i h0
            cases base with
            | none => exact h.elim
            | some ad =>
              refine .pure h.2 fun w => ?_
              rw [mulc_eq]
              simp [execOp, ho, hx, hi, Instr.indexAt, asIntOf, run_underlying hu, h.1, run_sizeOf' h0]
        · exact h.elim
      · exact h.elim
    · exact h.elim
  case h_8 t x i ho =>
    split at h
    · rename_i k n hi
      split at h
      · rename_i hu
        split at h
        · rename_i s hx
          obtain ⟨b, ⟨h0, hb⟩, hK⟩ := h
          exact .pure hK fun w => by simp [execOp, ho, hx, hi, Instr.index, asIntOf, run_underlying hu, h0, hb]
        · exact h.elim
      · rename_i len elem hu
        split at h
        · rename_i cs hx
          split at h
          · rename_i hA
            split at h
            · exact h.elim
            · rename_i h0
              obtain ⟨hb, h⟩ := h
              obtain ⟨v, rfl, hK⟩ := exT_of h
              exact .pure hK fun w => by simp [execOp, ho, hx, hi, Instr.index, asIntOf, run_underlying hu, hb, run_sizeOf' h0, part_agg hA h0]
          · rename_i hA
            split at h
            · exact h.elim
            · rename_i hn
              split at h
              · rename_i h1
                obtain ⟨hb, h⟩ := h
                obtain ⟨v, hv, hK⟩ := exS_of h
                refine .pure hK fun w => ?_
                have h0 : P.cellsOf elem ≠ 0 := by omega
                have hn' : P.underlying elem ≠ none := by intro hh; simp [hh] at hn
                have hv' : cs[n.toNat * P.cellsOf elem]? = some v := by rw [h1, Nat.mul_one]; exact hv
                simp [execOp, ho, hx, hi, Instr.index, asIntOf, run_underlying hu, hb, run_sizeOf' h0, part_one (by simpa using hA) hn' hv']
              · exact h.elim
        · exact h.elim
      · exact h.elim
    · exact h.elim
  case h_9 t x f ho =>
    split at h
    · rename_i cs hx
      split at h
      · rename_i fs hu
        split at h
        · rename_i fd hf
          split at h
          · exact h.elim
          · rename_i h0
            split at h
            · rename_i hA
              exact .pure h fun w => by simp [execOp, ho, hx, Instr.field, run_underlying hu, hf, asAgg, part_agg hA h0]
            · rename_i hA
              split at h
              · exact h.elim
              · rename_i hn
                have hn' : P.underlying fd.type ≠ none := by intro hh; simp [hh] at hn
                split at h
                · rename_i v hv
                  have hv' : cs[fd.offset]? = some v := by simpa using hv
                  exact .pure h fun w => by simp [execOp, ho, hx, Instr.field, run_underlying hu, hf, asAgg, part_one (by simpa using hA) hn' hv']
                · exact h.elim
        · exact h.elim
      · exact h.elim
    · exact h.elim
  case h_10 op t x y yt ho =>
    split at h
    · split at h
      · rename_i k hu
        obtain ⟨v, hK, hr⟩ := binQ_of (P := P) (t := t) (_yt := yt) (x := x) (y := y) h (fun _ => ⟨_, hu⟩)
        exact .pure hK fun w => by simp only [execOp, ho]; simp only [Sem.run_bind] at hr ⊢; simp [hr w]
      · rename_i hu
        obtain ⟨v, hK, hr⟩ := binQ_of (P := P) (t := t) (_yt := yt) (x := x) (y := y) h (fun _ => ⟨_, hu⟩)
        exact .pure hK fun w => by simp only [execOp, ho]; simp only [Sem.run_bind] at hr ⊢; simp [hr w]
      · rename_i fs hu
        split at h
        · rename_i xs ys hx hy
          split at h
          · rename_i hp
            simp only [Bool.and_eq_true, Bool.not_eq_true'] at hp
            obtain ⟨b, hK, h1, _⟩ := eqAgg_of (x := x) (y := y) hp.2 h
            exact .pure hK fun w => by simp only [execOp, ho, hx, hy]; have := h1 w; simp only [Sem.run_bind] at this ⊢; simp [this]
          · exact h.elim
        · exact h.elim
      · rename_i n e hu
        split at h
        · rename_i xs ys hx hy
          split at h
          · rename_i hp
            simp only [Bool.and_eq_true, Bool.not_eq_true'] at hp
            obtain ⟨b, hK, h1, _⟩ := eqAgg_of (x := x) (y := y) hp.2 h
            exact .pure hK fun w => by simp only [execOp, ho, hx, hy]; have := h1 w; simp only [Sem.run_bind] at this ⊢; simp [this]
          · exact h.elim
        · exact h.elim
      · obtain ⟨b, hK, he, hB, hg, h1, h2⟩ := eqQ_of h
        have run : ∀ w, Eqs P t (a.eval x) (a.eval y) w b → (execOp a.eval o).run P w = .ok (.value (.bool b)) w := fun w he => by
          simp only [execOp, ho]; have := eqs_eql he (hg _ (.inl rfl) w) (h1 w); simp only [Sem.run_bind] at this ⊢; simp [this]
        exact .of hK ⟨run w he, fun bs hb w' _ => run w' (hB bs hb w')⟩
    · split at h
      · rename_i k hu
        obtain ⟨v, hK, hr⟩ := binQ_of (P := P) (t := t) (_yt := yt) (x := x) (y := y) h (fun _ => ⟨_, hu⟩)
        exact .pure hK fun w => by simp only [execOp, ho]; simp only [Sem.run_bind] at hr ⊢; simp [hr w]
      · rename_i hu
        obtain ⟨v, hK, hr⟩ := binQ_of (P := P) (t := t) (_yt := yt) (x := x) (y := y) h (fun _ => ⟨_, hu⟩)
        exact .pure hK fun w => by simp only [execOp, ho]; simp only [Sem.run_bind] at hr ⊢; simp [hr w]
      · rename_i fs hu
        split at h
        · rename_i xs ys hx hy
          split at h
          · rename_i hp
            simp only [Bool.and_eq_true, Bool.not_eq_true'] at hp
            obtain ⟨b, hK, _, h1⟩ := eqAgg_of (x := x) (y := y) hp.2 h
            exact .pure hK fun w => by simp only [execOp, ho, hx, hy]; have := h1 w; simp only [Sem.run_bind] at this ⊢; simp [this]
          · exact h.elim
        · exact h.elim
      · rename_i n e hu
        split at h
        · rename_i xs ys hx hy
          split at h
          · rename_i hp
            simp only [Bool.and_eq_true, Bool.not_eq_true'] at hp
            obtain ⟨b, hK, _, h1⟩ := eqAgg_of (x := x) (y := y) hp.2 h
            exact .pure hK fun w => by simp only [execOp, ho, hx, hy]; have := h1 w; simp only [Sem.run_bind] at this ⊢; simp [this]
          · exact h.elim
        · exact h.elim
      · obtain ⟨b, hK, he, hB, hg, h1, h2⟩ := eqQ_of h
        have run : ∀ w, Eqs P t (a.eval x) (a.eval y) w b → (execOp a.eval o).run P w = .ok (.value (.bool !b)) w := fun w he => by
          simp only [execOp, ho]; have := eqs_neq he (hg _ (.inr rfl) w) (h2 w); simp only [Sem.run_bind] at this ⊢; simp [this]
        exact .of hK ⟨run w he, fun bs hb w' _ => run w' (hB bs hb w')⟩
    · rename_i hne1 hne2
      obtain ⟨v, hK, hr⟩ := binQ_of (P := P) (t := t) (_yt := yt) (x := x) (y := y) h (fun h => by rcases h with rfl | rfl <;> simp_all)
      exact .pure hK fun w => by simp only [execOp, ho]; simp only [Sem.run_bind] at hr ⊢; simp [hr w]
  case h_11 op t x ho =>
    split at h
    · rename_i b hx
      exact .pure h fun w => by simp [execOp, ho, hx, Op.unary]
    · rename_i k n hx
      exact .pure h fun w => by simp [execOp, ho, hx, Op.unary, Op.intArith]
    · exact h.elim
  case h_12 src dst x ho =>
    split at h
    · rename_i d k hs hd
      split at h
      · rename_i k' n hx
        refine .pure h fun w => ?_
        simp only [execOp, ho, hx, convert, Sem.run_bind, run_underlying hs, run_underlying hd, Result.andThen_ok]
        cases d <;> simp [Conv.intToInt]
      · exact h.elim
    · rename_i hs hd
      split at h
      · rename_i s hx
        refine .pure h fun w => ?_
        simp [execOp, ho, hx, convert, run_underlying hs, run_underlying hd]
      · exact h.elim
    · exact h.elim
  case h_13 t x lo hi mx ho =>
    split at h
    · rename_i elem hu
      split at h
      · rename_i base len cap hx
        split at h
        · exact h.elim
        · rename_i h0
          obtain ⟨hm, hn, hh, hl, hK⟩ := h
          refine .pure hK (fun w => ?_)
          have := fun w => sliceBounds_of (P := P) (isSlice := true) hm hn hh hl w
          have hs := run_sizeOf' (P := P) h0 w
          simp only [execOp, ho, hx, Instr.sliceAt, Instr.slice, Sem.run_bind, run_underlying hu, Result.andThen_ok, this, hs]
          simp [slA]
      · exact h.elim
    · rename_i n elem hu
      split at h
      · rename_i ad hx
        split at h
        · exact h.elim
        · rename_i h0
          obtain ⟨hm, hn, hh, hl, hK⟩ := h
          refine .pure hK (fun w => ?_)
          have := fun w => sliceBounds_of (P := P) (isSlice := false) hm hn hh hl w
          have hs := run_sizeOf' (P := P) h0 w
          have e : slA (some ad) (sM (opQ.ints a mx) n) (sM (opQ.ints a lo) 0) (P.cellsOf elem) = some (if sM (opQ.ints a mx) n = sM (opQ.ints a lo) 0 then ad else ad.add (sM (opQ.ints a lo) 0 * P.cellsOf elem)) := by
            unfold slA; split <;> rfl
          simp only [execOp, ho, hx, Instr.sliceAt, Sem.run_bind, run_underlying hu, Result.andThen_ok, this, hs, Instr.sureAddr, Sem.run_pure, e]
      · exact h.elim
    · rename_i hu
      split at h
      · rename_i s hx
        split at h
        · obtain ⟨hh, hl, hK⟩ := h
          refine .pure hK (fun w => ?_)
          have := fun w => sliceBounds_of (P := P) (a := a) (isSlice := false) (len := s.size) (cap := s.size) (lo := lo) (hi := hi) (mx := none) (by simp [opQ.ints, sOK]) (fun _ => by simp [opQ.ints])
            (by simpa [opQ.ints, sM] using hh) hl w
          simp only [Option.map_none] at this
          simp only [execOp, ho, hx, Instr.sliceAt, Instr.slice, Sem.run_bind, run_underlying hu, Result.andThen_ok, Option.map_none, Option.isSome_none, Bool.false_eq_true, if_false, Sem.run_pure, this]
        · exact h.elim
      · exact h.elim
    · exact h.elim
  case h_14 x i ho =>
    split at h
    · rename_i vs hx
      split at h
      · rename_i v hv
        have hv' : vs[i]? = some v := by simpa using hv
        exact .pure h fun w => by simp [execOp, ho, hx, Instr.extract, hv']
      · exact h.elim
    · exact h.elim
  case h_15 t x ho =>
    split at h
    · rename_i hi
      refine .pure h fun w => ?_
      unfold ifaceOK at hi
      split at hi
      · cases hi
      · rename_i d hne hu
        simp only [execOp, ho, Instr.makeInterface, Sem.run_bind, run_underlying hu, Result.andThen_ok]
        cases d <;> first | rfl | exact absurd hu (hne _)
      · cases hi
    · exact h.elim
  case h_16 fn fi ca ho =>
    refine .pure h fun w => ?_
    have e1 : (fi.toList.map a.eval).toArray = fi.map a.eval := Array.ext' (by simp)
    have e2 : (ca.toList.map a.eval).toArray = ca.map a.eval := Array.ext' (by simp)
    simp only [execOp, ho, Instr.makeFunc, e1, e2, Sem.run_bind, Sem.run_pure, Result.andThen_ok]
  case h_17 t parts ho =>
    split at h
    · rename_i v hv
      refine .pure h fun w => ?_
      have := buildV_of hv w
      have e : (parts.toList.map fun p => (p.1, a.eval p.2)).toArray = parts.map fun x => (x.1, a.eval x.2) := Array.ext' (by simp)
      rw [e] at this
      simp [execOp, ho, this]
    · exact h.elim
  case h_18 t x i ok ho =>
    split at h
    · obtain ⟨v, hr, h⟩ := h
      obtain ⟨v', rfl, hK⟩ := exR_of h
      exact .of hK (.now (by simp [execOp, ho, hr]))
    · exact h.elim
  case h_19 b args argTypes ho =>
    have hargs : ∀ vs, args.toList.map a.eval = vs → args.map a.eval = vs.toArray := fun vs e => by rw [← e]; exact Array.ext' (by simp)
    have hts : ∀ ts, argTypes.toList = ts → argTypes = ts.toArray := fun ts e => by rw [← e]
    split at h
    · rename_i c n d t hv ht
      have e1 := hargs _ hv
      have e2 := hts _ ht
      subst e2
      split at h
      · rename_i hu
        exact .pure h fun w => by simp [execOp, ho, resolve, invoke, builtin, e1, Builtin.len_, run_underlying hu, goInt]
      · exact h.elim
    · rename_i s t hv ht
      have e1 := hargs _ hv
      have e2 := hts _ ht
      subst e2
      split at h
      · rename_i hu
        exact .pure h fun w => by simp [execOp, ho, resolve, invoke, builtin, e1, Builtin.len_, run_underlying hu, goInt]
      · exact h.elim
    · rename_i hv ht
      have e1 := hargs _ hv
      have e2 := hts _ ht
      subst e2
      split at h
      · rename_i hu
        exact .pure h fun w => by simp [execOp, ho, resolve, invoke, builtin, e1, Builtin.len_, run_underlying hu, goInt]
      · exact h.elim
    · rename_i c n d t hv ht
      have e1 := hargs _ hv
      have e2 := hts _ ht
      subst e2
      split at h
      · rename_i hu
        exact .pure h fun w => by simp [execOp, ho, resolve, invoke, builtin, e1, Builtin.cap_, run_underlying hu, goInt]
      · exact h.elim
    · rename_i k x k' y hv
      have e1 := hargs _ hv
      exact .pure h fun w => by simp [execOp, ho, resolve, invoke, builtin, e1, Builtin.min_, Builtin.min2]
    · rename_i k x k' y hv
      have e1 := hargs _ hv
      exact .pure h fun w => by simp [execOp, ho, resolve, invoke, builtin, e1, Builtin.max_, Builtin.max2]
    · exact h.elim
  case h_20 => exact h.elim

end Go.Den

namespace Go.Den
open Go

/-- A call that returns. -/
def CallsR (P : Program) (f : FuncId) (args : Array Value) (w : World) (K : Value → World → Prop) : Prop :=
  Calls P f args w fun e w' => ∃ v, e = .returned v ∧ K v w'

theorem CallsR.mono {P : Program} {f : FuncId} {args : Array Value} {w : World} {K K' : Value → World → Prop} (h : CallsR P f args w K) (hk : ∀ v w', K v w' → K' v w') : CallsR P f args w K' :=
  Calls.mono h fun _ _ ⟨v, he, hK⟩ => ⟨v, he, hk v _ hK⟩

def _root_.Go.World.upd (w : World) (b : Nat) (o : Obj) : World := { w with heap := w.heap.setIfInBounds b o }

def splice (cs : Array Value) (off : Nat) : List Value → Array Value
  | [] => cs
  | v :: vs => splice (cs.setIfInBounds off v) (off + 1) vs

def stK (ad : Addr) (vs : List Value) (w : World) (K : World → Prop) : Prop :=
  ∃ (cs : Array Value) (T : TypeId) (fr : Nat × Nat), w.heap[ad.block]? = some (.cells cs T fr) ∧ ad.spot = none ∧ ad.off + vs.length ≤ cs.size ∧ (fr.2 ≤ ad.off ∨ ad.off + vs.length ≤ fr.1) ∧
    K (w.upd ad.block (.cells (splice cs ad.off vs) T fr))

def isCell : Value → Bool
  | .agg _ | .tuple _ => false
  | _ => true

def zc (P : Program) (t : TypeId) : Array Value := match (P.info? t).bind (·.zero) with
  | some z => z.cells
  | none => #[]

def hasZero (P : Program) (t : TypeId) : Bool := ((P.info? t).bind (·.zero)).isSome

def sliceV (P : Program) (e : TypeId) (len : Nat) (parts : List (Nat × Value)) : Option (Array Value) :=
  if P.cellsOf e = 0 then none else if !hasZero P e then none else if len * P.cellsOf e > 2 ^ 24 then none else if len * P.cellsOf e = 0 then (if parts.isEmpty then some #[] else none) else
  Instr.fill (fun i => some (i * P.cellsOf e, P.cellsOf e)) ((List.range (len * P.cellsOf e)).map fun i => (zc P e).toList.getD (i % (zc P e).toList.length) default).toArray parts

def resTys (P : Program) (f : FuncId) : List Ty1 := match P.funcs[f]? with
  | some fn => fn.resultTypes.toList.map (ty P)
  | none => []

def callable (P : Program) (f : FuncId) : Bool := match P.funcs[f]? with
  | some fn => !(fn.name == "runtime.NumGoroutine") && !fn.body.isNone
  | none => false

def bltn : Builtin → Option ((Array TypeId → TypeId → Array Value → Sem Value) × List Ty1)
  | .append => some (Builtin.append_, [.one .slice])
  | .copy => some (Builtin.copy_, [.one (.int .i64)])
  | .delete => some (Builtin.delete_, [])
  | .clear => some (Builtin.clear_, [])
  | .len => some (Builtin.len_, [.one (.int .i64)])
  | _ => none

/-- Does the operation only read? -/
def qk (P : Program) (o : Oper) : Bool := match o.op with
  | .move _ | .assign _ | .pick _ _ _ | .load _ _ | .nilCheck _ | .fieldAddr _ _ _ | .indexAddr _ _ _ | .index _ _ _ | .field _ _ _ | .binOp _ _ _ _ _ | .unOp _ _ _ | .slice _ _ _ _ _ | .extract _ _
  | .makeFunc _ _ _ | .makeInterface _ _ | .build _ _ | .lookup _ _ _ _ => true
  | .convert src dst _ => (match P.underlying src, P.underlying dst with
    | some _, some (.int _) => true
    | some .string, some .string => true
    | _, _ => false)
  | .call { callee := .builtin b, argTypes, .. } => (match b with
    | .min | .max | .cap => true
    | .len => (match argTypes.toList with
      | [t] => (match P.underlying t with | some (.map _ _) => false | _ => true)
      | _ => false)
    | _ => false)
  | _ => false

/-- A call of a function value. -/
def callV (P : Program) (fv : Value) (args : List Value) (w : World) (K : Value → World → Prop) : Prop := match fv with
  | .func (.func g) fi ca => if callable P g then CallsR P g (fi.toList ++ args ++ ca.toList).toArray w fun v w' => exR (resTys P g) fun v' => v = v' ∧ K v' w' else False
  | _ => False

/-- What a call answers, by its type. -/
def tysO (P : Program) (t : TypeId) : List Ty1 := match P.underlying t with
  | some (.tuple ts) => ts.toList.map (ty P)
  | _ => [ty P t]

/-- The method of a pointer that an interface holds. -/
def methodOf (P : Program) (u : TypeId) (name : String) : Option FuncId := match P.info? u with
  | some i => (match i.methods.find? (·.name == name) with
    | some m => if m.path.isEmpty then (match m.func, P.underlying u with
      | some (f, true), some (.pointer _) => some f
      | _, _ => none) else none
    | none => none)
  | none => none

/-- A call of a method of an interface's value. -/
def invK (P : Program) (rv : Value) (name : String) (args : List Value) (w : World) (K : Value → World → Prop) : Prop := match rv with
  | .iface u v => (match methodOf P u name with
    | some g => if callable P g then CallsR P g (v :: args).toArray w K else False
    | none => False)
  | _ => False

def opM (P : Program) (ctl : List Nat) (o : Oper) (a : Act) (w : World) (next : Act → World → Prop) : Prop :=
  match o.op with
  | .store t x v => (match a.eval x with
    | .pointer (some ad) => (if P.cellsOf t = 0 then False else if P.cellsOf t ≤ 24 then (if (a.eval v).cells.toList.length = P.cellsOf t ∧ (a.eval v).cells.toList.all isCell = true then stK ad (a.eval v).cells.toList w fun w' => next (a.put o.dst undef) w' else False)
      else ((a.eval v).cells.size = P.cellsOf t ∧ (∀ c ∈ (a.eval v).cells.toList, isCell c = true)) ∧ stK ad (a.eval v).cells.toList w fun w' => next (a.put o.dst undef) w')
    | _ => False)
  | .alloc e => if hasZero P e then finQ ctl o.dst a (fun a' => next a' (w.alloc (.cells (zc P e) e))) (.pointer (some ⟨w.heap.size, 0, none⟩)) else False
  | .box e x => finQ ctl o.dst a (fun a' => next a' (w.alloc (.cells (a.eval x).cells e))) (.pointer (some ⟨w.heap.size, 0, none⟩))
  | .buildSlice t len parts => (match P.underlying t with
    | some (.slice e) => (match sliceV P e len (parts.toList.map fun p => (p.1, a.eval p.2)) with
      | some cells => finQ ctl o.dst a (fun a' => next a' (w.alloc (.cells cells e))) (.slice (some ⟨w.heap.size, 0, none⟩) len len)
      | none => False)
    | _ => False)
  | .makeSlice t l c => runK ((Instr.makeSlice t (a.eval l) (a.eval c)).run P w) fun v w' => exS .slice fun v' => v = v' ∧ finQ ctl o.dst a (fun a' => next a' w') v'
  | .makeMap _ none => finQ ctl o.dst a (fun a' => next a' (w.alloc (.map #[] 0))) (.map (some w.heap.size))
  | .mapUpdate t m k x | .insert t m k x => runK ((Instr.mapUpdate t (a.eval m) (a.eval k) (a.eval x)).run P w) fun _ w' => next (a.put o.dst undef) w'
  | .convert src dst x => runK ((convert src dst (a.eval x)).run P w) fun v w' => exT (ty P dst) fun v' => v = v' ∧ finQ ctl o.dst a (fun a' => next a' w') v'
  | .call { callee := .value f, args, .. } => callV P (a.eval f) (args.toList.map a.eval) w fun v' w' => finQ ctl o.dst a (fun a' => next a' w') v'
  | .call { callee := .invoke r name, args, .. } => invK P (a.eval r) name (args.toList.map a.eval) w fun v w' => exR (tysO P o.type) fun v' => v = v' ∧ finQ ctl o.dst a (fun a' => next a' w') v'
  | .call { callee := .builtin b, args, argTypes } => (match bltn b with
    | some (f, tys) => runK ((f argTypes o.type (args.toList.map a.eval).toArray).run P w) fun v w' => exR tys fun v' => v = v' ∧ finQ ctl o.dst a (fun a' => next a' w') v'
    | none => False)
  | _ => False

def opD (P : Program) (ctl : List Nat) (o : Oper) (a : Act) (w : World) (next : Act → World → Prop) : Prop :=
  match qk P o with
  | true => opQ P ctl o a w none fun a' => next a' w
  | false => opM P ctl o a w next

def denList (P : Program) (ctl : List Nat) (ops : Array Oper) (Q : Act → World → Prop) : List Oper → Act → World → Prop
  | [], a, w => Q a w
  | o :: rest, a, w => match Region.wanted o (yielded ops a.tmps) with
    | true => opD P ctl o a w (denList P ctl ops Q rest)
    | false => denList P ctl ops Q rest (a.put o.dst undef) w

def denStill (P : Program) (ctl : List Nat) (ops : Array Oper) (w : World) (Q : Act → Prop) : List Oper → Act → Prop
  | [], a => Q a
  | o :: rest, a => match Region.wanted o (yielded ops a.tmps) with
    | true => opQ P ctl o a w none (denStill P ctl ops w Q rest)
    | false => denStill P ctl ops w Q rest (a.put o.dst undef)

def keepB (B : List Nat) (w0 w' : World) : Prop := ∀ b ∈ B, w'.heap[b]? = w0.heap[b]?

/-- Does what it yields hang on the world? -/
def wq (o : Oper) : Bool := match o.op with
  | .load _ _ => true
  | _ => false

def lateK (late : List Nat) (i : Nat) (B : List Nat) (w0 w' : World) (X : Prop) : Prop := match late.contains i with
  | true => X
  | false => keepB B w0 w' ∧ X

def denHeld (P : Program) (ctl : List Nat) (ops : Array Oper) (B : List Nat) (late : List Nat) (w0 : World) (Q : Act → World → Prop) : List Nat → Act → World → Prop
  | [], a, w => Q a w
  | i :: rest, a, w => match ops.toList[i]? with
    | none => False
    | some o => match Region.wanted o (yielded ops a.tmps) with
      | false => denHeld P ctl ops B late w0 Q rest (a.put o.dst undef) w
      | true => match qk P o with
        | true => opQ P ctl o a w (some (match wq o with | true => B | false => [])) fun a' => denHeld P ctl ops B late w0 Q rest a' w
        | false => opM P ctl o a w fun a' w' => lateK late i B w0 w' (denHeld P ctl ops B late w0 Q rest a' w')

/-- In which orders a region's operations are walked: at a fork two of them may come next. -/
inductive Sched where
  | nil | op (i : Nat) (r : Sched) | fork (i : Nat) (x : Sched) (j : Nat) (y : Sched)

/-- One operation of a region that is walked by a 'Sched'. -/
def actT (P : Program) (ctl : List Nat) (ops : Array Oper) (B : List Nat) (late : List Nat) (w0 : World) (i : Nat) (a : Act) (w : World) (next : Act → World → Prop) : Prop :=
  match ops.toList[i]? with
  | none => False
  | some o => match Region.wanted o (yielded ops a.tmps) with
    | false => next (a.put o.dst undef) w
    | true => match qk P o with
      | true => opQ P ctl o a w (some (match wq o with | true => B | false => [])) fun a' => next a' w
      | false => opM P ctl o a w fun a' w' => lateK late i B w0 w' (next a' w')

def denTree (P : Program) (ctl : List Nat) (ops : Array Oper) (B : List Nat) (late : List Nat) (w0 : World) (Q : Act → World → Prop) : Sched → Act → World → Prop
  | .nil, a, w => Q a w
  | .op i r, a, w => actT P ctl ops B late w0 i a w (denTree P ctl ops B late w0 Q r)
  | .fork i x j y, a, w => actT P ctl ops B late w0 i a w (denTree P ctl ops B late w0 Q x) ∧ actT P ctl ops B late w0 j a w (denTree P ctl ops B late w0 Q y)

/-- A region in parts: behind the last operation of a part none of its reads is still to come. -/
def denParts (P : Program) (ctl : List Nat) (ops : Array Oper) : List (List Nat × List Nat) → (Act → World → Prop) → Act → World → Prop
  | [], Q, a, w => Q a w
  | (s, late) :: r, Q, a, w => ∃ B : List Nat, denHeld P ctl ops B late w (fun a' w' => denParts P ctl ops r Q a' w') s a w

/-- How a region is walked. -/
inductive RK where
  | seq | still | tail (n : Nat) | held (sched late : List Nat) | tree (sched : Sched) (late : List Nat) | parts (segs : List (List Nat × List Nat))

def denReg (P : Program) (ctl : List Nat) (k : RK) (ops : Array Oper) (draw : Bool) (Q : Act → World → Prop) (a : Act) (w : World) : Prop :=
  match k, draw with
  | .seq, false => denList P ctl ops Q ops.toList a w
  | .still, true => denStill P ctl ops w.drew (fun a' => Q a' w.drew) ops.toList a
  | .tail n, true => denStill P ctl ops w.drew (fun a' => denList P ctl ops Q (ops.toList.drop n) a' w.drew) (ops.toList.take n) a
  | .held s late, true => ∃ B : List Nat, denHeld P ctl ops B late w.drew Q s a w.drew
  | .tree s late, true => ∃ B : List Nat, denTree P ctl ops B late w.drew Q s a w.drew
  | .parts segs, true => denParts P ctl ops segs Q a w.drew
  | _, _ => False

/-! ### Typed relations of loops and joins -/

def IT : List Sh → Type
  | [] => World → Prop
  | .int _ :: ss => Int → IT ss
  | .bool :: ss => Bool → IT ss
  | .str :: ss => ByteArray → IT ss
  | .ptr :: ss => Option Addr → IT ss
  | .slice :: ss => Option Addr → Nat → Nat → IT ss
  | .map :: ss => Option Nat → IT ss
  | .any :: ss => Value → IT ss

def appI : (ss : List Sh) → IT ss → List Value → World → Prop
  | [], J, vs, w => (match vs with | [] => J w | _ => False)
  | .int k :: ss, J, vs, w => (match vs with | .int k' n :: vs => if k' = k then appI ss (J n) vs w else False | _ => False)
  | .bool :: ss, J, vs, w => (match vs with | .bool b :: vs => appI ss (J b) vs w | _ => False)
  | .str :: ss, J, vs, w => (match vs with | .string s :: vs => appI ss (J s) vs w | _ => False)
  | .ptr :: ss, J, vs, w => (match vs with | .pointer p :: vs => appI ss (J p) vs w | _ => False)
  | .slice :: ss, J, vs, w => (match vs with | .slice p l c :: vs => appI ss (J p l c) vs w | _ => False)
  | .map :: ss, J, vs, w => (match vs with | .map r :: vs => appI ss (J r) vs w | _ => False)
  | .any :: ss, J, vs, w => (match vs with | v :: vs => appI ss (J v) vs w | _ => False)

def allI : (ss : List Sh) → IT ss → ((World → Prop) → List Value → Prop) → Prop
  | [], J, K => K J []
  | .int k :: ss, J, K => ∀ n : Int, allI ss (J n) fun J' vs => K J' (.int k n :: vs)
  | .bool :: ss, J, K => ∀ b : Bool, allI ss (J b) fun J' vs => K J' (.bool b :: vs)
  | .str :: ss, J, K => ∀ s : ByteArray, allI ss (J s) fun J' vs => K J' (.string s :: vs)
  | .ptr :: ss, J, K => ∀ p : Option Addr, allI ss (J p) fun J' vs => K J' (.pointer p :: vs)
  | .slice :: ss, J, K => ∀ (p : Option Addr) (l c : Nat), allI ss (J p l c) fun J' vs => K J' (.slice p l c :: vs)
  | .map :: ss, J, K => ∀ r : Option Nat, allI ss (J r) fun J' vs => K J' (.map r :: vs)
  | .any :: ss, J, K => ∀ v : Value, allI ss (J v) fun J' vs => K J' (v :: vs)

theorem allI_of : ∀ (ss : List Sh) (J : IT ss) (K : (World → Prop) → List Value → Prop) (vs : List Value) (w : World), appI ss J vs w → allI ss J K → ∃ J' : World → Prop, J' w ∧ K J' vs
  | [], J, K, vs, w, h, hK => by
    simp only [appI] at h
    split at h
    · exact ⟨J, h, hK⟩
    · exact h.elim
  | .int k :: ss, J, K, vs, w, h, hK => by
    simp only [appI] at h
    split at h
    · rename_i k' n vs
      split at h
      · rename_i hk
        subst hk
        exact allI_of ss (J n) _ vs w h (hK n)
      · exact h.elim
    · exact h.elim
  | .bool :: ss, J, K, vs, w, h, hK => by
    simp only [appI] at h
    split at h
    · rename_i b vs
      exact allI_of ss (J b) (fun J' vs => K J' (.bool b :: vs)) vs w h (hK b)
    · exact h.elim
  | .str :: ss, J, K, vs, w, h, hK => by
    simp only [appI] at h
    split at h
    · rename_i s vs
      exact allI_of ss (J s) (fun J' vs => K J' (.string s :: vs)) vs w h (hK s)
    · exact h.elim
  | .ptr :: ss, J, K, vs, w, h, hK => by
    simp only [appI] at h
    split at h
    · rename_i p vs
      exact allI_of ss (J p) (fun J' vs => K J' (.pointer p :: vs)) vs w h (hK p)
    · exact h.elim
  | .slice :: ss, J, K, vs, w, h, hK => by
    simp only [appI] at h
    split at h
    · rename_i p l c vs
      exact allI_of ss (J p l c) (fun J' vs => K J' (.slice p l c :: vs)) vs w h (hK p l c)
    · exact h.elim
  | .map :: ss, J, K, vs, w, h, hK => by
    simp only [appI] at h
    split at h
    · rename_i r vs
      exact allI_of ss (J r) (fun J' vs => K J' (.map r :: vs)) vs w h (hK r)
    · exact h.elim
  | .any :: ss, J, K, vs, w, h, hK => by
    simp only [appI] at h
    split at h
    · rename_i v vs
      exact allI_of ss (J v) (fun J' vs => K J' (v :: vs)) vs w h (hK v)
    · exact h.elim

/-- The slots that a loop or a branch writes: those that are read behind it bear a shape. -/
abbrev Ms := List (Nat × Option Sh)

def Ms.shs (ms : Ms) : List Sh := ms.filterMap (·.2)
def Ms.vals : Ms → Act → List Value
  | [], _ => []
  | (t, some _) :: ms, a => a.tmps.getD t undef :: Ms.vals ms a
  | (_, none) :: ms, a => Ms.vals ms a

def Ms.set : Ms → List Value → (Nat → Value) → Act → Act
  | [], _, _, a => a
  | (t, some _) :: ms, vs, junk, a => Ms.set ms vs.tail junk { a with tmps := a.tmps.setIfInBounds t (vs.headD undef) }
  | (t, none) :: ms, vs, junk, a => Ms.set ms vs junk { a with tmps := a.tmps.setIfInBounds t (junk t) }

inductive Plan where
  | leaf
  | reg (k : RK)
  | seq (p q : Plan)
  | join (ms : Ms) (p q : Plan)
  | cond (p q : Plan)
  | block (p : Plan)
  | loop (ms : Ms) (p : Plan)

def den (P : Program) (ctl : List Nat) (c : Code) : Plan → (Exit → Act → World → Prop) → Act → World → Prop :=
  Code.rec (motive := fun _ => Plan → (Exit → Act → World → Prop) → Act → World → Prop)
    (fun _ Q a w => Q .normal a w)
    (fun _ ops draw p Q a w => match p with | .reg k => denReg P ctl k ops draw (Q .normal) a w | _ => False)
    (fun _ _ dx dy p Q a w => match p with
      | .seq p q => dx p (Exit.then (dy q Q) Q) a w
      | .join ms p q => ∃ J : IT ms.shs, allI ms.shs J (fun J' vs => ∀ (junk : Nat → Value) (w' : World), J' w' → dy q Q (ms.set vs junk a) w') ∧ dx p (Exit.then (fun a' w' => appI ms.shs J (ms.vals a') w') Q) a w
      | _ => False)
    (fun c _ _ dx dy p Q a w => match p with
      | .cond p q => (match a.eval c with
        | .bool true => dx p Q a w
        | .bool false => dy q Q a w
        | _ => False)
      | _ => False)
    (fun id _ dx p Q a w => match p with | .block p => dx p (Exit.inBlock id Q) a w | _ => False)
    (fun _ dx p Q a w => match p with
      | .loop ms p => ∃ I : Nat → IT ms.shs, (∃ n, appI ms.shs (I n) (ms.vals a) w) ∧ ∀ n, allI ms.shs (I n) fun I' vs => ∀ (junk : Nat → Value) (w' : World), I' w' →
          dx p (Exit.then (fun a'' w'' => ∃ m, m < n ∧ appI ms.shs (I m) (ms.vals a'') w'') Q) (ms.set vs junk a) w'
      | _ => False)
    (fun _ _ _ _ _ _ _ _ _ _ => False)
    (fun id _ Q a w => Q (.exit id) a w)
    (fun _ _ _ _ _ _ => False)
    (fun _ _ _ _ _ => False)
    (fun _ _ _ _ _ => False)
    (fun _ Q a w => Q .ret a w)
    (fun _ _ _ _ _ => False)
    c

/-- What is asked where the function's body ends. -/
def retK (P : Program) (a : Act) (w : World) : List ResultVar → (List Value → Prop) → Prop
  | [], K => K []
  | .tmp t :: l, K => retK P a w l fun vs => K (a.tmps.getD t undef :: vs)
  | .cell b t :: l, K => (match a.tmps.getD b undef with
    | .pointer (some ad) => ldT P t ad w fun v => retK P a w l fun vs => K (v :: vs)
    | _ => False)

def retT (K : Value → World → Prop) (w : World) : List Value → Prop
  | [] => K (.tuple #[]) w
  | [v] => K v w
  | vs => K (.tuple vs.toArray) w

def endD (P : Program) (fn : Func) (K : Value → World → Prop) : Exit → Act → World → Prop
  | .normal, a, w | .ret, a, w => retK P a w fn.results.toList (retT K w)
  | _, _, _ => False

def frame (args : List Value) (n : Nat) : Act := { tmps := (args ++ List.replicate (n - args.length) undef).toArray, defers := [] }

end Go.Den

set_option linter.unusedSimpArgs false
namespace Go.Den
open Go

variable {P : Program} {ctl : List Nat} {o : Oper} {a : Act} {w : World}

theorem upd_size (w : World) (b : Nat) (x : Obj) : (w.upd b x).heap.size = w.heap.size := by simp [World.upd]
theorem upd_get (w : World) (b : Nat) (x : Obj) (b' : Nat) : (w.upd b x).heap[b']? = if b = b' then (if b < w.heap.size then some x else none) else w.heap[b']? := by
  simp only [World.upd, Array.getElem?_setIfInBounds]
theorem upd_same {w : World} {b : Nat} {x y : Obj} (h : w.heap[b]? = some y) : (w.upd b x).heap[b]? = some x := by
  have : b < w.heap.size := (Array.getElem?_eq_some_iff.1 h).1
  simp [upd_get, this]
theorem upd_upd (w : World) (b : Nat) (x y : Obj) : (w.upd b x).upd b y = w.upd b y := by simp [World.upd]

theorem upd_id {w : World} {b : Nat} {x : Obj} (h : w.heap[b]? = some x) : w.upd b x = w := by
  have hlt : b < w.heap.size := (Array.getElem?_eq_some_iff.1 h).1
  have hg : w.heap[b] = x := (Array.getElem?_eq_some_iff.1 h).2
  have : w.heap.setIfInBounds b x = w.heap := by
    apply Array.ext
    · simp
    · intro j h1 h2
      by_cases hj : b = j
      · subst hj; simp [hg]
      · simp [Array.getElem_setIfInBounds_ne h2 hj]
  unfold World.upd
  rw [this]

theorem setCell_upd {w : World} {ad : Addr} {cs : Array Value} {T : TypeId} {fr : Nat × Nat} (h : w.heap[ad.block]? = some (.cells cs T fr)) (hs : ad.spot = none) (v : Value) :
    w.setCell ad v = w.upd ad.block (.cells (cs.setIfInBounds ad.off v) T fr) := by
  have hlt : ad.block < w.heap.size := (Array.getElem?_eq_some_iff.1 h).1
  have hg : w.heap[ad.block] = .cells cs T fr := (Array.getElem?_eq_some_iff.1 h).2
  unfold World.setCell World.upd
  congr 1
  apply Array.ext
  · simp
  · intro i h1 h2
    rw [Array.getElem_modify]
    by_cases hi : ad.block = i
    · subst hi; simp [hg, hs]
    · have hs2 : i < w.heap.size := by simpa using h1
      simp [hi, Array.getElem_setIfInBounds_ne hs2 hi]

theorem splice_size (vs : List Value) : ∀ (cs : Array Value) (off : Nat), (splice cs off vs).size = cs.size := by
  induction vs with
  | nil => intros; rfl
  | cons v vs ih => intro cs off; simp [splice, ih]

theorem run_store_cell {ad : Addr} {v : Value} {m : Mode} (hv : isCell v = true) (w : World) : (store ad v m).run P w = stored P w ad v m := by
  apply run_store
  cases v <;> simp_all [isCell] <;> rfl

theorem run_storeCells_upd {b off : Nat} {T : TypeId} {fr : Nat × Nat} (vs : List Value) : ∀ (i : Nat) (cs : Array Value) (w : World), w.heap[b]? = some (.cells cs T fr) → off + i + vs.length ≤ cs.size →
    (fr.2 ≤ off + i ∨ off + i + vs.length ≤ fr.1) → (∀ v ∈ vs, isCell v = true) → (storeCells ⟨b, off, none⟩ vs i).run P w = .ok () (w.upd b (.cells (splice cs (off + i) vs) T fr)) := by
  induction vs with
  | nil =>
    intro i cs w h _ _ _
    have hlt : b < w.heap.size := (Array.getElem?_eq_some_iff.1 h).1
    have hg : w.heap[b] = .cells cs T fr := (Array.getElem?_eq_some_iff.1 h).2
    simp only [storeCells, Sem.run_pure, splice]
    rw [upd_id h]
  | cons v vs ih =>
    intro i cs w h hlen hfr hc
    simp only [List.length_cons] at hlen hfr
    have hadd : Addr.add ⟨b, off, none⟩ i = ⟨b, off + i, none⟩ := Addr.add_lit b off i
    have hcell : w.cell? ⟨b, off + i, none⟩ = some cs[off + i] := by
      simp [World.cell?, h, show off + i < cs.size by omega]
    have hfz : w.frozen? ⟨b, off + i, none⟩ = false := by
      obtain ⟨lo, hi⟩ := fr
      simp only [World.frozen?, h, Bool.and_eq_false_iff, decide_eq_false_iff_not]
      simp only at hfr
      omega
    have hst : stored P w ⟨b, off + i, none⟩ v .plain = .ok () (w.upd b (.cells (cs.setIfInBounds (off + i) v) T fr)) := by
      simp only [stored, hcell, hfz, Bool.false_eq_true, if_false]
      rw [setCell_upd (ad := ⟨b, off + i, none⟩) h rfl]
    simp only [storeCells, Sem.run_bind, hadd]
    rw [run_store_cell (hc v (by simp)), hst]
    simp only [Result.andThen_ok]
    have := ih (i + 1) (cs.setIfInBounds (off + i) v) (w.upd b (.cells (cs.setIfInBounds (off + i) v) T fr)) (upd_same h) (by simp; omega) (by omega) (fun u hu => hc u (by simp [hu]))
    rw [this, upd_upd]
    rfl

theorem stK_run {t : TypeId} {ad : Addr} {v : Value} {K : World → Prop} (hsz : v.cells.size = P.cellsOf t) (h0 : P.cellsOf t ≠ 0) (hc : ∀ c ∈ v.cells.toList, isCell c = true) (h : stK ad v.cells.toList w K) :
    ∃ w', (storeVar t ad v).run P w = .ok () w' ∧ K w' := by
  obtain ⟨cs, T, fr, hb, hs, hl, hf, hK⟩ := h
  refine ⟨_, ?_, hK⟩
  obtain ⟨b, off, spot⟩ := ad
  simp only at hs
  subst hs
  have := run_storeCells_upd (P := P) v.cells.toList 0 cs w hb (by simpa using hl) (by simpa using hf) hc
  simp [storeVar, run_sizeOf' h0, hsz, this]

theorem hasZero_of {t : TypeId} (h : hasZero P t = true) (w : World) : ∃ z, (zeroValue t).run P w = .ok z w ∧ z.cells = zc P t := by
  unfold hasZero at h
  obtain ⟨z, hz⟩ := Option.isSome_iff_exists.1 h
  obtain ⟨i, hi, hz'⟩ := Option.bind_eq_some_iff.1 hz
  exact ⟨z, by simp [zeroValue, typeInfo, hi, hz'], by simp [zc, hi, hz']⟩

theorem sliceV_of {t e : TypeId} {len : Nat} {parts : List (Nat × Value)} {cells : Array Value} (hu : P.underlying t = some (.slice e)) (h : sliceV P e len parts = some cells) (w : World) :
    (Instr.buildSlice t len parts.toArray).run P w = .ok (.slice (some ⟨w.heap.size, 0, none⟩) len len) (w.alloc (.cells cells e)) := by
  unfold sliceV at h
  split at h
  · cases h
  · rename_i h0
    split at h
    · cases h
    · rename_i hz
      split at h
      · cases h
      · rename_i hl
        obtain ⟨z, hzr, hzc⟩ := hasZero_of (P := P) (t := e) (by simpa using hz) w
        split at h
        · rename_i hl0
          split at h
          · rename_i hp
            simp only [Option.some.injEq] at h
            subst h
            have hp' : parts = [] := by simpa using hp
            subst hp'
            simp [Instr.buildSlice, run_underlying hu, run_sizeOf' h0, hl0, Instr.fill, newRow, Array.range_zero']
          · cases h
        · rename_i hl0
          have e2 : ((Array.range (len * P.cellsOf e)).map fun i => (zc P e)[i % (zc P e).size]!) =
              ((List.range (len * P.cellsOf e)).map fun i => (zc P e).toList.getD (i % (zc P e).toList.length) default).toArray := by
            apply Array.ext'
            simp only [Array.toList_map, Array.toList_range]
            apply List.map_congr_left
            intro i _
            simp [Array.getElem!_eq_getD]
          simp only [Instr.buildSlice, Sem.run_bind, run_underlying hu, Result.andThen_ok, run_sizeOf' h0, hl, if_false, hl0, Sem.run_pure, hzr, hzc, e2]
          simp only [h, newRow, Sem.run_bind, run_newObj, Result.andThen_ok, Sem.run_pure, World.alloc_eq]

theorem callFunc_of {f : FuncId} (h : callable P f = true) (args : Array Value) (w : World) : (callFunc f args).run P w = .ok (.enter f args) w := by
  unfold callable at h
  split at h
  · rename_i fn hf
    simp only [Bool.and_eq_true, Bool.not_eq_true'] at h
    have h1 : ¬ fn.name = "runtime.NumGoroutine" := by simpa using h.1
    have h2 : ¬ fn.body = none := by intro hb; have := h.2; simp [hb] at this
    simp [callFunc, hf, h1, h2]
  · cases h

theorem method_of {u : TypeId} {name : String} {g : FuncId} (h : methodOf P u name = some g) (v : Value) (w : World) : (method (P.types.size + Made.depth) u v name).run P w = .ok (g, v) w := by
  unfold methodOf at h
  split at h
  · rename_i i hi
    split at h
    · rename_i m hm
      split at h
      · rename_i hp
        split at h
        · rename_i f e hf hu
          simp only [Option.some.injEq] at h
          subst h
          have hpl : m.path.toList = [] := by simpa using hp
          have hpos : 0 < Made.depth := by decide
          have hd : ∃ n, P.types.size + Made.depth = n + 1 := ⟨P.types.size + Made.depth - 1, by omega⟩
          obtain ⟨n, hn⟩ := hd
          rw [hn]
          simp [method, typeInfo, hi, hm, hpl, follow, hf, receiverAt, run_underlying hu, Place.get]
        · cases h
      · cases h
    · cases h
  · cases h

theorem upon_value {r : Result Next} {v : Value} {w' : World} {next : Act → World → Prop} {Q : Exit → Act → World → Prop} (hr : r = .ok (.value v) w') (h : next (a.put o.dst v) w') : o.upon P a next Q r := by
  subst hr; exact h

/-- 'a'' is 'a' but for the slots 'ws'. -/
def Same (ws : List Nat) (a a' : Act) : Prop := a'.defers = a.defers ∧ a'.tmps.size = a.tmps.size ∧ ∀ t, t ∉ ws → a'.tmps[t]? = a.tmps[t]?

theorem Same.refl (ws : List Nat) (a : Act) : Same ws a a := ⟨rfl, rfl, fun _ _ => rfl⟩
theorem Same.trans {ws : List Nat} {a b c : Act} (h : Same ws a b) (h' : Same ws b c) : Same ws a c := ⟨h'.1.trans h.1, h'.2.1.trans h.2.1, fun t ht => (h'.2.2 t ht).trans (h.2.2 t ht)⟩
theorem Same.mono {ws ws' : List Nat} {a b : Act} (h : Same ws a b) (hs : ∀ t ∈ ws, t ∈ ws') : Same ws' a b := ⟨h.1, h.2.1, fun t ht => h.2.2 t fun hm => ht (hs t hm)⟩
theorem Same.put {ws : List Nat} {a b : Act} {dst : Option Tmp} (h : Same ws a b) (hd : ∀ d, dst = some d → d ∈ ws) (v : Value) : Same ws a (b.put dst v) := by
  cases dst with
  | none => exact h
  | some d =>
    refine ⟨h.1, by simp [Act.put, h.2.1], fun t ht => ?_⟩
    have : d ≠ t := fun e => ht (e ▸ hd d rfl)
    simp [Act.put, Array.getElem?_setIfInBounds_ne this, h.2.2 t ht]

/-- What is to be shown of an operation that acts. -/
def Put (o : Oper) (a : Act) (next : Act → World → Prop) : Act → World → Prop := fun a' w' => next a' w' ∧ ∃ u, a' = a.put o.dst u
theorem Put.mk {o : Oper} {a : Act} {next : Act → World → Prop} {v : Value} {w : World} (h : next (a.put o.dst v) w) : Put o a next (a.put o.dst v) w := ⟨h, v, rfl⟩

theorem opM_of {next : Act → World → Prop} {Q : Exit → Act → World → Prop} (h : opM P ctl o a w next) : o.wp P a w (Put o a next) Q := by
  unfold Oper.wp
  unfold opM at h
  have hargs : ∀ args : Array Operand, (args.toList.map a.eval).toArray = args.map a.eval := fun args => Array.ext' (by simp)
  split at h
  case h_1 t x v ho =>
    split at h
    · rename_i ad hx
      split at h
      · exact h.elim
      rename_i h0
      have key : (a.eval v).cells.size = P.cellsOf t → (∀ c ∈ (a.eval v).cells.toList, isCell c = true) → stK ad (a.eval v).cells.toList w (fun w' => next (a.put o.dst undef) w') →
          o.upon P a (Put o a next) Q ((execOp a.eval o).run P w) := fun h1 h2 h3 => by
        obtain ⟨w', hr, hn⟩ := stK_run (P := P) h1 h0 h2 h3
        have : (execOp a.eval o).run P w = .ok .skip w' := by simp [execOp, ho, hx, Instr.storeAt, Instr.sureAddr, hr]
        rw [this]
        exact Put.mk hn
      split at h
      · split at h
        · rename_i hc
          exact key (by simpa using hc.1) (fun c hm => List.all_eq_true.1 hc.2 c hm) h
        · exact h.elim
      · exact key h.1.1 h.1.2 h.2
    · exact h.elim
  case h_2 e ho =>
    split at h
    · rename_i hz
      obtain ⟨z, hzr, hzc⟩ := hasZero_of hz w
      refine upon_value ?_ (Put.mk (finQ_of h))
      simp [execOp, ho, Instr.alloc, hzr, newVar, newRow, hzc]
    · exact h.elim
  case h_3 e x ho =>
    refine upon_value ?_ (Put.mk (finQ_of h))
    simp [execOp, ho, Instr.box, newVar, newRow]
  case h_4 t len parts ho =>
    split at h
    · rename_i e hu
      split at h
      · rename_i cells hc
        refine upon_value ?_ (Put.mk (finQ_of h))
        have e1 : (parts.toList.map fun p => (p.1, a.eval p.2)).toArray = parts.map fun x => (x.1, a.eval x.2) := Array.ext' (by simp)
        have := sliceV_of hu hc w
        rw [e1] at this
        simp [execOp, ho, this]
      · exact h.elim
    · exact h.elim
  case h_5 t l c ho =>
    obtain ⟨v, w', hr, h⟩ := h
    obtain ⟨v', rfl, h⟩ := exS_of h
    refine upon_value ?_ (Put.mk (finQ_of h))
    simp [execOp, ho, hr]
  case h_6 t ho =>
    refine upon_value ?_ (Put.mk (finQ_of h))
    simp [execOp, ho, Instr.makeMap]
  case h_7 t m k x ho =>
    obtain ⟨v, w', hr, h⟩ := h
    have : (execOp a.eval o).run P w = .ok .skip w' := by simp [execOp, ho, hr]
    rw [this]; exact Put.mk h
  case h_8 t m k x ho =>
    obtain ⟨v, w', hr, h⟩ := h
    have : (execOp a.eval o).run P w = .ok .skip w' := by simp [execOp, ho, hr]
    rw [this]; exact Put.mk h
  case h_9 src dst x ho =>
    obtain ⟨v, w', hr, h⟩ := h
    obtain ⟨v', rfl, h⟩ := exT_of h
    refine upon_value ?_ (Put.mk (finQ_of h))
    simp [execOp, ho, hr]
  case h_10 f args ats ho =>
    unfold callV at h
    split at h
    · rename_i g fi ca hf
      split at h
      · rename_i hc
        have e1 : (fi.toList ++ args.toList.map a.eval ++ ca.toList).toArray = fi ++ args.map a.eval ++ ca := Array.ext' (by simp)
        have : (execOp a.eval o).run P w = .ok (.enter g (fi ++ args.map a.eval ++ ca)) w := by
          simp [execOp, ho, resolve, hf, Deferred.ofValue, invoke, callFunc_of hc]
        rw [this]
        rw [e1] at h
        refine Calls.mono h ?_
        rintro e w' ⟨v, rfl, h⟩
        obtain ⟨v', rfl, h⟩ := exR_of h
        exact Put.mk (finQ_of h)
      · exact h.elim
    · exact h.elim
  case h_11 r name args ats ho =>
    unfold invK at h
    split at h
    · rename_i u v hr
      split at h
      · rename_i g hg
        split at h
        · rename_i hc
          have e1 : (v :: args.toList.map a.eval).toArray = #[v] ++ args.map a.eval := Array.ext' (by simp)
          have e2 : (#[a.eval r] ++ args.map a.eval).extract 1 (#[a.eval r] ++ args.map a.eval).size = args.map a.eval := by
            apply Array.ext'
            simp
            rw [List.take_of_length_le (by simp)]
          have hm := method_of (P := P) hg v w
          have : (execOp a.eval o).run P w = .ok (.enter g (#[v] ++ args.map a.eval)) w := by
            simp only [execOp, ho, resolve, invoke, Sem.run_bind, Sem.run_pure, Result.andThen_ok, callMethod]
            have h0 : (#[a.eval r] ++ args.map a.eval)[0]? = some (a.eval r) := by
              rw [Array.getElem?_append_left (by simp)]
              rfl
            rw [hr] at h0 e2 ⊢
            rw [h0]
            simp only [e2, Sem.run_bind, run_program, Result.andThen_ok, hm, callFunc_of hc]
          rw [this]
          rw [e1] at h
          refine Calls.mono h ?_
          rintro e w' ⟨v', rfl, h⟩
          obtain ⟨v'', rfl, h⟩ := exR_of h
          exact Put.mk (finQ_of h)
        · exact h.elim
      · exact h.elim
    · exact h.elim
  case h_12 b args ats ho =>
    split at h
    · rename_i f tys hb
      obtain ⟨v, w', hr, h⟩ := h
      obtain ⟨v', rfl, h⟩ := exR_of h
      refine upon_value ?_ (Put.mk (finQ_of h))
      rw [hargs] at hr
      unfold bltn at hb
      split at hb <;> first
        | (simp only [Option.some.injEq, Prod.mk.injEq] at hb
           obtain ⟨rfl, _⟩ := hb
           simp [execOp, ho, resolve, invoke, builtin, hr]
           done)
        | (cases hb; done)
    · exact h.elim
  case h_13 => exact h.elim

theorem opD_of {next : Act → World → Prop} {Q : Exit → Act → World → Prop} (h : opD P ctl o a w next) : o.wp P a w (Put o a next) Q := by
  unfold opD at h
  split at h
  · obtain ⟨v, hy, hn⟩ := opQ_of h
    exact upon_value hy.1 (Put.mk hn)
  · exact opM_of h

/-- All that a list of operations writes lies in 'ws'. -/
def Dsts (ws : List Nat) (l : List Oper) : Prop := ∀ o ∈ l, ∀ d, o.dst = some d → d ∈ ws

theorem denList_of {ops : Array Oper} {K : Act → World → Prop} {Q : Exit → Act → World → Prop} {ws : List Nat} {a0 : Act} (hQ : ∀ a w, Same ws a0 a → K a w → Q .normal a w) :
    ∀ (l : List Oper) (a : Act) (w : World), Dsts ws l → Same ws a0 a → denList P ctl ops K l a w → wpList P ops Q l a w
  | [], a, w, _, hs, h => hQ a w hs h
  | o :: l, a, w, hd, hs, h => by
    have hd' : Dsts ws l := fun o ho => hd o (by simp [ho])
    have hp : ∀ v, Same ws a0 (a.put o.dst v) := fun v => hs.put (hd o (by simp)) v
    simp only [denList] at h
    simp only [wpList]
    split at h
    · rename_i hw
      simp only [hw, if_true]
      refine .inl (Oper.wp_mono ?_ (opD_of h))
      rintro a' w' ⟨h', u, rfl⟩
      exact denList_of hQ l _ w' hd' (hp u) h'
    · rename_i hw
      simp only [hw, Bool.false_eq_true, if_false]
      exact denList_of hQ l _ _ hd' (hp _) h

theorem denStill_of {ops : Array Oper} {K K' : Act → Prop} {ws : List Nat} {a0 : Act} (hK : ∀ a, Same ws a0 a → K a → K' a) :
    ∀ (l : List Oper) (a : Act), Dsts ws l → Same ws a0 a → denStill P ctl ops w K l a → wpStill P ops w K' l a
  | [], a, _, hs, h => hK a hs h
  | o :: l, a, hd, hs, h => by
    have hd' : Dsts ws l := fun o ho => hd o (by simp [ho])
    have hp : ∀ v, Same ws a0 (a.put o.dst v) := fun v => hs.put (hd o (by simp)) v
    simp only [denStill] at h
    simp only [wpStill]
    split at h
    · rename_i hw
      simp only [hw, if_true]
      obtain ⟨v, hy, hn⟩ := opQ_of h
      unfold Oper.still
      rw [hy.1]
      exact ⟨rfl, denStill_of hK l _ hd' (hp v) hn⟩
    · rename_i hw
      simp only [hw, Bool.false_eq_true, if_false]
      exact denStill_of hK l _ hd' (hp _) h

/-! ### A region that draws its order: reads are taken first; behind each operation that acts, but for the late ones, the blocks that are read are as they were. -/

/-- Whatever order is picked from here on; 'S' is shown behind each operation that is not 'late'. -/
def AnyG (P : Program) (ops : Array Oper) (Q : Exit → Act → World → Prop) (S : World → Prop) (late : List Nat) : Nat → Array Bool → Act → World → Prop
  | 0, listed, a, w => Region.ready .any ops listed = [] ∧ Q .normal a w
  | n + 1, listed, a, w => (Region.ready .any ops listed = [] → Q .normal a w) ∧
    ∀ i ∈ Region.ready .any ops listed, wpOp P ops Q i (fun a' w' => (i ∉ late → S w → S w') ∧ AnyG P ops Q S late n (listed.setIfInBounds i true) a' w') a w

theorem AnyG.any {ops : Array Oper} {Q : Exit → Act → World → Prop} {S : World → Prop} {late : List Nat} : ∀ (n : Nat) (listed : Array Bool) (a : Act) (w : World), AnyG P ops Q S late n listed a w → wpAny P .any ops Q n listed a w
  | 0, _, _, _, h => h
  | n + 1, _, _, _, h => ⟨h.1, fun i hi => wpOp_mono (fun a' w' h' => AnyG.any n _ a' w' h'.2) (h.2 i hi)⟩

theorem not_listed {ops : Array Oper} {listed : Array Bool} {i j : Nat} (hi : i ∈ Region.ready .any ops listed) (hj : j ∈ Region.ready .any ops listed) {oj : Oper} (hoj : ops[j]? = some oj) :
    ∀ e ∈ oj.after, Region.binds .any e = true → e.on ≠ i := by
  intro e he hb heq
  obtain ⟨hun, _, _, _⟩ := mem_ready.1 hi
  obtain ⟨_, oj', hoj', hall⟩ := mem_ready.1 hj
  rw [hoj] at hoj'
  cases hoj'
  have h1 := hall e he hb
  rw [heq] at h1
  rcases Nat.lt_or_ge i listed.size with h' | h'
  · simp [h'] at hun h1
    rw [hun] at h1
    cases h1
  · simp [Array.getElem?_eq_none h'] at hun

/-- A read that may come up may be taken first: whoever could come ahead of it leaves the blocks that it reads. -/
theorem AnyG.first {ops : Array Oper} {Q : Exit → Act → World → Prop} {S : World → Prop} {late : List Nat} {i : Nat} {oi : Oper} {v : Value} (hi : ops[i]? = some oi) (hsel : ∀ (j : Nat) (o : Oper) cs b, ops[j]? = some o → o.op ≠ .select cs b)
    (hQ : ∀ c a w, Q (.panic c) (a.put oi.dst v) w → Q (.panic c) a w) :
    ∀ (n : Nat) (listed : Array Bool) (a : Act) (w : World),
      (∀ j oj, ops[j]? = some oj → j ≠ i → listed.getD j true = false → (∀ e ∈ oj.after, Region.binds .any e = true → e.on ≠ i) → oi.apart ops oj = true) →
      (∃ X : List Nat, (∀ d ∈ late, d ∈ X) ∧ ∀ d ∈ X, listed.getD d true = false ∧ ∃ od, ops[d]? = some od ∧ ∃ e ∈ od.after, Region.binds .any e = true ∧ (e.on = i ∨ e.on ∈ X)) →
      i ∈ Region.ready .any ops listed → YieldsIf P ops S oi v a → S w → AnyG P ops Q S late n (listed.setIfInBounds i true) (a.put oi.dst v) w → AnyG P ops Q S late (n + 1) listed a w := by
  intro n
  induction n with
  | zero =>
    intro listed a w _ _ hr hy hS H
    refine ⟨fun h => (by rw [h] at hr; cases hr), fun j hj => ?_⟩
    by_cases hji : j = i
    · subst hji; exact hy.wpOp hi hS ⟨fun _ h => h, H⟩
    · have := ready_mono hj hji
      rw [H.1] at this
      cases this
  | succ n ih =>
    intro listed a w hfree hlate hr hy hS H
    refine ⟨fun h => (by rw [h] at hr; cases hr), fun j hj => ?_⟩
    by_cases hji : j = i
    · subst hji; exact hy.wpOp hi hS ⟨fun _ h => h, H⟩
    · have h1 := H.2 j (ready_mono hj hji)
      obtain ⟨hjun, oj, hoj, _⟩ := mem_ready.1 hj
      have hnot := not_listed hr hj hoj
      obtain ⟨X, hX1, hX2⟩ := hlate
      have hjX : j ∉ X := fun hm => by
        obtain ⟨_, od, hod, e, he, hb, hon⟩ := hX2 j hm
        rw [hoj] at hod
        cases hod
        rcases hon with hon | hon
        · exact hnot e he hb hon
        · obtain ⟨_, oj', hoj', hall⟩ := mem_ready.1 hj
          rw [hoj] at hoj'
          cases hoj'
          have h3 := hall e he hb
          have h4 := (hX2 e.on hon).1
          rcases Nat.lt_or_ge e.on listed.size with h' | h'
          · simp [h'] at h3 h4
            rw [h3] at h4
            cases h4
          · simp [Array.getElem?_eq_none h'] at h3
      have hjl : j ∉ late := fun hm => hjX (hX1 j hm)
      have h2 := wpOp_putIf hoj (hfree j oj hoj hji hjun hnot) (fun cs b => hsel i oi cs b hi) (fun cs b => hsel j oj cs b hoj) hQ hy h1
      have un : ∀ k, (listed.setIfInBounds j true).getD k true = false → listed.getD k true = false := fun k hk => by
        by_cases hjk : j = k
        · subst hjk; exact hjun
        · rwa [getD_set_ne true hjk] at hk
      refine wpOp_mono (fun a' w' h3 => ⟨h3.2.1, ih (listed.setIfInBounds j true) a' w' (fun k ok hk hki hun => hfree k ok hk hki (un k hun)) ⟨X, hX1, fun d hd => ⟨(getD_set_ne true (show j ≠ d from fun e => hjX (by rw [e]; exact hd))).trans (hX2 d hd).1, (hX2 d hd).2⟩⟩ (ready_mono hr (Ne.symm hji)) h3.1 (h3.2.1 hjl hS) ?_⟩) h2
      rw [Array.setIfInBounds_comm _ _ hji]
      exact h3.2.2

/-- The same of an operation that yields its value whatever the world. -/
theorem AnyG.firstP {ops : Array Oper} {Q : Exit → Act → World → Prop} {S : World → Prop} {late : List Nat} {i : Nat} {oi : Oper} {v : Value} (hi : ops[i]? = some oi) (hsel : ∀ (j : Nat) (o : Oper) cs b, ops[j]? = some o → o.op ≠ .select cs b)
    (hQ : ∀ c a w, Q (.panic c) (a.put oi.dst v) w → Q (.panic c) a w) :
    ∀ (n : Nat) (listed : Array Bool) (a : Act) (w : World),
      (∀ j oj, ops[j]? = some oj → j ≠ i → listed.getD j true = false → (∀ e ∈ oj.after, Region.binds .any e = true → e.on ≠ i) → oi.apart ops oj = true) →
      i ∈ Region.ready .any ops listed → YieldsIf P ops (fun _ => True) oi v a → AnyG P ops Q S late n (listed.setIfInBounds i true) (a.put oi.dst v) w → AnyG P ops Q S late (n + 1) listed a w := by
  intro n
  induction n with
  | zero =>
    intro listed a w _ hr hy H
    refine ⟨fun h => (by rw [h] at hr; cases hr), fun j hj => ?_⟩
    by_cases hji : j = i
    · subst hji; exact hy.wpOp hi trivial ⟨fun _ h => h, H⟩
    · have := ready_mono hj hji
      rw [H.1] at this
      cases this
  | succ n ih =>
    intro listed a w hfree hr hy H
    refine ⟨fun h => (by rw [h] at hr; cases hr), fun j hj => ?_⟩
    by_cases hji : j = i
    · subst hji; exact hy.wpOp hi trivial ⟨fun _ h => h, H⟩
    · have h1 := H.2 j (ready_mono hj hji)
      obtain ⟨hjun, oj, hoj, _⟩ := mem_ready.1 hj
      have hnot := not_listed hr hj hoj
      have h2 := wpOp_putIf hoj (hfree j oj hoj hji hjun hnot) (fun cs b => hsel i oi cs b hi) (fun cs b => hsel j oj cs b hoj) hQ hy h1
      have un : ∀ k, (listed.setIfInBounds j true).getD k true = false → listed.getD k true = false := fun k hk => by
        by_cases hjk : j = k
        · subst hjk; exact hjun
        · rwa [getD_set_ne true hjk] at hk
      refine wpOp_mono (fun a' w' h3 => ⟨h3.2.1, ih (listed.setIfInBounds j true) a' w' (fun k ok hk hki hun => hfree k ok hk hki (un k hun)) (ready_mono hr (Ne.symm hji)) h3.1 ?_⟩) h2
      rw [Array.setIfInBounds_comm _ _ hji]
      exact h3.2.2

/-- Does an operation wait for number 'i', or for one of 'X'? -/
def waitsFor (ops : Array Oper) (i : Nat) (X : List Nat) (d : Nat) : Bool := match ops.toList[d]? with
  | some od => od.after.toList.any fun e => Region.binds .any e && (e.on == i || X.contains e.on)
  | none => false
/-- Those that have not come up and wait for number 'i', themselves or through others. -/
def lateSet (ops : Array Oper) (listed : Array Bool) (i : Nat) : List Nat :=
  (List.range ops.size).foldl (fun X d => if !listed.getD d true && waitsFor ops i X d then d :: X else X) []
/-- None of the late operations has come up; each waits for number 'i'. -/
def lateOK (ops : Array Oper) (listed : Array Bool) (late : List Nat) (i : Nat) : Bool := match late with
  | [] => true
  | d :: r => (d :: r).all (fun d => (lateSet ops listed i).contains d) && (lateSet ops listed i).all fun d => !listed.getD d true && waitsFor ops i (lateSet ops listed i) d

theorem lateOK_spec {ops : Array Oper} {listed : Array Bool} {late : List Nat} {i : Nat} (h : lateOK ops listed late i = true) :
    ∃ X : List Nat, (∀ d ∈ late, d ∈ X) ∧ ∀ d ∈ X, listed.getD d true = false ∧ ∃ od, ops[d]? = some od ∧ ∃ e ∈ od.after, Region.binds .any e = true ∧ (e.on = i ∨ e.on ∈ X) := by
  unfold lateOK at h
  split at h
  · exact ⟨[], by simp, by simp⟩
  · rename_i d r
    obtain ⟨X, hX⟩ : ∃ X, X = lateSet ops listed i := ⟨_, rfl⟩
    rw [← hX] at h
    simp only [Bool.and_eq_true] at h
    refine ⟨X, fun d' hd' => by simpa using List.all_eq_true.1 h.1 d' hd', fun d' hd' => ?_⟩
    have h2 := List.all_eq_true.1 h.2 d' hd'
    simp only [Bool.and_eq_true, Bool.not_eq_true'] at h2
    refine ⟨h2.1, ?_⟩
    have h3 := h2.2
    unfold waitsFor at h3
    split at h3
    · rename_i od hod
      obtain ⟨e, he, hb⟩ := List.any_eq_true.1 h3
      simp only [Bool.and_eq_true, Bool.or_eq_true, beq_iff_eq, List.contains_iff_mem] at hb
      exact ⟨od, by simpa using hod, e, by simpa using he, hb.1, hb.2⟩
    · cases h3

/-- The order in which a region is walked is one that serves every order. -/
def schedOK (P : Program) (ops : Array Oper) (late : List Nat) : List Nat → Array Bool → Bool
  | [], listed => (Region.ready .any ops listed).isEmpty
  | i :: rest, listed => (match ops.toList[i]? with
    | some o => (if qk P o then (Region.ready .any ops listed).contains i && Region.free .any ops listed i && (!wq o || lateOK ops listed late i) else Region.ready .any ops listed == [i])
    | none => false) && schedOK P ops late rest (listed.setIfInBounds i true)

theorem denHeld_of {ops : Array Oper} {B late : List Nat} {w0 : World} {K : Act → World → Prop} {Q : Exit → Act → World → Prop} {ws : List Nat} {a0 : Act} (hsel : Region.noSelect ops = true) (hQ : ∀ a w, Same ws a0 a → K a w → Q .normal a w)
    (hpan : ∀ c a w, ¬ Q (.panic c) a w) (hd : Dsts ws ops.toList) :
    ∀ (l : List Nat) (n : Nat) (listed : Array Bool) (a : Act) (w : World), l.length ≤ n → schedOK P ops late l listed = true → ((∀ d ∈ late, listed.getD d true = false) → keepB B w0 w) → Same ws a0 a → denHeld P ctl ops B late w0 K l a w →
      AnyG P ops Q (keepB B w0) late n listed a w
  | [], n, listed, a, w, _, hs, _, hsm, h => by
    simp only [schedOK, List.isEmpty_iff] at hs
    cases n with
    | zero => exact ⟨hs, hQ _ _ hsm h⟩
    | succ n => exact ⟨fun _ => hQ _ _ hsm h, by rw [hs]; simp⟩
  | i :: l, n, listed, a, w, hn, hs, hk, hsm, h => by
    obtain ⟨n, rfl⟩ : ∃ m, n = m + 1 := ⟨n - 1, by simp at hn; omega⟩
    simp only [schedOK, Bool.and_eq_true] at hs
    obtain ⟨hs1, hs2⟩ := hs
    simp only [denHeld] at h
    have un : ∀ d, (listed.setIfInBounds i true).getD d true = false → d ≠ i ∧ listed.getD d true = false := fun d hd => by
      by_cases hid : i = d
      · subst hid
        by_cases hlt : i < listed.size
        · simp [hlt] at hd
        · simp [hlt] at hd
      · exact ⟨fun e => hid e.symm, by rwa [getD_set_ne true hid] at hd⟩
    split at h
    · exact h.elim
    · rename_i o ho
      simp only [ho] at hs1
      have ho' : ops[i]? = some o := by simpa using ho
      have hp : ∀ v, Same ws a0 (a.put o.dst v) := fun v => hsm.put (hd o (List.mem_of_getElem? ho)) v
      have hln : l.length ≤ n := by simp at hn; omega
      by_cases hq : qk P o = true
      · simp only [hq, if_true, Bool.and_eq_true] at hs1
        obtain ⟨⟨hr, hf⟩, hl⟩ := hs1
        by_cases hwq : wq o = true
        · simp only [hwq, Bool.not_true, Bool.false_or] at hl
          have hl' := lateOK_spec hl
          have hkw : keepB B w0 w := hk fun d hd => by obtain ⟨X, h1, h2⟩ := hl'; exact (h2 d (h1 d hd)).1
          have hy : ∃ v, YieldsIf P ops (keepB B w0) o v a ∧ denHeld P ctl ops B late w0 K l (a.put o.dst v) w := by
            split at h
            · rename_i hw
              exact ⟨undef, .inr ⟨hw, rfl⟩, h⟩
            · rename_i hw
              simp only [hq, hwq] at h
              obtain ⟨v, hy, hn⟩ := opQ_of h
              exact ⟨v, .inl ⟨hw, fun w' hw' => hy.2 B rfl w' (fun b hb => (hw' b hb).trans (hkw b hb).symm)⟩, hn⟩
          obtain ⟨v, hy, hdn⟩ := hy
          exact AnyG.first ho' (Region.noSelect_spec hsel) (fun c a w hp => absurd hp (hpan _ _ _)) n listed a w (Region.free_spec ho' hf) hl' (by simpa using hr) hy hkw
            (denHeld_of hsel hQ hpan hd l n _ _ _ hln hs2 (fun hu => hk fun d hd => (un d (hu d hd)).2) (hp v) hdn)
        · have hwq' : wq o = false := by simpa using hwq
          have hy : ∃ v, YieldsIf P ops (fun _ => True) o v a ∧ denHeld P ctl ops B late w0 K l (a.put o.dst v) w := by
            split at h
            · rename_i hw
              exact ⟨undef, .inr ⟨hw, rfl⟩, h⟩
            · rename_i hw
              simp only [hq, hwq'] at h
              obtain ⟨v, hy, hn⟩ := opQ_of h
              exact ⟨v, .inl ⟨hw, fun w' _ => hy.2 [] rfl w' (fun b hb => by cases hb)⟩, hn⟩
          obtain ⟨v, hy, hdn⟩ := hy
          exact AnyG.firstP ho' (Region.noSelect_spec hsel) (fun c a w hp => absurd hp (hpan _ _ _)) n listed a w (Region.free_spec ho' hf) (by simpa using hr) hy
            (denHeld_of hsel hQ hpan hd l n _ _ _ hln hs2 (fun hu => hk fun d hd => (un d (hu d hd)).2) (hp v) hdn)
      · have hq' : qk P o = false := by simpa using hq
        simp only [hq', Bool.false_eq_true, if_false, beq_iff_eq] at hs1
        refine ⟨fun h0 => by rw [hs1] at h0; simp at h0, fun j hj => ?_⟩
        rw [hs1] at hj
        simp only [List.mem_singleton] at hj
        subst hj
        unfold wpOp
        simp only [ho']
        split at h
        · rename_i hw
          simp only [hw, Bool.false_eq_true, if_false]
          exact ⟨fun _ h => h, denHeld_of hsel hQ hpan hd l n _ _ _ hln hs2 (fun hu => hk fun d hd => (un d (hu d hd)).2) (hp _) h⟩
        · rename_i hw
          simp only [hw, if_true]
          simp only [hq'] at h
          refine .inl (Oper.wp_mono ?_ (opM_of h))
          rintro a' w' ⟨hl, u, rfl⟩
          unfold lateK at hl
          split at hl
          · rename_i hlt
            have hm : j ∈ late := by simpa using hlt
            exact ⟨fun hn => absurd hm hn, denHeld_of hsel hQ hpan hd l n _ _ _ hln hs2 (fun hu => absurd rfl (un j (hu j hm)).1) (hp u) hl⟩
          · exact ⟨fun _ _ => hl.1, denHeld_of hsel hQ hpan hd l n _ _ _ hln hs2 (fun _ => hl.1) (hp u) hl.2⟩

/-! ### A region in parts -/

theorem AnyG.weaken {ops : Array Oper} {Q : Exit → Act → World → Prop} {S S' : World → Prop} {late late' : List Nat} : ∀ (n : Nat) (listed : Array Bool) (a : Act) (w : World), (∀ d, listed.getD d true = false → d ∈ late) → AnyG P ops Q S' late' n listed a w → AnyG P ops Q S late n listed a w
  | 0, _, _, _, _, h => h
  | n + 1, listed, _, _, hall, h => ⟨h.1, fun i hi => wpOp_mono (fun a' w' h' => ⟨fun hn => absurd (hall i (mem_ready.1 hi).1) hn, AnyG.weaken n _ a' w' (fun d hd => hall d (by
    by_cases hid : i = d
    · subst hid; exact (mem_ready.1 hi).1
    · rwa [getD_set_ne true hid] at hd)) h'.2⟩) (h.2 i hi)⟩

def schedSeg (P : Program) (ops : Array Oper) (late : List Nat) : List Nat → Array Bool → Bool
  | [], _ => true
  | i :: rest, listed => (match ops.toList[i]? with
    | some o => (if qk P o then (Region.ready .any ops listed).contains i && Region.free .any ops listed i && (!wq o || lateOK ops listed late i) else Region.ready .any ops listed == [i])
    | none => false) && schedSeg P ops late rest (listed.setIfInBounds i true)
def listedBy : List Nat → Array Bool → Array Bool
  | [], listed => listed
  | i :: r, listed => listedBy r (listed.setIfInBounds i true)

theorem denSeg_of {ops : Array Oper} {B late : List Nat} {w0 : World} {K : Act → World → Prop} {Q : Exit → Act → World → Prop} {ws : List Nat} {a0 : Act} {lend : Array Bool} {m : Nat} (hsel : Region.noSelect ops = true)
    (hE : ∀ n a w, m ≤ n → Same ws a0 a → K a w → AnyG P ops Q (keepB B w0) late n lend a w) (hpan : ∀ c a w, ¬ Q (.panic c) a w) (hd : Dsts ws ops.toList) :
    ∀ (l : List Nat) (n : Nat) (listed : Array Bool) (a : Act) (w : World), l.length + m ≤ n → listedBy l listed = lend → schedSeg P ops late l listed = true → ((∀ d ∈ late, listed.getD d true = false) → keepB B w0 w) → Same ws a0 a → denHeld P ctl ops B late w0 K l a w →
      AnyG P ops Q (keepB B w0) late n listed a w
  | [], n, listed, a, w, hn, hle, _, _, hsm, h => by
    simp only [listedBy] at hle
    subst hle
    exact hE n a w (by simpa using hn) hsm h
  | i :: l, n, listed, a, w, hn, hle, hs, hk, hsm, h => by
    obtain ⟨n, rfl⟩ : ∃ m, n = m + 1 := ⟨n - 1, by simp at hn; omega⟩
    simp only [schedSeg, Bool.and_eq_true] at hs
    obtain ⟨hs1, hs2⟩ := hs
    simp only [denHeld] at h
    have un : ∀ d, (listed.setIfInBounds i true).getD d true = false → d ≠ i ∧ listed.getD d true = false := fun d hd => by
      by_cases hid : i = d
      · subst hid
        by_cases hlt : i < listed.size
        · simp [hlt] at hd
        · simp [hlt] at hd
      · exact ⟨fun e => hid e.symm, by rwa [getD_set_ne true hid] at hd⟩
    split at h
    · exact h.elim
    · rename_i o ho
      simp only [ho] at hs1
      have ho' : ops[i]? = some o := by simpa using ho
      have hp : ∀ v, Same ws a0 (a.put o.dst v) := fun v => hsm.put (hd o (List.mem_of_getElem? ho)) v
      have hln : l.length + m ≤ n := by simp at hn; omega
      by_cases hq : qk P o = true
      · simp only [hq, if_true, Bool.and_eq_true] at hs1
        obtain ⟨⟨hr, hf⟩, hl⟩ := hs1
        by_cases hwq : wq o = true
        · simp only [hwq, Bool.not_true, Bool.false_or] at hl
          have hl' := lateOK_spec hl
          have hkw : keepB B w0 w := hk fun d hd => by obtain ⟨X, h1, h2⟩ := hl'; exact (h2 d (h1 d hd)).1
          have hy : ∃ v, YieldsIf P ops (keepB B w0) o v a ∧ denHeld P ctl ops B late w0 K l (a.put o.dst v) w := by
            split at h
            · rename_i hw
              exact ⟨undef, .inr ⟨hw, rfl⟩, h⟩
            · rename_i hw
              simp only [hq, hwq] at h
              obtain ⟨v, hy, hn⟩ := opQ_of h
              exact ⟨v, .inl ⟨hw, fun w' hw' => hy.2 B rfl w' (fun b hb => (hw' b hb).trans (hkw b hb).symm)⟩, hn⟩
          obtain ⟨v, hy, hdn⟩ := hy
          exact AnyG.first ho' (Region.noSelect_spec hsel) (fun c a w hp => absurd hp (hpan _ _ _)) n listed a w (Region.free_spec ho' hf) hl' (by simpa using hr) hy hkw
            (denSeg_of hsel hE hpan hd l n _ _ _ hln hle hs2 (fun hu => hk fun d hd => (un d (hu d hd)).2) (hp v) hdn)
        · have hwq' : wq o = false := by simpa using hwq
          have hy : ∃ v, YieldsIf P ops (fun _ => True) o v a ∧ denHeld P ctl ops B late w0 K l (a.put o.dst v) w := by
            split at h
            · rename_i hw
              exact ⟨undef, .inr ⟨hw, rfl⟩, h⟩
            · rename_i hw
              simp only [hq, hwq'] at h
              obtain ⟨v, hy, hn⟩ := opQ_of h
              exact ⟨v, .inl ⟨hw, fun w' _ => hy.2 [] rfl w' (fun b hb => by cases hb)⟩, hn⟩
          obtain ⟨v, hy, hdn⟩ := hy
          exact AnyG.firstP ho' (Region.noSelect_spec hsel) (fun c a w hp => absurd hp (hpan _ _ _)) n listed a w (Region.free_spec ho' hf) (by simpa using hr) hy
            (denSeg_of hsel hE hpan hd l n _ _ _ hln hle hs2 (fun hu => hk fun d hd => (un d (hu d hd)).2) (hp v) hdn)
      · have hq' : qk P o = false := by simpa using hq
        simp only [hq', Bool.false_eq_true, if_false, beq_iff_eq] at hs1
        refine ⟨fun h0 => by rw [hs1] at h0; simp at h0, fun j hj => ?_⟩
        rw [hs1] at hj
        simp only [List.mem_singleton] at hj
        subst hj
        unfold wpOp
        simp only [ho']
        split at h
        · rename_i hw
          simp only [hw, Bool.false_eq_true, if_false]
          exact ⟨fun _ h => h, denSeg_of hsel hE hpan hd l n _ _ _ hln hle hs2 (fun hu => hk fun d hd => (un d (hu d hd)).2) (hp _) h⟩
        · rename_i hw
          simp only [hw, if_true]
          simp only [hq'] at h
          refine .inl (Oper.wp_mono ?_ (opM_of h))
          rintro a' w' ⟨hl, u, rfl⟩
          unfold lateK at hl
          split at hl
          · rename_i hlt
            have hm : j ∈ late := by simpa using hlt
            exact ⟨fun hn => absurd hm hn, denSeg_of hsel hE hpan hd l n _ _ _ hln hle hs2 (fun hu => absurd rfl (un j (hu j hm)).1) (hp u) hl⟩
          · exact ⟨fun _ _ => hl.1, denSeg_of hsel hE hpan hd l n _ _ _ hln hle hs2 (fun _ => hl.1) (hp u) hl.2⟩

def partsOK (P : Program) (ops : Array Oper) : List (List Nat × List Nat) → Array Bool → Bool
  | [], listed => (Region.ready .any ops listed).isEmpty
  | (s, late) :: r, listed => (schedSeg P ops late s listed && (List.range (listedBy s listed).size).all fun d => (listedBy s listed).getD d true || late.contains d) && partsOK P ops r (listedBy s listed)
def partsLen : List (List Nat × List Nat) → Nat
  | [] => 0
  | (s, _) :: r => s.length + partsLen r

theorem denParts_of {ops : Array Oper} {K : Act → World → Prop} {Q : Exit → Act → World → Prop} {ws : List Nat} {a0 : Act} (hsel : Region.noSelect ops = true) (hQ : ∀ a w, Same ws a0 a → K a w → Q .normal a w)
    (hpan : ∀ c a w, ¬ Q (.panic c) a w) (hd : Dsts ws ops.toList) :
    ∀ (segs : List (List Nat × List Nat)) (n : Nat) (listed : Array Bool) (a : Act) (w : World) (S : World → Prop) (late0 : List Nat), (∀ d, listed.getD d true = false → d ∈ late0) → partsLen segs ≤ n → partsOK P ops segs listed = true → Same ws a0 a → denParts P ctl ops segs K a w →
      AnyG P ops Q S late0 n listed a w
  | [], n, listed, a, w, S, late0, _, _, hs, hsm, h => by
    simp only [partsOK, List.isEmpty_iff] at hs
    cases n with
    | zero => exact ⟨hs, hQ _ _ hsm h⟩
    | succ n => exact ⟨fun _ => hQ _ _ hsm h, by rw [hs]; simp⟩
  | (s, late) :: r, n, listed, a, w, S, late0, hu, hn, hs, hsm, h => by
    obtain ⟨B, h⟩ := h
    simp only [partsOK, Bool.and_eq_true] at hs
    obtain ⟨⟨hs1, hs2⟩, hs3⟩ := hs
    refine AnyG.weaken (S' := keepB B w) (late' := late) n listed a w hu ?_
    refine denSeg_of (lend := listedBy s listed) (m := partsLen r) hsel (fun n' a' w' hn' hsm' hk => denParts_of hsel hQ hpan hd r n' _ a' w' _ _ (fun d hd' => ?_) hn' hs3 hsm' hk) hpan hd s n listed a w (by simpa [partsLen] using hn) rfl hs1 (fun _ _ _ => rfl) hsm h
    have hlt : d < (listedBy s listed).size := by
      rcases Nat.lt_or_ge d (listedBy s listed).size with z | z
      · exact z
      · rw [Array.getD_eq_getD_getElem?, Array.getElem?_eq_none z] at hd'; cases hd'
    have := List.all_eq_true.1 hs2 d (List.mem_range.2 hlt)
    rw [hd', Bool.false_or] at this
    simpa using this

/-! ### The same of a region two of whose acting operations may come in either order -/

def Sched.depth : Sched → Nat
  | .nil => 0
  | .op _ r => r.depth + 1
  | .fork _ x _ y => Nat.max x.depth y.depth + 1

def treeOK (P : Program) (ops : Array Oper) (late : List Nat) : Sched → Array Bool → Bool
  | .nil, listed => (Region.ready .any ops listed).isEmpty
  | .op i r, listed => (match ops.toList[i]? with
    | some o => (if qk P o then (Region.ready .any ops listed).contains i && Region.free .any ops listed i && (!wq o || lateOK ops listed late i) else Region.ready .any ops listed == [i])
    | none => false) && treeOK P ops late r (listed.setIfInBounds i true)
  | .fork i x j y, listed => (match ops.toList[i]?, ops.toList[j]? with
    | some o, some o' => !qk P o && !qk P o' && Region.ready .any ops listed == [i, j]
    | _, _ => false) && treeOK P ops late x (listed.setIfInBounds i true) && treeOK P ops late y (listed.setIfInBounds j true)

theorem un_set {listed : Array Bool} {i d : Nat} (hd : (listed.setIfInBounds i true).getD d true = false) : d ≠ i ∧ listed.getD d true = false := by
  by_cases hid : i = d
  · subst hid
    by_cases hlt : i < listed.size
    · simp [hlt] at hd
    · simp [hlt] at hd
  · exact ⟨fun e => hid e.symm, by rwa [getD_set_ne true hid] at hd⟩

/-- An operation that acts. -/
theorem actT_of {ops : Array Oper} {B late : List Nat} {w0 : World} {next : Act → World → Prop} {R : Act → World → Prop} {Q : Exit → Act → World → Prop} {ws : List Nat} {a0 : Act} (hd : Dsts ws ops.toList) {j : Nat} {o : Oper} (ho : ops.toList[j]? = some o) (hq : qk P o = false)
    {listed : Array Bool} (hsm : Same ws a0 a) (hk : (∀ d ∈ late, listed.getD d true = false) → keepB B w0 w) (hR : ∀ a' w', Same ws a0 a' → ((∀ d ∈ late, (listed.setIfInBounds j true).getD d true = false) → keepB B w0 w') → next a' w' → R a' w')
    (h : actT P ctl ops B late w0 j a w next) : wpOp P ops Q j (fun a' w' => (j ∉ late → keepB B w0 w → keepB B w0 w') ∧ R a' w') a w := by
  have ho' : ops[j]? = some o := by simpa using ho
  have hp : ∀ v, Same ws a0 (a.put o.dst v) := fun v => hsm.put (hd o (List.mem_of_getElem? ho)) v
  unfold wpOp
  unfold actT at h
  simp only [ho'] 
  simp only [ho, hq] at h
  split at h
  · rename_i hw
    simp only [hw, Bool.false_eq_true, if_false]
    exact ⟨fun _ h => h, hR _ _ (hp _) (fun hu => hk fun d hd => (un_set (hu d hd)).2) h⟩
  · rename_i hw
    simp only [hw, if_true]
    refine .inl (Oper.wp_mono ?_ (opM_of h))
    rintro a' w' ⟨hl, u, rfl⟩
    unfold lateK at hl
    split at hl
    · rename_i hlt
      have hm : j ∈ late := by simpa using hlt
      exact ⟨fun hn => absurd hm hn, hR _ _ (hp u) (fun hu => absurd rfl (un_set (hu j hm)).1) hl⟩
    · exact ⟨fun _ _ => hl.1, hR _ _ (hp u) (fun _ => hl.1) hl.2⟩

theorem denTree_of {ops : Array Oper} {B late : List Nat} {w0 : World} {K : Act → World → Prop} {Q : Exit → Act → World → Prop} {ws : List Nat} {a0 : Act} (hsel : Region.noSelect ops = true) (hQ : ∀ a w, Same ws a0 a → K a w → Q .normal a w)
    (hpan : ∀ c a w, ¬ Q (.panic c) a w) (hd : Dsts ws ops.toList) :
    ∀ (l : Sched) (n : Nat) (listed : Array Bool) (a : Act) (w : World), l.depth ≤ n → treeOK P ops late l listed = true → ((∀ d ∈ late, listed.getD d true = false) → keepB B w0 w) → Same ws a0 a → denTree P ctl ops B late w0 K l a w →
      AnyG P ops Q (keepB B w0) late n listed a w
  | .nil, n, listed, a, w, _, hs, _, hsm, h => by
    simp only [treeOK, List.isEmpty_iff] at hs
    cases n with
    | zero => exact ⟨hs, hQ _ _ hsm h⟩
    | succ n => exact ⟨fun _ => hQ _ _ hsm h, by rw [hs]; simp⟩
  | .op i l, n, listed, a, w, hn, hs, hk, hsm, h => by
    obtain ⟨n, rfl⟩ : ∃ m, n = m + 1 := ⟨n - 1, by simp [Sched.depth] at hn; omega⟩
    simp only [treeOK, Bool.and_eq_true] at hs
    obtain ⟨hs1, hs2⟩ := hs
    simp only [denTree] at h
    have un : ∀ d, (listed.setIfInBounds i true).getD d true = false → d ≠ i ∧ listed.getD d true = false := fun d hd => un_set hd
    have hln : l.depth ≤ n := by simp [Sched.depth] at hn; omega
    cases ho : ops.toList[i]? with
    | none => simp [ho] at hs1
    | some o =>
      simp only [ho] at hs1
      have ho' : ops[i]? = some o := by simpa using ho
      have hp : ∀ v, Same ws a0 (a.put o.dst v) := fun v => hsm.put (hd o (List.mem_of_getElem? ho)) v
      by_cases hq : qk P o = true
      · simp only [hq, if_true, Bool.and_eq_true] at hs1
        simp only [actT, ho, hq] at h
        obtain ⟨⟨hr, hf⟩, hl⟩ := hs1
        by_cases hwq : wq o = true
        · simp only [hwq, Bool.not_true, Bool.false_or] at hl
          have hl' := lateOK_spec hl
          have hkw : keepB B w0 w := hk fun d hd => by obtain ⟨X, h1, h2⟩ := hl'; exact (h2 d (h1 d hd)).1
          have hy : ∃ v, YieldsIf P ops (keepB B w0) o v a ∧ denTree P ctl ops B late w0 K l (a.put o.dst v) w := by
            split at h
            · rename_i hw
              exact ⟨undef, .inr ⟨hw, rfl⟩, h⟩
            · rename_i hw
              simp only [hwq] at h
              obtain ⟨v, hy, hn⟩ := opQ_of h
              exact ⟨v, .inl ⟨hw, fun w' hw' => hy.2 B rfl w' (fun b hb => (hw' b hb).trans (hkw b hb).symm)⟩, hn⟩
          obtain ⟨v, hy, hdn⟩ := hy
          exact AnyG.first ho' (Region.noSelect_spec hsel) (fun c a w hp => absurd hp (hpan _ _ _)) n listed a w (Region.free_spec ho' hf) hl' (by simpa using hr) hy hkw
            (denTree_of hsel hQ hpan hd l n _ _ _ hln hs2 (fun hu => hk fun d hd => (un d (hu d hd)).2) (hp v) hdn)
        · have hwq' : wq o = false := by simpa using hwq
          have hy : ∃ v, YieldsIf P ops (fun _ => True) o v a ∧ denTree P ctl ops B late w0 K l (a.put o.dst v) w := by
            split at h
            · rename_i hw
              exact ⟨undef, .inr ⟨hw, rfl⟩, h⟩
            · rename_i hw
              simp only [hwq'] at h
              obtain ⟨v, hy, hn⟩ := opQ_of h
              exact ⟨v, .inl ⟨hw, fun w' _ => hy.2 [] rfl w' (fun b hb => by cases hb)⟩, hn⟩
          obtain ⟨v, hy, hdn⟩ := hy
          exact AnyG.firstP ho' (Region.noSelect_spec hsel) (fun c a w hp => absurd hp (hpan _ _ _)) n listed a w (Region.free_spec ho' hf) (by simpa using hr) hy
            (denTree_of hsel hQ hpan hd l n _ _ _ hln hs2 (fun hu => hk fun d hd => (un d (hu d hd)).2) (hp v) hdn)
      · have hq' : qk P o = false := by simpa using hq
        simp only [hq', Bool.false_eq_true, if_false, beq_iff_eq] at hs1
        refine ⟨fun h0 => by rw [hs1] at h0; simp at h0, fun j hj => ?_⟩
        rw [hs1] at hj
        simp only [List.mem_singleton] at hj
        subst hj
        exact actT_of hd ho hq' hsm hk (fun a' w' hsm' hk' hn => denTree_of hsel hQ hpan hd l n _ _ _ hln hs2 hk' hsm' hn) h
  | .fork i x j y, n, listed, a, w, hn, hs, hk, hsm, h => by
    obtain ⟨n, rfl⟩ : ∃ m, n = m + 1 := ⟨n - 1, by simp [Sched.depth] at hn; omega⟩
    simp only [treeOK, Bool.and_eq_true] at hs
    obtain ⟨⟨hs1, hs2⟩, hs3⟩ := hs
    simp only [denTree] at h
    have hlx : x.depth ≤ n := by simp [Sched.depth] at hn; exact Nat.le_trans (Nat.le_max_left _ _) hn
    have hly : y.depth ≤ n := by simp [Sched.depth] at hn; exact Nat.le_trans (Nat.le_max_right _ _) hn
    cases ho : ops.toList[i]? with
    | none => simp [ho] at hs1
    | some o =>
      cases ho2 : ops.toList[j]? with
      | none => simp [ho, ho2] at hs1
      | some o2 =>
        simp only [ho, ho2, Bool.and_eq_true, Bool.not_eq_true', beq_iff_eq] at hs1
        obtain ⟨⟨hq, hq2⟩, hr⟩ := hs1
        refine ⟨fun h0 => by rw [hr] at h0; simp at h0, fun k hk' => ?_⟩
        rw [hr] at hk'
        simp only [List.mem_cons, List.not_mem_nil, or_false] at hk'
        rcases hk' with rfl | rfl
        · exact actT_of hd ho hq hsm hk (fun a' w' hsm' hk' hn => denTree_of hsel hQ hpan hd x n _ _ _ hlx hs2 hk' hsm' hn) h.1
        · exact actT_of hd ho2 hq2 hsm hk (fun a' w' hsm' hk' hn => denTree_of hsel hQ hpan hd y n _ _ _ hly hs3 hk' hsm' hn) h.2

def regOK (P : Program) (k : RK) (ops : Array Oper) (draw : Bool) : Bool := match k, draw with
  | .seq, false => true
  | .still, true => Region.lexB .any ops
  | .tail n, true => Region.lexTailB .any ops n
  | .held s late, true => Region.noSelect ops && decide (s.length ≤ ops.size) && schedOK P ops late s (Array.replicate ops.size false)
  | .tree s late, true => Region.noSelect ops && decide (s.depth ≤ ops.size) && treeOK P ops late s (Array.replicate ops.size false)
  | .parts segs, true => Region.noSelect ops && decide (partsLen segs ≤ ops.size) && partsOK P ops segs (Array.replicate ops.size false)
  | _, _ => false

theorem denReg_of {k : RK} {id : Nat} {ops : Array Oper} {draw : Bool} {K : Act → World → Prop} {Q : Exit → Act → World → Prop} {ws : List Nat} (hm : P.follows .mixedOrders = true) (hok : regOK P k ops draw = true)
    (hQ : ∀ a' w, Same ws a a' → K a' w → Q .normal a' w) (hpan : ∀ c a w, ¬ Q (.panic c) a w) (hd : Dsts ws ops.toList) (h : denReg P ctl k ops draw K a w) : (Code.region id ops draw).wp P Q a w := by
  obtain ⟨l⟩ := ops
  unfold denReg at h
  split at h
  · exact wp_region_lit (denList_of hQ _ _ _ hd (Same.refl _ _) h)
  · exact wp_region_still_lit hm (by simpa [regOK] using hok) (denStill_of (fun a hs h => hQ _ _ hs h) _ _ hd (Same.refl _ _) h)
  · rename_i n
    exact wp_region_still_tail n hm (by simpa [regOK] using hok)
      (denStill_of (fun a hs h => denList_of hQ _ _ _ (fun o ho => hd o (List.mem_of_mem_drop ho)) hs h) _ _ (fun o ho => hd o (List.mem_of_mem_take ho)) (Same.refl _ _) h)
  · rename_i s late
    simp only [regOK, Bool.and_eq_true, decide_eq_true_eq] at hok
    obtain ⟨B, h⟩ := h
    exact wp_region_any hm (AnyG.any _ _ _ _ (denHeld_of hok.1.1 hQ hpan hd s _ _ _ _ hok.1.2 hok.2 (fun _ _ _ => rfl) (Same.refl _ _) h))
  · rename_i s late
    simp only [regOK, Bool.and_eq_true, decide_eq_true_eq] at hok
    obtain ⟨B, h⟩ := h
    exact wp_region_any hm (AnyG.any _ _ _ _ (denTree_of hok.1.1 hQ hpan hd s _ _ _ _ hok.1.2 hok.2 (fun _ _ _ => rfl) (Same.refl _ _) h))
  · rename_i segs
    simp only [regOK, Bool.and_eq_true, decide_eq_true_eq] at hok
    refine wp_region_any hm (AnyG.any _ _ _ _ (denParts_of hok.1.1 hQ hpan hd segs _ _ _ _ (fun _ => True) (List.range (List.toArray l).size) (fun d hd' => ?_) hok.1.2 hok.2 (Same.refl _ _) h))
    rw [List.mem_range]
    rcases Nat.lt_or_ge d (List.toArray l).size with z | z
    · exact z
    · rw [Array.getD_eq_getD_getElem?, Array.getElem?_eq_none (by simpa using z)] at hd'; cases hd'
  · exact h.elim

end Go.Den
