/-
  An own engine, no program in sight: 'den', a syntactic weakest precondition over the model's Code, in a normal form over typed values; it is sound for 'Calls'.
-/
import Derived.Tactics
import Derived.StillTail
import Derived.OrdersHeld
import Derived.Laws.World
import Derived.KernelRfl
namespace Go.Den
open Go

/-! ### Shapes -/

inductive Sh where
  | int (k : IntKind) | bool | str | ptr | slice | map | any

inductive Ty1 where
  | one (s : Sh) | agg (l : List Sh) | big

def exS : Sh → (Value → Prop) → Prop
  | .int k, K => ∃ n : Int, K (.int k n)
  | .bool, K => ∃ b : Bool, K (.bool b)
  | .str, K => ∃ s : ByteArray, K (.string s)
  | .ptr, K => ∃ p : Option Addr, K (.pointer p)
  | .slice, K => ∃ (a : Option Addr) (l c : Nat), K (.slice a l c)
  | .map, K => ∃ r : Option Nat, K (.map r)
  | .any, K => ∃ v : Value, K v

def exL : List Sh → (List Value → Prop) → Prop
  | [], K => K []
  | s :: ss, K => exS s fun v => exL ss fun vs => K (v :: vs)

def exT : Ty1 → (Value → Prop) → Prop
  | .one s, K => exS s K
  | .agg l, K => exL l fun vs => K (.agg vs.toArray)
  | .big, K => ∃ cs : Array Value, K (.agg cs)

def exTs : List Ty1 → (List Value → Prop) → Prop
  | [], K => K []
  | t :: ts, K => exT t fun v => exTs ts fun vs => K (v :: vs)

def exR : List Ty1 → (Value → Prop) → Prop
  | [], K => K (.tuple #[])
  | [t], K => exT t K
  | ts, K => exTs ts fun vs => K (.tuple vs.toArray)

theorem exS_of {s : Sh} {K : Value → Prop} (h : exS s K) : ∃ v, K v := by
  cases s <;> simp only [exS] at h
  case int => exact ⟨_, h.choose_spec⟩
  case bool => exact ⟨_, h.choose_spec⟩
  case str => exact ⟨_, h.choose_spec⟩
  case ptr => exact ⟨_, h.choose_spec⟩
  case slice => obtain ⟨a, l, c, h⟩ := h; exact ⟨_, h⟩
  case map => exact ⟨_, h.choose_spec⟩
  case any => exact h

theorem exL_of : ∀ {l : List Sh} {K : List Value → Prop}, exL l K → ∃ vs, vs.length = l.length ∧ K vs
  | [], _, h => ⟨[], rfl, h⟩
  | _ :: _, _, h => by
    obtain ⟨v, h⟩ := exS_of h
    obtain ⟨vs, hl, h⟩ := exL_of h
    exact ⟨v :: vs, by simp [hl], h⟩

theorem exT_of {t : Ty1} {K : Value → Prop} (h : exT t K) : ∃ v, K v := by
  cases t with
  | one s => exact exS_of h
  | agg l => obtain ⟨vs, _, h⟩ := exL_of h; exact ⟨_, h⟩
  | big => obtain ⟨cs, h⟩ := h; exact ⟨_, h⟩

theorem exTs_of : ∀ {l : List Ty1} {K : List Value → Prop}, exTs l K → ∃ vs, K vs
  | [], _, h => ⟨[], h⟩
  | _ :: _, _, h => by
    obtain ⟨v, h⟩ := exT_of h
    obtain ⟨vs, h⟩ := exTs_of h
    exact ⟨v :: vs, h⟩

theorem exR_of {l : List Ty1} {K : Value → Prop} (h : exR l K) : ∃ v, K v := by
  match l, h with
  | [], h => exact ⟨_, h⟩
  | [_], h => exact exT_of h
  | _ :: _ :: _, h => obtain ⟨vs, h⟩ := exTs_of h; exact ⟨_, h⟩

/-- The cells of a type, in order. -/
def shs (P : Program) : Nat → TypeId → List Sh
  | 0, _ => []
  | d + 1, t => match P.underlying t with
    | some (.int k) => [.int k]
    | some .bool => [.bool]
    | some .string => [.str]
    | some (.pointer _) => [.ptr]
    | some (.slice _) => [.slice]
    | some (.map _ _) => [.map]
    | some (.struct fs) => fs.toList.flatMap fun f => shs P d f.type
    | some (.array n e) => (List.replicate n (shs P d e)).flatten
    | _ => [.any]

def isAgg (P : Program) (t : TypeId) : Bool := match P.underlying t with
  | some (.struct _) | some (.array _ _) => true
  | _ => false

def ty (P : Program) (t : TypeId) : Ty1 :=
  if isAgg P t then (if P.cellsOf t ≤ 24 then .agg (shs P 8 t) else .big) else .one ((shs P 1 t).headD .any)

/-! ### Combinators of the normal form -/

def spl (b : Bool) (X Y : Prop) : Prop := (b = true → X) ∧ (b = false → Y)

def nilK (p : Option Addr) (K : Addr → Prop) : Prop := match p with
  | some a => K a
  | none => False

def mulc (n k : Nat) : Nat := if k = 1 then n else n * k

def runK {α : Type} (r : Result α) (K : α → World → Prop) : Prop := ∃ v w', r = .ok v w' ∧ K v w'
def runQ {α : Type} (r : Result α) (w : World) (K : α → Prop) : Prop := ∃ v, r = .ok v w ∧ K v

def inB (B : Option (List Nat)) (b : Nat) (X : Prop) : Prop := match B with
  | none => X
  | some bs => b ∈ bs ∧ X

def cellsAre (w : World) (a : Addr) : Nat → List Value → Prop
  | _, [] => True
  | i, [v] => w.cell? (a.add i) = some v
  | i, v :: vs => w.cell? (a.add i) = some v ∧ cellsAre w a (i + 1) vs

def rowIs (w : World) (a : Addr) (n : Nat) (cs : Array Value) : Prop := cs.size = n ∧ ∀ i < n, w.cell? (a.add i) = cs[i]?

def ldT (P : Program) (t : TypeId) (a : Addr) (w : World) (K : Value → Prop) : Prop :=
  match ty P t with
  | .one s => if (P.underlying t).isSome then exS s fun v => w.cell? a = some v ∧ K v else False
  | .agg l => if l.length = P.cellsOf t then exL l fun vs => cellsAre w a 0 vs ∧ K (.agg vs.toArray) else False
  | .big => ∃ cs, rowIs w a (P.cellsOf t) cs ∧ K (.agg cs)

/-- A slice expression's three bounds. -/
def sM (x : Option Int) (y : Nat) : Nat := match x with
  | none => y
  | some n => n.toNat

def sOK (x : Option Int) (y : Nat) : Prop := match x with
  | none => True
  | some n => 0 ≤ n ∧ n ≤ (y : Int)

def slA (base : Option Addr) (m l size : Nat) : Option Addr := if m = l then base else base.map (·.add (l * size))

def slK (base : Option Addr) (len cap size : Nat) (lo hi mx : Option Int) (K : Option Addr → Nat → Nat → Prop) : Prop :=
  sOK mx cap ∧ (hi.isNone = true → mx.isNone = true) ∧ sOK hi (sM mx cap) ∧ sOK lo (sM hi len) ∧
  K (slA base (sM mx cap) (sM lo 0) size) (sM hi len - sM lo 0) (sM mx cap - sM lo 0)

def strK (s : ByteArray) (lo hi : Option Int) (K : ByteArray → Prop) : Prop :=
  sOK hi s.size ∧ sOK lo (sM hi s.size) ∧ K (s.extract (sM lo 0) (sM hi s.size))

def fieldOff (P : Program) (s : TypeId) (f : Nat) : Option Nat := match P.underlying s with
  | some (.struct fs) => match fs[f]? with
    | some f => if P.cellsOf f.type = 0 then none else some f.offset
    | none => none
  | _ => none

def ibits (op : BinOp) (k : IntKind) (a b : Int) : Int :=
  match op with
  | .and => k.wrap ((BitVec.ofInt k.bits a &&& BitVec.ofInt k.bits b).toNat)
  | .or => k.wrap ((BitVec.ofInt k.bits a ||| BitVec.ofInt k.bits b).toNat)
  | .xor => k.wrap ((BitVec.ofInt k.bits a ^^^ BitVec.ofInt k.bits b).toNat)
  | _ => k.wrap ((BitVec.ofInt k.bits a &&& ~~~ (BitVec.ofInt k.bits b)).toNat)

def cellEq : Value → Value → Bool
  | .int _ a, .int _ b => a == b
  | .bool a, .bool b => a == b
  | .string a, .string b => a == b
  | _, _ => false

def cellsEq : List Value → List Value → Bool
  | [], _ => true
  | [x], ys => cellEq x (ys.headD undef)
  | x :: xs, ys => cellEq x (ys.headD undef) && cellsEq xs ys.tail

/-- '==' of two structs or arrays. -/
def eqAgg (P : Program) (t : TypeId) (xs ys : Array Value) (K : Bool → Prop) : Prop :=
  ∃ b, (∀ w' : World, (Op.equal t (.agg xs) (.agg ys)).run P w' = .ok b w') ∧ K b

/-- Two pointers may be compared: in one block, or both blocks are plain rows. -/
def peqOK (p q : Option Addr) (w : World) : Prop := match p, q with
  | some a, some b => a.block = b.block ∨ ((∃ cs T, w.heap[a.block]? = some (.cells cs T (0, 0))) ∧ ∃ cs T, w.heap[b.block]? = some (.cells cs T (0, 0)))
  | _, _ => True

def isCtl (ctl : List Nat) (dst : Option Tmp) : Bool := match dst with
  | some d => ctl.contains d
  | none => false

def splitV (v : Value) (K : Value → Prop) : Prop := match v with
  | .bool b => spl b (K (.bool true)) (K (.bool false))
  | _ => False

def finQ (ctl : List Nat) (dst : Option Tmp) (a : Act) (next : Act → Prop) (v : Value) : Prop :=
  match isCtl ctl dst with
  | true => splitV v fun v => next (a.put dst v)
  | false => next (a.put dst v)

theorem finQ_of {ctl : List Nat} {dst : Option Tmp} {a : Act} {next : Act → Prop} {v : Value} (h : finQ ctl dst a next v) : next (a.put dst v) := by
  unfold finQ at h
  split at h
  · unfold splitV at h
    split at h
    · rename_i b
      cases b
      · exact h.2 rfl
      · exact h.1 rfl
    · exact h.elim
  · exact h

/-! ### Operations that only read -/

def isNilC : Operand → Bool
  | .const (.pointer none) | .const (.slice none _ _) | .const (.map none) | .const .nilFunc => true
  | _ => false

/-- A struct or an array whose cells are numbers, bools and strings, one behind the other, no field blank. -/
def eqPlain (P : Program) : Nat → TypeId → Bool
  | 0, _ => false
  | d + 1, t => match P.underlying t with
    | some (.int _) | some .bool | some .string => true
    | some (.struct fs) => !P.stoodInHeld t && fs.toList.all fun f => f.name != "_" && eqPlain P d f.type
    | some (.array _ e) => eqPlain P d e
    | _ => false

def cmpQ (op : BinOp) (x y : Int) : Option Bool := match op with
  | .eql => some (x == y)
  | .neq => some (x != y)
  | .lss => some (decide (x < y))
  | .leq => some (decide (x ≤ y))
  | .gtr => some (decide (x > y))
  | .geq => some (decide (x ≥ y))
  | _ => none

def binQ (op : BinOp) (vx vy : Value) (fin : Value → Prop) : Prop :=
  match vx, vy with
  | .int k a, .int k' b => match op with
    | .shl => 0 ≤ b ∧ fin (.int k (k.wrap (a * 2 ^ (min b.toNat k.bits))))
    | .shr => 0 ≤ b ∧ fin (.int k (a.fdiv (2 ^ (min b.toNat k.bits))))
    | _ => if k = k' then match op with
      | .add => fin (.int k (k.wrap (a + b)))
      | .sub => fin (.int k (k.wrap (a - b)))
      | .mul => fin (.int k (k.wrap (a * b)))
      | .quo => b ≠ 0 ∧ fin (.int k (k.wrap (a.tdiv b)))
      | .rem => b ≠ 0 ∧ fin (.int k (a.tmod b))
      | .and | .or | .xor | .andNot => fin (.int k (ibits op k a b))
      | .eql => fin (.bool (a == b))
      | .neq => fin (.bool (a != b))
      | .lss => fin (.bool (decide (a < b)))
      | .leq => fin (.bool (decide (a ≤ b)))
      | .gtr => fin (.bool (decide (a > b)))
      | .geq => fin (.bool (decide (a ≥ b)))
      | _ => False
      else False
  | .string a, .string b => match op with
    | .add => ((a.size + b.size : Nat) : Int) ≤ IntKind.i64.max ∧ fin (.string (a ++ b))
    | .eql => fin (.bool (a.toList == b.toList))
    | .neq => fin (.bool !(a.toList == b.toList))
    | _ => False
  | _, _ => False

/-- '==' of two values of a type that is no number. -/
def eqQ (P : Program) (t : TypeId) (nx ny : Bool) (vx vy : Value) (w : World) (B : Option (List Nat)) (fin : Bool → Prop) : Prop :=
  match P.underlying t with
  | some .bool => (match vx, vy with
    | .bool a, .bool b => fin (a == b)
    | _, _ => False)
  | some (.pointer e) => (match vx, vy with
    | .pointer p, .pointer q => match nx, ny with
      | _, true => fin p.isNone
      | true, _ => fin q.isNone
      | false, false => match B with
        | none => P.cellsOf e ≠ 0 ∧ peqOK p q w ∧ fin (p == q)
        | some _ => False
    | _, _ => False)
  | some (.slice _) => (match vx, vy with
    | .slice p _ _, .slice q _ _ => match nx, ny with
      | _, true => fin p.isNone
      | true, _ => fin q.isNone
      | false, false => False
    | _, _ => False)
  | some (.map _ _) => (match vx, vy with
    | .map p, .map q => match nx, ny with
      | _, true => fin p.isNone
      | true, _ => fin q.isNone
      | false, false => False
    | _, _ => False)
  | some (.func _ _ _) => (match vx, vy with
    | .func _ _ _, .nilFunc => fin false
    | .nilFunc, .nilFunc => fin true
    | _, _ => False)
  | _ => False

/-- The value of a struct literal or an array literal. -/
def buildV (P : Program) (t : TypeId) (parts : List (Nat × Value)) : Option Value :=
  match (P.info? t).bind (·.zero), P.underlying t with
  | some z, some (.struct fs) =>
    if fs.toList.all fun f => P.cellsOf f.type != 0 then
      match Instr.fill (fun i => (fs.toList[i]?).map fun f => (f.offset, P.cellsOf f.type)) z.cells parts with
      | some cells => some (.agg cells)
      | none => none
    else none
  | some z, some (.array _ e) => if P.cellsOf e = 0 then none else
    match Instr.fill (fun i => some (i * P.cellsOf e, P.cellsOf e)) z.cells parts with
    | some cells => some (.agg cells)
    | none => none
  | _, _ => none

def opQ (P : Program) (ctl : List Nat) (o : Oper) (a : Act) (w : World) (B : Option (List Nat)) (next : Act → Prop) : Prop :=
  match o.op with
  | .move x | .assign x => finQ ctl o.dst a next (a.eval x)
  | .pick c x y => (match a.eval c with
    | .bool true => finQ ctl o.dst a next (a.eval x)
    | .bool false => finQ ctl o.dst a next (a.eval y)
    | _ => False)
  | .load t x => (match a.eval x with
    | .pointer (some ad) => inB B ad.block (ldT P t ad w (finQ ctl o.dst a next))
    | _ => False)
  | .nilCheck x => (match a.eval x with
    | .pointer p => nilK p fun ad => finQ ctl o.dst a next (.pointer (some ad))
    | .func (.func f) fi ca => finQ ctl o.dst a next (.func (.func f) fi ca)
    | _ => False)
  | .fieldAddr s x f => (match a.eval x with
    | .pointer (some ad) => match fieldOff P s f with
      | some off => finQ ctl o.dst a next (.pointer (some (ad.add off)))
      | none => False
    | _ => False)
  | .indexAddr t x i => (match a.eval i with
    | .int _ n => match P.underlying t with
      | some (.array len elem) => (match a.eval x with
        | .pointer (some ad) => if P.cellsOf elem = 0 then False else (0 ≤ n ∧ n < (len : Int)) ∧ finQ ctl o.dst a next (.pointer (some (ad.add (mulc n.toNat (P.cellsOf elem)))))
        | _ => False)
      | some (.slice elem) => (match a.eval x with
        | .slice base len _ => if P.cellsOf elem = 0 then False else nilK base fun ad => (0 ≤ n ∧ n < (len : Int)) ∧ finQ ctl o.dst a next (.pointer (some (ad.add (mulc n.toNat (P.cellsOf elem)))))
        | _ => False)
      | _ => False
    | _ => False)
  | .index t x i => (match a.eval i with
    | .int _ n => match P.underlying t with
      | some .string => (match a.eval x with
        | .string s => ∃ b : UInt8, (0 ≤ n ∧ s[n.toNat]? = some b) ∧ finQ ctl o.dst a next (.int .u8 b.toNat)
        | _ => False)
      | some (.array len elem) => (match a.eval x with
        | .agg cs => if isAgg P elem then False else if (P.underlying elem).isNone then False else if P.cellsOf elem = 1 then (0 ≤ n ∧ n < (len : Int)) ∧ (exS ((shs P 1 elem).headD .any) fun v => cs[n.toNat]? = some v ∧ finQ ctl o.dst a next v) else False
        | _ => False)
      | _ => False
    | _ => False)
  | .field t x f => (match a.eval x with
    | .agg cs => match P.underlying t with
      | some (.struct fs) => match fs[f]? with
        | some f => if P.cellsOf f.type = 0 then False else if isAgg P f.type then finQ ctl o.dst a next (.agg ((cs.toList.drop f.offset).take (P.cellsOf f.type)).toArray)
          else if (P.underlying f.type).isNone then False else match cs.toList[f.offset]? with
            | some v => finQ ctl o.dst a next v
            | none => False
        | none => False
      | _ => False
    | _ => False)
  | .binOp op t x y _ => (match op with
    | .eql => match P.underlying t with
      | some (.int _) | some .string => binQ .eql (a.eval x) (a.eval y) (finQ ctl o.dst a next)
      | some (.struct _) | some (.array _ _) => (match a.eval x, a.eval y with
        | .agg xs, .agg ys => if eqPlain P 8 t && !(P.eqGuardType P.depth t) then eqAgg P t xs ys fun b => finQ ctl o.dst a next (.bool b) else False
        | _, _ => False)
      | _ => eqQ P t (isNilC x) (isNilC y) (a.eval x) (a.eval y) w B (fun b => finQ ctl o.dst a next (.bool b))
    | .neq => match P.underlying t with
      | some (.int _) | some .string => binQ .neq (a.eval x) (a.eval y) (finQ ctl o.dst a next)
      | some (.struct _) | some (.array _ _) => (match a.eval x, a.eval y with
        | .agg xs, .agg ys => if eqPlain P 8 t && !(P.eqGuardType P.depth t) then eqAgg P t xs ys fun b => finQ ctl o.dst a next (.bool !b) else False
        | _, _ => False)
      | _ => eqQ P t (isNilC x) (isNilC y) (a.eval x) (a.eval y) w B (fun b => finQ ctl o.dst a next (.bool !b))
    | op => binQ op (a.eval x) (a.eval y) (finQ ctl o.dst a next))
  | .unOp op _ x => (match op, a.eval x with
    | .not, .bool b => finQ ctl o.dst a next (.bool !b)
    | .neg, .int k n => finQ ctl o.dst a next (.int k (k.wrap (0 - n)))
    | _, _ => False)
  | .convert src dst x => (match P.underlying src, P.underlying dst with
    | some _, some (.int k) => match a.eval x with
      | .int _ n => finQ ctl o.dst a next (.int k (k.wrap n))
      | _ => False
    | some .string, some .string => match a.eval x with
      | .string s => finQ ctl o.dst a next (.string s)
      | _ => False
    | _, _ => False)
  | .slice t x lo hi mx => (match P.underlying t with
    | some (.slice elem) => (match a.eval x with
      | .slice base len cap => if P.cellsOf elem = 0 then False else slK base len cap (P.cellsOf elem) (ints a lo) (ints a hi) (ints a mx) fun b l c => finQ ctl o.dst a next (.slice b l c)
      | _ => False)
    | some (.array n elem) => (match a.eval x with
      | .pointer (some ad) => if P.cellsOf elem = 0 then False else slK (some ad) n n (P.cellsOf elem) (ints a lo) (ints a hi) (ints a mx) fun b l c => finQ ctl o.dst a next (.slice b l c)
      | _ => False)
    | some .string => (match a.eval x with
      | .string s => match mx with
        | none => strK s (ints a lo) (ints a hi) fun s => finQ ctl o.dst a next (.string s)
        | some _ => False
      | _ => False)
    | _ => False)
  | .extract x i => (match a.eval x with
    | .tuple vs => match vs.toList[i]? with
      | some v => finQ ctl o.dst a next v
      | none => False
    | _ => False)
  | .makeFunc fn fi ca => finQ ctl o.dst a next (.func fn (fi.toList.map a.eval).toArray (ca.toList.map a.eval).toArray)
  | .build t parts => (match buildV P t (parts.toList.map fun p => (p.1, a.eval p.2)) with
    | some v => finQ ctl o.dst a next v
    | none => False)
  | .lookup t x i ok => (match B with
    | none => runQ ((Instr.lookup t (a.eval x) (a.eval i) ok).run P w) w fun v =>
        exR (match P.underlying t with | some (.map _ e) => if ok then [ty P e, .one .bool] else [ty P e] | _ => []) fun v' => v = v' ∧ finQ ctl o.dst a next v'
    | some _ => False)
  | .call { callee := .builtin b, args, argTypes } => (match b, args.toList.map a.eval, argTypes.toList with
    | .len, [.slice _ n _], [t] => (match P.underlying t with | some (.slice _) => finQ ctl o.dst a next (.int .i64 n) | _ => False)
    | .len, [.string s], [t] => (match P.underlying t with | some .string => finQ ctl o.dst a next (.int .i64 s.size) | _ => False)
    | .len, [_], [t] => (match P.underlying t with | some (.array n _) => finQ ctl o.dst a next (.int .i64 n) | _ => False)
    | .cap, [.slice _ _ n], [t] => (match P.underlying t with | some (.slice _) => finQ ctl o.dst a next (.int .i64 n) | _ => False)
    | .min, [.int k x, .int _ y], _ => finQ ctl o.dst a next (.int k (if y < x then y else x))
    | .max, [.int k x, .int _ y], _ => finQ ctl o.dst a next (.int k (if y > x then y else x))
    | _, _, _ => False)
  | _ => False
where
  ints (a : Act) : Option Operand → Option Int
    | none => none
    | some x => match a.eval x with
      | .int _ n => some n
      | _ => some (-1)

end Go.Den
