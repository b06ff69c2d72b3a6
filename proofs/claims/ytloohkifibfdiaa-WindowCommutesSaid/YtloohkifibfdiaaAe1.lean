/- An evaluator over the program's code with typed data: kinds of data, values, own blocks, operations, code. Definitions alone; nothing is claimed here. -/
import Derived.Calls
import Derived.Orders
import GoSem.ClaimData
import Derived.KernelRfl
set_option linter.unusedVariables false
namespace Go.Proofs.Ytloohkifibfdiaa.Ae
open Go

/-! ### Kinds of data -/
inductive Kd where
  | int (k : IntKind) | bool | str
  | arr (n : Nat) (e : Kd)
  | sl (e : Kd)
  | nil | cons (a b : Kd)
  deriving DecidableEq

@[reducible] def Kd.T : Kd → Type
  | .int _ => Int | .bool => Bool | .str => ByteArray
  | .arr _ e => List e.T | .sl e => List e.T
  | .nil => Unit | .cons a b => a.T × b.T

def Kd.z : (K : Kd) → K.T
  | .int _ => (0 : Int) | .bool => false | .str => ByteArray.empty
  | .arr n e => List.replicate n e.z | .sl _ => []
  | .nil => () | .cons a b => (a.z, b.z)

def Kd.size : Kd → Nat
  | .int _ | .bool | .str | .sl _ => 1
  | .arr n _ => n
  | .nil => 0 | .cons a b => a.size + b.size

def Kd.cast (K K' : Kd) (x : K.T) : Option K'.T := if h : K = K' then some (h ▸ x) else none
def Kd.castL (K K' : Kd) (x : List K.T) : Option (List K'.T) := if h : K = K' then some (h ▸ x) else none

/-! ### Values -/
inductive AV where
  | undef | dead
  | int (k : IntKind) (n : Int)
  | bool (b : Bool)
  | str (s : ByteArray)
  | nilp
  | ptr (id : Nat) (i : Nat) (path : List Nat)
  | rptr (K : Kd) (xs : List K.T) (i : Nat) (path : List Nat)
  | nils
  | rs (K : Kd) (xs : List K.T) (nn full : Bool)
  | hs (id off len : Nat)
  | hw (id : Nat)
  | nilm | mapv (id : Nat)
  | nilf | fn (f : Fn) (first cap : AV)
  | nili | iface (t : TypeId) (v : AV)
  | nil | cons (a b : AV)
  | arr (n : Nat) (K : Kd) (xs : List K.T)
  | tup (vs : AV)

inductive Bk where
  | box (v : AV)
  | row (K : Kd) (xs : List K.T)
  | rowv (vs : AV)

abbrev Hp := Nat → Option Bk

def enc : (K : Kd) → K.T → AV
  | .int k, n => .int k n
  | .bool, b => .bool b
  | .str, s => .str s
  | .arr n e, xs => .arr n e xs
  | .sl e, xs => .rs e xs false false
  | .nil, _ => .nil
  | .cons a b, x => .cons (enc a x.1) (enc b x.2)

/-- The data that a value reads as, own rows read through the heap. -/
def dec (hp : Hp) : (K : Kd) → AV → Option K.T
  | .int k, .int k' n => if k' = k then some n else none
  | .bool, .bool b => some b
  | .str, .str s => some s
  | .arr n e, .arr n' e' xs => if n' = n then Kd.castL e' e xs else none
  | .sl e, .nils => some []
  | .sl e, .rs e' xs _ _ => Kd.castL e' e xs
  | .sl e, .hs id off len => match hp id with
    | some (.row e' xs) => Kd.castL e' e ((xs.drop off).take len)
    | _ => none
  | .sl e, .hw id => match hp id with
    | some (.row e' xs) => Kd.castL e' e xs
    | _ => none
  | .nil, .nil => some ()
  | .cons a b, .cons x y => match dec hp a x with
    | some u => match dec hp b y with
      | some v => some (u, v)
      | none => none
    | none => none
  | _, _ => none

/-- The own rows that a value names. -/
def AV.rows : AV → List Nat
  | .hs id _ _ => [id]
  | .hw id => [id]
  | .cons a b => a.rows ++ b.rows
  | _ => []

/-- Every block that a value names. -/
def AV.ids : AV → List Nat
  | .ptr id _ _ | .hs id _ _ | .hw id | .mapv id => [id]
  | .cons a b => a.ids ++ b.ids
  | .fn _ a b => a.ids ++ b.ids
  | .iface _ v => v.ids
  | .tup v => v.ids
  | _ => []

/-- The same n times, as a chain. -/
def repK (K : Kd) : Nat → Kd
  | 0 => .nil
  | n + 1 => .cons K (repK K n)

def repV (v : AV) : Nat → AV
  | 0 => .nil
  | n + 1 => .cons v (repV v n)

def AV.size : AV → Nat
  | .cons a b => a.size + b.size
  | .nil => 0
  | .arr n _ _ => n
  | _ => 1

/-- A value that is neither known as undefined, dead nor a tuple. -/
def AV.plain : AV → Bool
  | .undef | .dead | .tup _ => false
  | _ => true

def AV.isTup : AV → Bool
  | .tup _ => true
  | _ => false

inductive Sh where
  | leaf | nil | cons (a b : Sh) | arr (n : Nat)
  deriving DecidableEq

def AV.sh : AV → Sh
  | .cons a b => .cons a.sh b.sh
  | .nil => .nil
  | .arr n _ _ => .arr n
  | _ => .leaf

def Kd.sh : Kd → Sh
  | .cons a b => .cons a.sh b.sh
  | .nil => .nil
  | .arr n _ => .arr n
  | _ => .leaf

def Sh.size : Sh → Nat
  | .leaf => 1 | .nil => 0 | .arr n => n
  | .cons a b => a.size + b.size

/-- The cells before field f of a struct, and the field's own shape. -/
def Sh.field : Sh → Nat → Option (Nat × Sh)
  | .cons a _, 0 => some (0, a)
  | .cons a b, f + 1 => match b.field f with
    | some (o, s) => some (a.size + o, s)
    | none => none
  | _, _ => none

/-- Where a path leads: cells from the start, and the shape there. -/
def Sh.at : Sh → List Nat → Option (Nat × Sh)
  | s, [] => some (0, s)
  | .arr n, [i] => if i < n then some (i, .leaf) else none
  | s, f :: p => match s.field f with
    | some (o, t) => match t.at p with
      | some (o', u) => some (o + o', u)
      | none => none
    | none => none

def AV.isAgg : AV → Bool
  | .cons _ _ | .nil | .arr _ _ _ => true
  | _ => false

def AV.getF : AV → Nat → Option AV
  | .cons a _, 0 => some a
  | .cons _ b, f + 1 => b.getF f
  | _, _ => none

def AV.setF : AV → Nat → AV → Option AV
  | .cons _ b, 0, v => some (.cons v b)
  | .cons a b, f + 1, v => match b.setF f v with
    | some b' => some (.cons a b')
    | none => none
  | _, _, _ => none

/-- What lies at a path. The path is known to lead somewhere (an index is asked when the address is made). -/
def AV.getP : AV → List Nat → Option AV
  | v, [] => some v
  | .arr n K xs, [i] => some (enc K (xs.getD i K.z))
  | v, f :: p => match v.getF f with
    | some u => u.getP p
    | none => none

def AV.setP : AV → List Nat → AV → Option AV
  | _, [], v => some v
  | .arr n K xs, [i], v => match dec (fun _ => none) K v with
    | some x => some (.arr n K (xs.set i x))
    | none => none
  | u, f :: p, v => match u.getF f with
    | some t => match t.setP p v with
      | some t' => u.setF f t'
      | none => none
    | none => none

/-! ### Types -/
section types
variable (P : Program)

def aggD (d : TypeDesc) : Bool := match d with | .struct _ | .array _ _ => true | _ => false
def aggT (t : TypeId) : Option Bool := (P.underlying t).map aggD

/-- A small kind of number or bool. -/
def scal (t : TypeId) : Option Kd := match P.underlying t with
  | some (.int k) => some (.int k)
  | some .bool => some .bool
  | _ => none

/-- The kind of data of a type. -/
def kdOf : Nat → TypeId → Option Kd
  | 0, _ => none
  | d + 1, t => match P.underlying t with
    | some (.int k) => some (.int k)
    | some .bool => some .bool
    | some .string => some .str
    | some (.slice e) => match kdOf d e with
      | some K => some (.sl K)
      | none => none
    | some (.array n e) => match scal P e with
      | some K => some (.arr n K)
      | none => match kdOf d e with
        | some K => some (repK K n)
        | none => none
    | some (.struct fs) => fs.toList.foldr (fun f r => match kdOf d f.type, r with
        | some a, some b => some (.cons a b)
        | _, _ => none) (some .nil)
    | _ => none

/-- The zero value of a type. -/
def zav : Nat → TypeId → Option AV
  | 0, _ => none
  | d + 1, t => match P.underlying t with
    | some (.int k) => some (.int k 0)
    | some .bool => some (.bool false)
    | some .string => some (.str ByteArray.empty)
    | some (.pointer _) => some .nilp
    | some (.slice _) => some .nils
    | some (.map _ _) => some .nilm
    | some (.func _ _ _) => some .nilf
    | some (.interface _) => some .nili
    | some (.array n e) => match scal P e with
      | some K => some (.arr n K (List.replicate n K.z))
      | none => match zav d e with
        | some v => some (repV v n)
        | none => none
    | some (.struct fs) => fs.toList.foldr (fun f r => match zav d f.type, r with
        | some a, some b => some (.cons a b)
        | _, _ => none) (some .nil)
    | _ => none

def deep : Nat := 12

/-- The cells of a value that names no block and no data of a length that is not known. -/
def AV.flat : AV → Option (List Value)
  | .int k n => if (Lit.int k n).wf then some [.int k n] else none
  | .bool b => some [.bool b]
  | .str s => some [.string s]
  | .nilp => some [.pointer none]
  | .nils => some [.slice none 0 0]
  | .nilm => some [.map none]
  | .nilf => some [.nilFunc]
  | .nili => some [.nilIface]
  | .nil => some []
  | .cons a b => match a.flat, b.flat with
    | some x, some y => some (x ++ y)
    | _, _ => none
  | .arr n (.int k) xs => if xs.length = n ∧ (xs.all fun (x : Int) => (Lit.int k x).wf) = true then some (xs.map fun (x : Int) => Value.int k x) else none
  | .arr n .bool xs => if xs.length = n then some (xs.map fun (x : Bool) => Value.bool x) else none
  | _ => none

/-- Equality of such cells. -/
def vEq : Value → Value → Bool
  | .int k n, .int k' n' => decide (k = k') && n == n'
  | .bool a, .bool b => a == b
  | .string s, .string t => decide (s = t)
  | .pointer none, .pointer none | .map none, .map none | .nilFunc, .nilFunc | .nilIface, .nilIface => true
  | .slice none a b, .slice none c d => a == c && b == d
  | _, _ => false

def vsEq : List Value → List Value → Bool
  | [], [] => true
  | a :: l, b :: m => vEq a b && vsEq l m
  | _, _ => false

def isAggV : Value → Bool
  | .agg _ => true
  | _ => false

/-- The zero value, held against the program's own. -/
def zero? (t : TypeId) : Option AV := match zav P deep t with
  | some v => match v.flat, P.info? t with
    | some cs, some i => match i.zero with
      | some z => if vsEq cs z.cells.toList = true ∧ v.isAgg = isAggV z then some v else none
      | none => none
    | _, _ => none
  | none => none

/-- A constant of the program's text. -/
def lit : Value → Option AV
  | .int k n => if (Lit.int k n).wf then some (.int k n) else none
  | .bool b => some (.bool b)
  | .string s => some (.str s)
  | .pointer none => some .nilp
  | .slice none 0 0 => some .nils
  | .map none => some .nilm
  | .nilFunc => some .nilf
  | .nilIface => some .nili
  | _ => none
end types

/-! ### Operations -/
abbrev Eff := List (Nat × Option Bk)
abbrev Res := Option (Bool × AV × Eff)
/-- What is known of a callee: arguments (a chain), the heap, a new key: is it asked that .., the result, the change. -/
abbrev Specs := FuncId → AV → Hp → Nat → Res

def kill (l : List Nat) : Eff := l.map fun i => (i, none)

section ops
variable (S : Specs) (P : Program) (gl : Nat → Option AV) (get : Nat → AV) (hp : Hp) (key : Nat)

def opnd : Operand → Option AV
  | .tmp t => some (get t)
  | .const v => lit v
  | .func f => some (.fn (.func f) .nil .nil)
  | .global g => gl g

def opnds : List Operand → Option AV
  | [] => some .nil
  | o :: l => match opnd gl get o with
    | some v => match v.isTup with
      | true => none
      | false => match opnds l with
        | some r => some (.cons v r)
        | none => none
    | none => none

def chainApp : AV → AV → AV
  | .cons a b, c => .cons a (chainApp b c)
  | _, c => c

/-- An integer operation. -/
def intOp (op : BinOp) (k : IntKind) (x y : Int) : Res :=
  let v (n : Int) : Res := some (true, .int k (k.wrap n), [])
  let b (c : Bool) : Res := some (true, .bool c, [])
  match op with
  | .add => v (x + y) | .sub => v (x - y) | .mul => v (x * y)
  | .quo => some (y != 0, .int k (k.wrap (x.tdiv y)), [])
  | .rem => some (y != 0, .int k (x.tmod y), [])
  | .and => v ((BitVec.ofInt k.bits x &&& BitVec.ofInt k.bits y).toNat)
  | .or => v ((BitVec.ofInt k.bits x ||| BitVec.ofInt k.bits y).toNat)
  | .xor => v ((BitVec.ofInt k.bits x ^^^ BitVec.ofInt k.bits y).toNat)
  | .andNot => v ((BitVec.ofInt k.bits x &&& ~~~ BitVec.ofInt k.bits y).toNat)
  | .eql => b (x == y) | .neq => b (x != y)
  | .lss => b (decide (x < y)) | .leq => b (decide (x ≤ y))
  | .gtr => b (decide (x > y)) | .geq => b (decide (x ≥ y))
  | _ => none

def shiftOp (op : BinOp) (k : IntKind) (x y : Int) : Res :=
  let n := min y.toNat k.bits
  match op with
  | .shl => some (decide (0 ≤ y), .int k (k.wrap (x * 2 ^ n)), [])
  | .shr => some (decide (0 ≤ y), .int k (x.fdiv (2 ^ n)), [])
  | _ => none

/-- Equality of two values of a kind that can be compared. -/
def aeq : AV → AV → Option Bool
  | .int k a, .int k' b => if k = k' then some (a == b) else none
  | .bool a, .bool b => some (a == b)
  | .str a, .str b => some (a == b)
  | .nil, .nil => some true
  | .cons a b, .cons c d => match aeq a c, aeq b d with
    | some x, some y => some (x && y)
    | _, _ => none
  | .arr n K xs, .arr n' K' ys => if n = n' then match Kd.castL K' K ys with
      | some zs => match K, xs, zs with
        | .int _, xs, zs => some (xs == zs)
        | .bool, xs, zs => some (xs == zs)
        | _, _, _ => none
      | none => none
    else none
  | _, _ => none

/-- Is the type's every part compared part by part, and does a value have that form? -/
def eqTy : Nat → TypeId → AV → Bool
  | 0, _, _ => false
  | d + 1, t, v => match P.underlying t, v with
    | some (.int k), .int k' _ => k == k'
    | some .bool, .bool _ => true
    | some .string, .str _ => true
    | some (.array n e), .arr n' K _ => n == n' && (match P.underlying e, K with
      | some (.int k), .int k' => k == k'
      | some .bool, .bool => true
      | _, _ => false) && P.cellsOf e == 1
    | some (.struct fs), v => !P.stoodInHeld t && eqFs (fun t v => eqTy d t v) 0 fs.toList v
    | _, _ => false
 where
  eqFs (r : TypeId → AV → Bool) : Nat → List Field → AV → Bool
  | _, [], .nil => true
  | o, f :: fs, .cons a b => f.name != "_" && f.offset == o && P.cellsOf f.type == a.size && r f.type a && eqFs r (o + a.size) fs b
  | _, _, _ => false

def nilEq (t : TypeId) (x y : AV) : Option Bool := match P.underlying t, x, y with
  | some (.slice _), .nils, .nils => some true
  | some (.slice _), .rs _ _ true _, .nils => some false
  | some (.slice _), .nils, .rs _ _ true _ => some false
  | some (.pointer _), .nilp, .nilp => some true
  | some (.pointer _), .ptr _ _ _, .nilp => some false
  | some (.pointer _), .nilp, .ptr _ _ _ => some false
  | some (.pointer _), .rptr _ _ _ _, .nilp => some false
  | some (.pointer _), .nilp, .rptr _ _ _ _ => some false
  | some (.func _ _ _), .nilf, .nilf => some true
  | some (.func _ _ _), .fn _ _ _, .nilf => some false
  | some (.map _ _), .nilm, .nilm => some true
  | _, _, _ => none

/-- Equality at a type. -/
def eqAt (t : TypeId) (x y : AV) : Option Bool := match nilEq P t x y with
  | some b => some b
  | none => if eqTy P deep t x && eqTy P deep t y && (P.eqGuardType P.depth t == false) then aeq x y else none

def binOp' (op : BinOp) (t : TypeId) (x y : AV) : Res :=
  match op, x, y with
  | .shl, .int k a, .int _ b | .shr, .int k a, .int _ b => shiftOp op k a b
  | _, .int k a, .int k' b => if k = k' then intOp op k a b else none
  | .eql, x, y => match eqAt P t x y with
    | some b => some (true, .bool b, [])
    | none => none
  | .neq, x, y => match eqAt P t x y with
    | some b => some (true, .bool (!b), [])
    | none => none
  | _, _, _ => none

def unOp' (op : UnOp) (x : AV) : Res :=
  match op, x with
  | .neg, .int k n => some (true, .int k (k.wrap (0 - n)), [])
  | .xor, .int k n => some (true, .int k (k.wrap (BitVec.ofInt k.bits (if k.signed then -1 else k.max) ^^^ BitVec.ofInt k.bits n).toNat), [])
  | .not, .bool b => some (true, .bool !b, [])
  | _, _ => none

/-- The bytes of a list as a string. -/
def bstr (xs : List Int) : ByteArray := ⟨(xs.map fun n => UInt8.ofNat n.toNat).toArray⟩

def convert' (src dst : TypeId) (x : AV) : Res :=
  match P.underlying src, P.underlying dst, x with
  | some _, some (.int k), .int _ n => some (true, .int k (k.wrap n), [])
  | some _, some .string, .str s => some (true, .str s, [])
  | some (.slice e), some .string, x => match P.underlying e, dec hp (.sl (.int .u8)) x with
    | some (.int .u8), some xs => if P.cellsOf e == 1 then some (true, .str (bstr xs), []) else none
    | _, _ => none
  | _, _, _ => none

/-- What lies behind a pointer. -/
def deref : AV → Option AV
  | .ptr id i p => match hp id with
    | some (.box v) => v.getP p
    | some (.row K xs) => (enc K (xs.getD i K.z)).getP p
    | some (.rowv vs) => match vs.getF i with
      | some v => v.getP p
      | none => none
    | none => none
  | .rptr K xs i p => (enc K (xs.getD i K.z)).getP p
  | _ => none

def load' (t : TypeId) (x : AV) : Res := match deref hp x with
  | some v => if v.size = P.cellsOf t ∧ aggT P t = some v.isAgg then some (true, v, []) else none
  | none => none

/-- A store; a value that is put into a row: its own rows become read-only data. -/
def store' (t : TypeId) (x v : AV) : Res := match x with
  | .ptr id i p => match hp id with
    | some (.box u) => match u.getP p, u.setP p v with
      | some w, some u' => if w.sh = v.sh ∧ v.size = P.cellsOf t ∧ P.cellsOf t ≠ 0 ∧ v.plain = true then some (true, .undef, [(id, some (.box u'))]) else none
      | _, _ => none
    | some (.row K xs) => match (enc K (xs.getD i K.z)).getP p, (enc K (xs.getD i K.z)).setP p v with
      | some w, some e => if w.sh = v.sh ∧ v.size = P.cellsOf t ∧ P.cellsOf t ≠ 0 ∧ v.plain = true ∧ id ∉ e.rows then match dec hp K e with
          | some y => some (true, .undef, kill e.rows ++ [(id, some (.row K (xs.set i y)))])
          | none => none
        else none
      | _, _ => none
    | _ => none
  | _ => none

/-- The pointer to a part. -/
def extP (x : AV) (f : Nat) : AV := match x with
  | .ptr id i p => .ptr id i (p ++ [f])
  | .rptr K xs i p => .rptr K xs i (p ++ [f])
  | x => x

def fieldAddr' (s : TypeId) (x : AV) (f : Nat) : Res := match P.underlying s with
  | some (.struct fs) => match fs[f]?, deref hp x with
    | some fd, some v => match v.sh.field f with
      | some (o, u) => if o = fd.offset ∧ P.cellsOf fd.type ≠ 0 then some (true, extP x f, []) else none
      | none => none
    | _, _ => none
  | _ => none

def chainLen : AV → Nat
  | .cons _ b => chainLen b + 1
  | _ => 0

def rng (i : Int) (n : Nat) : Bool := decide (0 ≤ i) && decide (i < (n : Int))

def indexAddr' (t : TypeId) (x ix : AV) : Res := match ix with
  | .int _ i => match P.underlying t, x with
    | some (.array n e), x => match deref hp x with
      | some (.arr n' K xs) => if n = n' ∧ P.cellsOf e = 1 then some (rng i n, extP x i.toNat, []) else none
      | some v => match v.sh.field i.toNat with
        | some (o, u) => if 0 ≤ i ∧ i < n ∧ o = i.toNat * P.cellsOf e ∧ P.cellsOf e ≠ 0 then some (true, extP x i.toNat, []) else none
        | none => none
      | none => none
    | some (.slice e), .rs K xs _ _ => if P.cellsOf e = K.size ∧ K.size ≠ 0 then some (rng i xs.length, .rptr K xs i.toNat [], []) else none
    | some (.slice e), .hs id off len => match hp id with
      | some (.row K xs) => if P.cellsOf e = K.size ∧ K.size ≠ 0 then some (rng i len, .ptr id (off + i.toNat) [], []) else none
      | _ => none
    | some (.slice e), .hw id => match hp id with
      | some (.row K xs) => if P.cellsOf e = K.size ∧ K.size ≠ 0 then some (rng i xs.length, .ptr id i.toNat [], []) else none
      | some (.rowv vs) => if P.cellsOf e = 1 then some (rng i (chainLen vs), .ptr id i.toNat [], []) else none
      | _ => none
    | _, _ => none
  | _ => none

def index' (t : TypeId) (x ix : AV) : Res := match ix with
  | .int _ i => match P.underlying t, x with
    | some (.array n e), .arr n' K xs => if n = n' ∧ P.cellsOf e = 1 ∧ aggT P e = some false then some (rng i n, enc K (xs.getD i.toNat K.z), []) else none
    | _, _ => none
  | _ => none

def field' (t : TypeId) (x : AV) (f : Nat) : Res := match P.underlying t with
  | some (.struct fs) => match fs[f]?, x.getF f, x.sh.field f with
    | some fd, some v, some (o, _) => if o = fd.offset ∧ v.size = P.cellsOf fd.type ∧ aggT P fd.type = some v.isAgg then some (true, v, []) else none
    | _, _, _ => none
  | _ => none

/-- One part of a value put in. -/
def setPart (K : AV) (i : Nat) (v : AV) : Option AV := match K with
  | .arr n E xs => match dec (fun _ => none) E v with
    | some x => if i < n ∧ v.sh = .leaf then some (.arr n E (xs.set i x)) else none
    | none => none
  | K => match K.getF i, K.setF i v with
    | some w, some K' => if w.sh = v.sh ∧ v.plain = true then some K' else none
    | _, _ => none

def setParts (K : AV) : List (Nat × AV) → Option AV
  | [] => some K
  | (i, v) :: l => match setPart K i v with
    | some K' => setParts K' l
    | none => none

def parts (gl : Nat → Option AV) (get : Nat → AV) : List (Nat × Operand) → Option (List (Nat × AV))
  | [] => some []
  | (i, o) :: l => match opnd gl get o with
    | some v => match parts gl get l with
      | some r => some ((i, v) :: r)
      | none => none
    | none => none

def fieldOffs : Sh → Nat → List Field → Bool
  | .nil, _, [] => true
  | .cons a b, o, f :: fs => f.offset == o && P.cellsOf f.type == a.size && a.size != 0 && fieldOffs b (o + a.size) fs
  | _, _, _ => false

def chainSame (n : Nat) : Sh → Nat → Bool
  | .nil, 0 => true
  | .cons a b, m + 1 => a.size == n && chainSame n b m
  | _, _ => false

/-- Does the layout of the type fit the form of its zero value? -/
def layOk (t : TypeId) (z : AV) : Bool := match P.underlying t with
  | some (.struct fs) => fieldOffs P z.sh 0 fs.toList
  | some (.array n e) => (match z with
    | .arr n' _ _ => n == n' && P.cellsOf e == 1
    | z => chainSame (P.cellsOf e) z.sh n && P.cellsOf e != 0)
  | _ => false

def build' (t : TypeId) (ps : List (Nat × AV)) : Res := match zero? P t with
  | some z => if layOk P t z then match setParts z ps with
      | some v => some (true, v, [])
      | none => none
    else none
  | none => none

def decAll (hp : Hp) (K : Kd) : List (Nat × AV) → List K.T → Option (List K.T)
  | [], xs => some xs
  | (i, v) :: l, xs => match dec hp K v with
    | some x => if i < xs.length then decAll hp K l (xs.set i x) else none
    | none => none

def shAll (s : Sh) : List (Nat × AV) → Bool
  | [] => true
  | (_, v) :: l => decide (v.sh = s) && shAll s l

def rowsAll : List (Nat × AV) → List Nat
  | [] => []
  | (_, v) :: l => v.rows ++ rowsAll l

def nodup : List Nat → Bool
  | [] => true
  | a :: l => !l.contains a && nodup l

def zeroOk (K : Kd) (t : TypeId) : Bool := match (enc K K.z).flat, P.info? t with
  | some cs, some i => match i.zero with
    | some z => vsEq cs z.cells.toList
    | none => false
  | _, _ => false

def zeroValueOf (t : TypeId) : Option Value := match P.info? t with
  | some i => i.zero
  | none => none

def buildSlice' (t : TypeId) (len : Nat) (ps : List (Nat × AV)) : Res := match P.underlying t with
  | some (.slice e) => if 2 ^ 24 < len * P.cellsOf e then none else match kdOf P deep e with
    | some K => if K.size = P.cellsOf e ∧ K.size ≠ 0 ∧ nodup (rowsAll ps) ∧ shAll K.sh ps ∧ zeroOkS K e then match decAll hp K ps (List.replicate len K.z) with
        | some xs => some (true, .hw key, kill (rowsAll ps) ++ [(key, some (.row K xs))])
        | none => none
      else none
    | none => if P.cellsOf e = 1 ∧ len = ps.length ∧ (zeroValueOf P e).isSome = true then match chainOf 0 ps with
        | some c => some (true, .hw key, [(key, some (.rowv c))])
        | none => none
      else none
  | _ => none
 where
  chainOf : Nat → List (Nat × AV) → Option AV
    | _, [] => some .nil
    | i, (j, v) :: l => if i = j ∧ v.sh = .leaf ∧ v.plain = true then match chainOf (i + 1) l with
        | some c => some (.cons v c)
        | none => none
      else none
  zeroOkS (K : Kd) (t : TypeId) : Bool := match P.info? t with
    | some i => match i.zero with
      | some z => match zav P deep t with
        | some v => match v.flat with
          | some cs => vsEq cs z.cells.toList && decide (v.sh = K.sh) && (match dec (fun _ => none) K v with | some _ => true | none => false)
          | none => false
        | none => false
      | none => false
    | none => false

/-- The bounds of a slice expression. -/
def bounds (len : Nat) (lo hi : Option AV) : Option (Bool × Nat × Nat) :=
  match (match hi with | none => some (true, (len : Int)) | some (.int _ h) => some (decide (0 ≤ h) && decide (h ≤ (len : Int)), h) | _ => none) with
  | none => none
  | some (c, h) => match (match lo with | none => some (true, (0 : Int)) | some (.int _ l) => some (decide (0 ≤ l) && decide (l ≤ h), l) | _ => none) with
    | none => none
    | some (d, l) => some (c && d, l.toNat, h.toNat)

def optnd : Option Operand → Option (Option AV)
  | none => some none
  | some o => match opnd gl get o with
    | some v => some (some v)
    | none => none

def slice' (t : TypeId) (x : AV) (lo hi mx : Option AV) : Res := match P.underlying t, x, mx with
  | some (.slice e), .rs K xs nn full, none => if P.cellsOf e = K.size ∧ K.size ≠ 0 then match bounds xs.length lo hi with
      | some (c, l, h) => some (c, .rs K ((xs.drop l).take (h - l)) nn false, [])
      | none => none
    else none
  | some (.slice e), .rs K xs nn full, some (.int _ m) => if P.cellsOf e = K.size ∧ K.size ≠ 0 then match lo, hi with
      | some (.int _ 0), some (.int _ 0) => if m = 0 then some (true, .rs K [] nn true, []) else none
      | _, _ => none
    else none
  | some (.slice e), .nils, _ => if P.cellsOf e ≠ 0 then match lo, hi, mx with
      | some (.int _ 0), some (.int _ 0), some (.int _ 0) => some (true, .nils, [])
      | none, some (.int _ 0), none => some (true, .nils, [])
      | _, _, _ => none
    else none
  | some (.slice e), .hs id off len, none => match hp id with
    | some (.row K xs) => if P.cellsOf e = K.size ∧ K.size ≠ 0 then match bounds len lo hi with
        | some (c, l, h) => some (c, .hs id (off + l) (h - l), [])
        | none => none
      else none
    | _ => none
  | some (.slice e), .hw id, none => match hp id with
    | some (.row K xs) => if P.cellsOf e = K.size ∧ K.size ≠ 0 then match bounds xs.length lo hi with
        | some (c, l, h) => some (c, .hs id l (h - l), [])
        | none => none
      else none
    | _ => none
  | some .string, .str s, none => match bounds s.size lo hi with
      | some (c, l, h) => some (c, .str (s.extract l h), [])
      | none => none
  | _, _, _ => none

def makeSlice' (t : TypeId) (l c : AV) : Res := match P.underlying t, l, c with
  | some (.slice e), .int _ n, .int _ m => match kdOf P deep e with
    | some K => if K.size = P.cellsOf e ∧ K.size ≠ 0 ∧ buildSlice'.zeroOkS P K e then
        some (decide (0 ≤ n) && decide (n ≤ m) && decide (P.bytesOf e * m ≤ 2 ^ 48) && decide (m < 2 ^ 62), .hw key, [(key, some (.row K (List.replicate n.toNat K.z)))])
      else none
    | none => none
  | _, _, _ => none

/-- May a slice of this many elements still be made by an append? -/
def fits (n bytes : Nat) : Bool := decide (n * bytes ≤ 140737488355328)

def bytesOf (s : ByteArray) : List Int := s.data.toList.map fun b => (b.toNat : Int)

/-- The elements that are appended: data of kind K, and the own rows that are read for it alone. -/
def source (hp : Hp) (K : Kd) : AV → Option (List K.T)
  | .str s => match K with
    | .int .u8 => some (bytesOf s)
    | _ => none
  | v => dec hp (.sl K) v

def append' (ts : Array TypeId) (s x : AV) : Res := match ts[0]?, ts[1]? with
  | some t, some u => match P.underlying t, (match P.underlying u with | some (.int _) => none | some d => some d | none => none) with
    | some (.slice e), some _ => match kdOf P deep e with
      | some K => if K.size = P.cellsOf e ∧ K.size ≠ 0 ∧ P.bytesOf e ≠ 0 ∧ buildSlice'.zeroOkS P K e then match source hp K x with
          | some ys => match s with
            | .nils => some (fits ys.length (P.bytesOf e), .hw key, [(key, some (.row K ys))])
            | .rs _ [] _ true => some (fits ys.length (P.bytesOf e), .hw key, [(key, some (.row K ys))])
            | .hs id off len => match hp id with
              | some (.row K' xs) => match Kd.castL K' K xs with
                | some xs => some (fits (len + ys.length) (P.bytesOf e), .hw key, [(id, none), (key, some (.row K ((xs.drop off).take len ++ ys)))])
                | none => none
              | _ => none
            | .hw id => match hp id with
              | some (.row K' xs) => match Kd.castL K' K xs with
                | some xs => some (fits (xs.length + ys.length) (P.bytesOf e), .hw key, [(id, none), (key, some (.row K (xs ++ ys)))])
                | none => none
              | _ => none
            | _ => none
          | none => none
        else none
      | none => none
    | _, _ => none
  | _, _ => none

def lenOf (hp : Hp) (id : Nat) : Option Nat := match hp id with
  | some (.row _ xs) => some xs.length
  | some (.rowv v) => some (chainLen v)
  | _ => none

def len' (ts : Array TypeId) (x : AV) : Res := match ts[0]? with
  | some t => match P.underlying t, x with
    | some .string, .str s => if true then some (decide (s.size < 2 ^ 62), .int .i64 s.size, []) else none
    | some (.slice _), .nils => some (true, .int .i64 0, [])
    | some (.slice _), .rs _ xs _ _ => some (true, .int .i64 xs.length, [])
    | some (.slice _), .hs _ _ len => some (true, .int .i64 len, [])
    | some (.slice _), .hw id => match lenOf hp id with
      | some n => some (true, .int .i64 n, [])
      | none => none
    | some (.array n _), _ => some (decide ((n : Int) < 2 ^ 62), .int .i64 n, [])
    | _, _ => none
  | none => none

def minmax (mx : Bool) : AV → Option AV
  | .cons (.int k x) .nil => some (.int k x)
  | .cons (.int k x) (.cons (.int k' y) r) => if k = k' then minmaxR mx k (if (if mx then y > x else y < x) then y else x) r else none
  | _ => none
 where
  minmaxR (mx : Bool) (k : IntKind) (x : Int) : AV → Option AV
    | .nil => some (.int k x)
    | .cons (.int k' y) r => if k = k' then minmaxR mx k (if (if mx then y > x else y < x) then y else x) r else none
    | _ => none

def call' (c : Call) : Res := match opnds gl get c.args.toList with
  | some args => match c.callee with
    | .builtin .append => match args with
      | .cons s (.cons x .nil) => append' P hp key c.argTypes s x
      | _ => none
    | .builtin .len => match args with
      | .cons x .nil => len' P hp c.argTypes x
      | _ => none
    | .builtin .min => match minmax false args with
      | some v => some (true, v, [])
      | none => none
    | .builtin .max => match minmax true args with
      | some v => some (true, v, [])
      | none => none
    | .value f => match opnd gl get f with
      | some (.fn (.func f) first cap) => S f (chainApp first (chainApp args cap)) hp key
      | _ => none
    | _ => none
  | none => none

/-- One operation. -/
def opE (o : Oper) : Res :=
  let v1 (x : Operand) (k : AV → Res) : Res := match opnd gl get x with | some v => k v | none => none
  match o.op with
  | .move x | .assign x => v1 x fun v => some (true, v, [])
  | .pick c a b => v1 c fun c => match c with
    | .bool c => v1 (if c then a else b) fun v => some (true, v, [])
    | _ => none
  | .alloc t => match zero? P t with
    | some z => some (true, .ptr key 0 [], [(key, some (.box z))])
    | none => none
  | .box t x => v1 x fun v => match v with
    | .undef | .dead | .tup _ => none
    | v => some (true, .ptr key 0 [], [(key, some (.box v))])
  | .build t ps => match parts gl get ps.toList with
    | some ps => build' P t ps
    | none => none
  | .buildSlice t n ps => match parts gl get ps.toList with
    | some ps => buildSlice' P hp key t n ps
    | none => none
  | .load t a => v1 a fun a => load' P hp t a
  | .store t a x => v1 a fun a => v1 x fun v => store' P hp t a v
  | .nilCheck x => v1 x fun v => match v with
    | .ptr _ _ _ | .rptr _ _ _ _ => some (true, v, [])
    | .fn (.func _) _ _ => some (true, v, [])
    | _ => none
  | .binOp op t x y _ => v1 x fun x => v1 y fun y => binOp' P op t x y
  | .unOp op _ x => v1 x fun x => unOp' op x
  | .convert s d x => v1 x fun x => convert' P hp s d x
  | .makeFunc f a b => match opnds gl get a.toList, opnds gl get b.toList with
    | some a, some b => some (true, .fn f a b, [])
    | _, _ => none
  | .makeSlice t l c => v1 l fun l => v1 c fun c => makeSlice' P key t l c
  | .slice t x lo hi mx => v1 x fun x => match optnd gl get lo, optnd gl get hi, optnd gl get mx with
    | some lo, some hi, some mx => slice' P hp t x lo hi mx
    | _, _, _ => none
  | .fieldAddr s x f => v1 x fun x => fieldAddr' P hp s x f
  | .field t x f => v1 x fun x => field' P t x f
  | .indexAddr t x i => v1 x fun x => v1 i fun i => indexAddr' P hp t x i
  | .index t x i => v1 x fun x => v1 i fun i => index' P t x i
  | .extract t i => v1 t fun t => match t with
    | .tup vs => match vs.getF i with
      | some v => some (true, v, [])
      | none => none
    | _ => none
  | .call c => call' S P gl get hp key c
  | _ => none
end ops

/-! ### States and code -/
def lk {α : Type} : List (Nat × α) → Nat → Option α
  | [], _ => none
  | (k, v) :: l, t => bif Nat.beq k t then some v else lk l t

structure St where
  tm : List (Nat × AV)
  hp : Eff
  nx : Nat

def St.get (σ : St) (t : Nat) : AV := (lk σ.tm t).getD .dead
def St.blk (σ : St) (id : Nat) : Option Bk := (lk σ.hp id).join

def St.put (σ : St) (d : Option Nat) (v : AV) (Δ : Eff) : St :=
  { σ with tm := match d with | some t => (t, v) :: σ.tm | none => σ.tm, hp := Δ ++ σ.hp }

/-- What a guard says. -/
inductive Ask where
  | go | skip
  | ask (t : Nat) (b w : Bool)

def wants (ops : List Oper) (σ : St) (o : Oper) : Option Ask := match o.guard with
  | none => some .go
  | some (j, w) => match (ops[j]?).bind (·.dst) with
    | some t => match σ.get t with
      | .bool b => some (.ask t b w)
      | .undef => some .skip
      | _ => none
    | none => none

/-- One operation in a state, carried out. -/
def goK {R : Type} (S : Specs) (P : Program) (gl : Nat → Option AV) (i : Nat) (o : Oper) (σ : St) (K : St → Option R) : Option R := match o.op with
  | .pick c a b => match opnd gl σ.get c with
    | some (.bool c) => bif c then (match opnd gl σ.get a with | some v => K (σ.put o.dst v []) | none => none) else (match opnd gl σ.get b with | some v => K (σ.put o.dst v []) | none => none)
    | _ => none
  | _ => match opE S P gl σ.get σ.blk (σ.nx + 8 * i) o with
    | some (c, v, Δ) => bif c then K (σ.put o.dst v Δ) else none
    | none => none

/-- One operation in a state; the guard's bool, once asked, is put down as known. -/
def stepK {R : Type} (S : Specs) (P : Program) (gl : Nat → Option AV) (all : List Oper) (i : Nat) (o : Oper) (σ : St) (K : St → Option R) : Option R :=
  match wants all σ o with
  | some .go => goK S P gl i o σ K
  | some .skip => K (σ.put o.dst .undef [])
  | some (.ask t b true) => bif b then goK S P gl i o { σ with tm := (t, .bool true) :: σ.tm } K else K ({ σ with tm := (t, .bool false) :: σ.tm }.put o.dst .undef [])
  | some (.ask t b false) => bif b then K ({ σ with tm := (t, .bool true) :: σ.tm }.put o.dst .undef []) else goK S P gl i o { σ with tm := (t, .bool false) :: σ.tm } K
  | none => none

def opsK {R : Type} (S : Specs) (P : Program) (gl : Nat → Option AV) (all : List Oper) : Nat → List Oper → St → (St → Option R) → Option R
  | _, [], σ, K => K σ
  | i, o :: l, σ, K => stepK S P gl all i o σ fun σ => opsK S P gl all (i + 1) l σ K

end Go.Proofs.Ytloohkifibfdiaa.Ae
