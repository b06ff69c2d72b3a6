/- The evaluator of code, in continuation style, over Ae1's operations. Definitions alone; nothing is claimed here. -/
import Derived.Test.YtkmeimhapokdlaaAe1
set_option linter.unusedVariables false
namespace Go.Proofs.Ytkmeimhapokdlaa.Ae
open Go

/-! ### Renaming: what is live, in the order in which it is found -/
def AV.ren (ρ : Nat → Option Nat) : AV → AV
  | .ptr id i p => match ρ id with | some j => .ptr j i p | none => .dead
  | .hs id o l => match ρ id with | some j => .hs j o l | none => .dead
  | .hw id => match ρ id with | some j => .hw j | none => .dead
  | .mapv id => match ρ id with | some j => .mapv j | none => .dead
  | .cons a b => .cons (a.ren ρ) (b.ren ρ)
  | .fn f a b => .fn f (a.ren ρ) (b.ren ρ)
  | .iface t v => .iface t (v.ren ρ)
  | .tup v => .tup (v.ren ρ)
  | v => v

def Bk.ren (ρ : Nat → Option Nat) : Bk → Bk
  | .box v => .box (v.ren ρ)
  | .row K xs => .row K xs
  | .rowv v => .rowv (v.ren ρ)
  | .map Kk Kv es => .map Kk Kv es

def Bk.ids : Bk → List Nat
  | .box v => v.ids
  | .row _ _ => []
  | .rowv v => v.ids
  | .map _ _ _ => []

/-- From these blocks on: old numbers with new ones, in the order found. -/
def visit (hp : Hp) : Nat → List Nat → List (Nat × Nat) → Nat → Option (List (Nat × Nat) × Nat)
  | _, [], ρ, n => some (ρ, n)
  | 0, _ :: _, _, _ => none
  | d + 1, id :: todo, ρ, n => match lk ρ id with
    | some _ => visit hp d todo ρ n
    | none => match hp id with
      | some b => visit hp d (b.ids ++ todo) ((id, n) :: ρ) (n + 1)
      | none => visit hp d todo ρ n

def mapBk (hp : Hp) (ρ : Nat → Option Nat) : List (Nat × Nat) → Eff
  | [] => []
  | (old, new) :: l => (new, (hp old).map (·.ren ρ)) :: mapBk hp ρ l

def rngL : Nat → Nat → List Nat
  | _, 0 => []
  | i, n + 1 => i :: rngL (i + 1) n

def keepIds (get : Nat → AV) : List Nat → List Nat
  | [] => []
  | t :: l => (get t).ids ++ keepIds get l

def keepTm (get : Nat → AV) (ρ : Nat → Option Nat) : List Nat → List (Nat × AV)
  | [] => []
  | t :: l => (t, (get t).ren ρ) :: keepTm get ρ l

/-- Blocks that keep their numbers. -/
def pinIds (hp : Hp) : List Nat → List Nat
  | [] => []
  | j :: l => (match hp j with | some b => b.ids | none => []) ++ pinIds hp l

def pinMap : List Nat → List (Nat × Nat)
  | [] => []
  | j :: l => (j, j) :: pinMap l

/-- The state with these temporaries alone (the blocks of pin keep their numbers; they are below nin). -/
def norm (pin : List Nat) (nin : Nat) (keep : List Nat) (σ : St) : Option St := match pin.all (fun j => Nat.blt j nin) with
  | true => match visit σ.blk 20000 (pinIds σ.blk pin ++ keepIds σ.get keep) (pinMap pin) nin with
    | some (ρ, n) => some { tm := keepTm σ.get (lk ρ) keep, hp := mapBk σ.blk (lk ρ) ρ, nx := n }
    | none => none
  | false => none

/-! ### Regions whose order is drawn -/
/-- Must i come before j? (through the edges that bind) -/
def before (all : List Oper) : Nat → Nat → Nat → Bool
  | 0, _, _ => false
  | d + 1, i, j => match all[j]? with
    | some o => o.after.toList.any fun e => Region.binds .any e && (Nat.beq e.on i || before all d i e.on)
    | none => false

/-- Two operations that share no temporary (one with what the other looks at). -/
def disj : List Nat → List Nat → Bool
  | [], _ => true
  | a :: l, m => !m.contains a && disj l m

def topo (all : List Oper) : Nat → List Oper → Bool
  | _, [] => true
  | j, o :: l => o.after.toList.all (fun e => !Region.binds .any e || Nat.blt e.on j) && topo all (j + 1) l

def apartAll (all : List Oper) (i : Nat) (oi : Oper) : Nat → List Oper → Bool
  | _, [] => true
  | j, o :: l => (before all all.length i j || oi.apart all.toArray o) && apartAll all i oi (j + 1) l

def regOk (all : List Oper) : Nat → List Oper → Bool
  | _, [] => true
  | i, o :: l => apartAll all i o (i + 1) l && regOk all (i + 1) l

/-- What was done: the operation's number, the blocks touched, the blocks that may be read. -/
structure Rec where
  i : Nat
  tch : List Nat
  rd : List Nat

def domE : Eff → List Nat
  | [] => []
  | (k, _) :: l => k :: domE l

def keysL : List (Nat × Nat) → List Nat
  | [] => []
  | (k, _) :: l => k :: keysL l

def recOk (all : List Oper) (x y : Rec) : Bool := before all all.length x.i y.i || (disj x.tch y.rd && disj y.tch x.rd && disj x.tch y.tch)

/-- The newest first. -/
def recsOk (all : List Oper) : List Rec → Bool
  | [] => true
  | y :: l => l.all (fun x => recOk all x y) && recsOk all l

def only (hp : Hp) (R : List Nat) : Hp := fun id => if R.contains id then hp id else none

def opIds (gl : Nat → Option AV) (get : Nat → AV) : List Operand → List Nat
  | [] => []
  | x :: l => (match opnd gl get x with | some v => v.ids | none => []) ++ opIds gl get l

/-- The blocks that an operation may read. -/
def rdOf (op : Op) (l : List Nat) : List Nat := match op with
  | .move _ | .assign _ | .nilCheck _ => []
  | _ => l

/-- One operation of such a region. -/
def goD {R : Type} (S : Specs) (P : Program) (gl : Nat → Option AV) (i : Nat) (o : Oper) (σ : St) (K : St → Rec → Option R) : Option R := match o.op with
  | .pick c a b => match opnd gl σ.get c with
    | some (.bool c) => bif c then (match opnd gl σ.get a with | some v => K (σ.put o.dst v []) ⟨i, [], []⟩ | none => none) else (match opnd gl σ.get b with | some v => K (σ.put o.dst v []) ⟨i, [], []⟩ | none => none)
    | _ => none
  | _ => match visit σ.blk 20000 (opIds gl σ.get o.op.operands.toList) [] 0 with
    | none => none
    | some (ρ, _) => match opE S P gl σ.get (only σ.blk (rdOf o.op (keysL ρ))) (σ.nx + 64 * i) o with
      | some (c, v, Δ) => bif c then K (σ.put o.dst v Δ) ⟨i, domE Δ, rdOf o.op (keysL ρ)⟩ else none
      | none => none

def drawK {R : Type} (S : Specs) (P : Program) (gl : Nat → Option AV) (all : List Oper) : Nat → List Oper → List Rec → St → (St → Option R) → Option R
  | _, [], recs, σ, K => if recsOk all recs then K σ else none
  | i, o :: l, recs, σ, K => match wants all σ o with
    | some .go => goD S P gl i o σ fun σ r => drawK S P gl all (i + 1) l (r :: recs) σ K
    | some .skip => drawK S P gl all (i + 1) l (⟨i, [], []⟩ :: recs) (σ.put o.dst .undef []) K
    | some (.ask t b true) => bif b then goD S P gl i o { σ with tm := (t, .bool true) :: σ.tm } (fun σ r => drawK S P gl all (i + 1) l (r :: recs) σ K)
        else drawK S P gl all (i + 1) l (⟨i, [], []⟩ :: recs) ({ σ with tm := (t, .bool false) :: σ.tm }.put o.dst .undef []) K
    | some (.ask t b false) => bif b then drawK S P gl all (i + 1) l (⟨i, [], []⟩ :: recs) ({ σ with tm := (t, .bool true) :: σ.tm }.put o.dst .undef []) K
        else goD S P gl i o { σ with tm := (t, .bool false) :: σ.tm } (fun σ r => drawK S P gl all (i + 1) l (r :: recs) σ K)
    | none => none

/-- What is asked of a code's text. -/
def okC (nt : Nat) : Code → Bool
  | .region _ ops d => ops.toList.all (fun o => match o.dst with | some t => Nat.blt t nt | none => true) && (!d || (topo ops.toList 0 ops.toList && regOk ops.toList 0 ops.toList))
  | .seq a b | .cond _ a b => okC nt a && okC nt b
  | .block _ a | .loop a => okC nt a
  | _ => true

/-! ### Code -/
inductive Ex where
  | normal | exit (id : Nat) | ret

def loopK {R : Type} (body : St → (Ex → St → Option R) → Option R) (prep : St → Option St) : Nat → St → (Ex → St → Option R) → Option R
  | 0, _, _ => none
  | n + 1, σ, K => body σ fun e σ => match e with
    | .normal => match prep σ with
      | some σ => loopK body prep n σ K
      | none => none
    | e => K e σ

structure Cx where
  S : Specs
  P : Program
  gl : Nat → Option AV
  hint : List (Nat × List Nat)
  pin : List Nat
  nin : Nat
  fuel : Nat

def evK {R : Type} (c : Cx) : Code → Nat → St → (Ex → St → Option R) → Option R
  | .skip, _, σ, K => K .normal σ
  | .region _ ops d, _, σ, K => bif d then drawK c.S c.P c.gl ops.toList 0 ops.toList [] σ (fun σ => K .normal { σ with nx := σ.nx + 64 * ops.size }) else opsK c.S c.P c.gl ops.toList 0 ops.toList σ fun σ => K .normal { σ with nx := σ.nx + 64 * ops.size }
  | .seq a b, p, σ, K => evK c a (2 * p) σ fun e σ => match e with
    | .normal => evK c b (2 * p + 1) σ K
    | e => K e σ
  | .cond x a b, p, σ, K => match opnd c.gl σ.get x with
    | some (.bool t) => bif t then evK c a (2 * p) σ K else evK c b (2 * p + 1) σ K
    | _ => none
  | .block id a, p, σ, K => evK c a (2 * p) σ fun e σ => match e with
    | .exit j => if j = id then K .normal σ else K (.exit j) σ
    | e => K e σ
  | .loop a, p, σ, K => match lk c.hint p with
    | some keep => match norm c.pin c.nin keep σ with
      | some σ => loopK (fun σ K => evK c a (2 * p) σ K) (norm c.pin c.nin keep) c.fuel σ K
      | none => none
    | none => none
  | .exit id, _, σ, K => K (.exit id) σ
  | .ret, _, σ, K => K .ret σ
  | _, _, _, _ => none

/-- The part of a code that a path number leads to (1: the whole; 2p, 2p+1: the parts of p). -/
def sub (c : Code) : List Bool → Code
  | [] => c
  | b :: l => match c with
    | .seq x y => sub (if b then y else x) l
    | .cond _ x y => sub (if b then y else x) l
    | .block _ x | .loop x => sub x l
    | _ => .skip

/-- What follows the part of a code that a path leads to (fs: for each loop on the path the rounds that are left behind this one). -/
def contAt {R : Type} (c : Cx) : Code → Nat → List Bool → List Nat → (Ex → St → Option R) → Ex → St → Option R
  | _, _, [], _, K => K
  | .seq a b, p, false :: l, fs, K => contAt c a (2 * p) l fs fun e σ => match e with
    | .normal => evK c b (2 * p + 1) σ K
    | e => K e σ
  | .seq a b, p, true :: l, fs, K => contAt c b (2 * p + 1) l fs K
  | .cond x a b, p, false :: l, fs, K => contAt c a (2 * p) l fs K
  | .cond x a b, p, true :: l, fs, K => contAt c b (2 * p + 1) l fs K
  | .block id a, p, _ :: l, fs, K => contAt c a (2 * p) l fs fun e σ => match e with
    | .exit j => if j = id then K .normal σ else K (.exit j) σ
    | e => K e σ
  | .loop a, p, _ :: l, f :: fs, K => match lk c.hint p with
    | some keep => contAt c a (2 * p) l fs fun e σ => match e with
      | .normal => match norm c.pin c.nin keep σ with
        | some σ => loopK (fun σ K => evK c a (2 * p) σ K) (norm c.pin c.nin keep) f σ K
        | none => none
      | e => K e σ
    | none => fun _ _ => none
  | _, _, _, _, _ => fun _ _ => none

def pnum : List Bool → Nat → Nat
  | [], p => p
  | b :: l, p => pnum l (bif b then 2 * p + 1 else 2 * p)

/-- The run of a loop from a state at its head on, k rounds at the most. -/
def loopAt {R : Type} (c : Cx) (code : Code) (path : List Bool) (fs : List Nat) (k : Nat) (σ : St) (K : Ex → St → Option R) : Option R := match sub code path, lk c.hint (pnum path 1) with
  | .loop a, some keep => loopK (fun σ K => evK c a (2 * pnum path 1) σ K) (norm c.pin c.nin keep) k σ (contAt c code 1 path fs K)
  | _, _ => none

/-- The run of a part of a code, and of what follows it. -/
def partAt {R : Type} (c : Cx) (code : Code) (path : List Bool) (fs : List Nat) (σ : St) (K : Ex → St → Option R) : Option R :=
  evK c (sub code path) (pnum path 1) σ (contAt c code 1 path fs K)

/-! ### Results -/
def resV (P : Program) (get : Nat → AV) (hp : Hp) : List ResultVar → Option AV
  | [] => some .nil
  | .tmp t :: l => match (get t).isTup with
    | true => none
    | false => match resV P get hp l with
      | some r => some (.cons (get t) r)
      | none => none
  | .cell a t :: l => match load' P hp t (get a) with
    | some (true, v, _) => match v.isTup with
      | true => none
      | false => match resV P get hp l with
        | some r => some (.cons v r)
        | none => none
    | _ => none

/-- The result's data. -/
def finish (P : Program) (fn : Func) (Ko : Kd) (e : Ex) (σ : St) : Option Ko.T := match e with
  | .exit _ => none
  | _ => match resV P σ.get σ.blk fn.results.toList with
    | some v => dec σ.blk Ko v
    | none => none

def Kd.len : Kd → Nat
  | .cons _ b => b.len + 1
  | _ => 0

/-- No slice in it. -/
def Kd.flat : Kd → Bool
  | .sl _ => false
  | .arr _ e => e.flat
  | .cons a b => a.flat && b.flat
  | _ => true

/-- One result: its value; more, or none: a tuple. -/
def outV (Ko : Kd) (y : Ko.T) : AV := match enc Ko y with
  | .cons v .nil => v
  | v => .tup v

/-- A function of data: arguments read; the results, read-only. Own rows that came in are kept if no slice goes out. -/
def fnS (Ka Ko : Kd) (f : Ka.T → Bool × Ko.T) : AV → Hp → Nat → Res := fun args hp key => match dec hp Ka args with
  | some x => some ((f x).1, outV Ko (f x).2, if Ko.flat then [] else kill args.rows)
  | none => none

def addS (S : Specs) (id : Nat) (sp : AV → Hp → Nat → Res) : Specs := fun f => bif Nat.beq f id then sp else S f

def noS : Specs := fun _ _ _ _ => none

def tmList : Nat → AV → List (Nat × AV)
  | i, .cons a b => (i, a) :: tmList (i + 1) b
  | _, _ => []

/-- The body of a function at data. -/
def runD (c : Cx) (fn : Func) (code : Code) (Ka Ko : Kd) (x : Ka.T) : Option Ko.T :=
  evK c code 1 { tm := tmList 0 (enc Ka x), hp := [], nx := 0 } (finish c.P fn Ko)

end Go.Proofs.Ytkmeimhapokdlaa.Ae
