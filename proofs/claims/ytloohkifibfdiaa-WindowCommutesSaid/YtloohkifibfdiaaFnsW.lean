/- Functions of the program, each as the evaluator reads it: a tree of cases. Printed by gen.py. -/
import Derived.Test.YtloohkifibfdiaaAe24
import Derived.Test.YtloohkifibfdiaaProg
set_option linter.unusedVariables false
set_option maxRecDepth 100000
namespace Go.Proofs.Ytloohkifibfdiaa.Ae
open Go
noncomputable def body (f : Nat) : Code := ((Try.prog.funcs[f]?).bind (·.body)).getD .skip
noncomputable def fnOf (f : Nat) : Func := (Try.prog.funcs[f]?).getD default
theorem mixed : (Try.prog).follows .mixedOrders = true := by kernel_rfl

/-- window.New -/
@[reducible] def K25a : Kd := .nil
@[reducible] def K25o : Kd := (.cons (.cons (.int .u64) (.cons (.int .u64) (.cons (.int .u64) (.cons (.int .u64) .nil)))) .nil)
noncomputable def cx25 (n : Nat) : Cx := { S := noS, P := Try.prog, gl := noG, hint := [], nin := 0, fuel := n }
def raw25 (x : K25a.T) : Option K25o.T :=
 some (((1 : Int), ((0 : Int), ((0 : Int), ((1 : Int), ())))), ())
theorem eq25 (n : Nat) (x : K25a.T) : runD (cx25 n) (fnOf 25) (body 25) K25a K25o x = raw25 x := by kernel_rfl
theorem ok25 : FnOK Try.prog noG 25 (fnS K25a K25o (toF (raw25))) :=
  fn_sound (cx25 0) SpecOK.none mixed noG_ok (by kernel_rfl) (by kernel_rfl) (by kernel_rfl) (by kernel_rfl) (by kernel_rfl) (toF_run fun x => ⟨0, eq25 0 x⟩)
noncomputable def G25 : K25a.T → Bool × K25o.T := toF (raw25)
theorem fok25 : FnOK Try.prog noG 25 (fnS K25a K25o G25) := ok25

/-- window.Check -/
@[reducible] def K27a : Kd := (.cons (.cons (.int .u64) (.cons (.int .u64) (.cons (.int .u64) (.cons (.int .u64) .nil)))) .nil)
@[reducible] def K27o : Kd := (.cons (.int .i64) .nil)
noncomputable def cx27 (n : Nat) : Cx := { S := noS, P := Try.prog, gl := noG, hint := [], nin := 0, fuel := n }
def raw27 (x : K27a.T) : Option K27o.T :=
(bif (decide (x.1.1 < (1 : Int))) then
 some ((2 : Int), ())
 else
(bif (decide (x.1.1 > (1152921504606846977 : Int))) then
 some ((2 : Int), ())
 else
(bif (decide (x.1.2.2.2.1 < x.1.1)) then
 some ((2 : Int), ())
 else
(bif (decide (x.1.2.2.2.1 > (1152921504606846977 : Int))) then
 some ((2 : Int), ())
 else
(bif (decide (x.1.2.1 < (IntKind.u64.wrap (x.1.1 - (1 : Int))))) then
 some ((2 : Int), ())
 else
(bif (decide (x.1.2.1 ≥ x.1.2.2.2.1)) then
(bif (x.1.2.1 != (IntKind.u64.wrap (x.1.1 - (1 : Int)))) then
 some ((2 : Int), ())
 else
(bif (!(((IntKind.u64.wrap ((BitVec.ofInt IntKind.u64.bits x.1.2.2.1 &&& BitVec.ofInt IntKind.u64.bits (1 : Int)).toNat : Int)) == (1 : Int)) == (decide ((IntKind.u64.wrap ((IntKind.u64.wrap (x.1.2.1 + (1 : Int))) - x.1.1)) > (0 : Int))))) then
 some ((2 : Int), ())
 else
(bif (decide ((IntKind.u64.wrap ((IntKind.u64.wrap (x.1.2.1 + (1 : Int))) - x.1.1)) < (64 : Int))) then
(bif decide (0 ≤ (IntKind.u64.wrap ((IntKind.u64.wrap (x.1.2.1 + (1 : Int))) - x.1.1))) then
(bif ((x.1.2.2.1.fdiv (2 ^ (min (IntKind.u64.wrap ((IntKind.u64.wrap (x.1.2.1 + (1 : Int))) - x.1.1)).toNat IntKind.u64.bits))) != (0 : Int)) then
 some ((2 : Int), ())
 else
 some ((0 : Int), ()))
 else none)
 else
 some ((0 : Int), ()))))
 else
(bif (!(((IntKind.u64.wrap ((BitVec.ofInt IntKind.u64.bits x.1.2.2.1 &&& BitVec.ofInt IntKind.u64.bits (1 : Int)).toNat : Int)) == (1 : Int)) == (decide ((IntKind.u64.wrap ((IntKind.u64.wrap (x.1.2.1 + (1 : Int))) - x.1.1)) > (0 : Int))))) then
 some ((2 : Int), ())
 else
(bif (decide ((IntKind.u64.wrap ((IntKind.u64.wrap (x.1.2.1 + (1 : Int))) - x.1.1)) < (64 : Int))) then
(bif decide (0 ≤ (IntKind.u64.wrap ((IntKind.u64.wrap (x.1.2.1 + (1 : Int))) - x.1.1))) then
(bif ((x.1.2.2.1.fdiv (2 ^ (min (IntKind.u64.wrap ((IntKind.u64.wrap (x.1.2.1 + (1 : Int))) - x.1.1)).toNat IntKind.u64.bits))) != (0 : Int)) then
 some ((2 : Int), ())
 else
 some ((0 : Int), ()))
 else none)
 else
 some ((0 : Int), ())))))))))
theorem eq27 (n : Nat) (x : K27a.T) : runD (cx27 n) (fnOf 27) (body 27) K27a K27o x = raw27 x := by kernel_rfl
theorem ok27 : FnOK Try.prog noG 27 (fnS K27a K27o (toF (raw27))) :=
  fn_sound (cx27 0) SpecOK.none mixed noG_ok (by kernel_rfl) (by kernel_rfl) (by kernel_rfl) (by kernel_rfl) (by kernel_rfl) (toF_run fun x => ⟨0, eq27 0 x⟩)
noncomputable def G27 : K27a.T → Bool × K27o.T := toF (raw27)
theorem fok27 : FnOK Try.prog noG 27 (fnS K27a K27o G27) := ok27

/-- window.take -/
@[reducible] def K34a : Kd := (.cons (.cons (.int .u64) (.cons (.int .u64) (.cons (.int .u64) (.cons (.int .u64) .nil)))) (.cons (.int .u64) .nil))
@[reducible] def K34o : Kd := (.cons (.cons (.int .u64) (.cons (.int .u64) (.cons (.int .u64) (.cons (.int .u64) .nil)))) (.cons (.int .i64) .nil))
noncomputable def cx34 (n : Nat) : Cx := { S := noS, P := Try.prog, gl := noG, hint := [], nin := 0, fuel := n }
def raw34 (x : K34a.T) : Option K34o.T :=
(bif (x.2.1 == (0 : Int)) then
 some (((0 : Int), ((0 : Int), ((0 : Int), ((0 : Int), ())))), ((2 : Int), ()))
 else
(bif (decide (x.2.1 > (1152921504606846976 : Int))) then
 some (((0 : Int), ((0 : Int), ((0 : Int), ((0 : Int), ())))), ((2 : Int), ()))
 else
(bif (decide (x.2.1 < x.1.1)) then
(bif (decide (x.2.1 < x.1.1)) then
 some (((0 : Int), ((0 : Int), ((0 : Int), ((0 : Int), ())))), ((8 : Int), ()))
 else
(bif (decide (x.2.1 ≤ x.1.2.1)) then
(bif decide (0 ≤ (IntKind.u64.wrap (x.1.2.1 - x.2.1))) then
(bif ((IntKind.u64.wrap ((BitVec.ofInt IntKind.u64.bits (x.1.2.2.1.fdiv (2 ^ (min (IntKind.u64.wrap (x.1.2.1 - x.2.1)).toNat IntKind.u64.bits))) &&& BitVec.ofInt IntKind.u64.bits (1 : Int)).toNat : Int)) == (1 : Int)) then
 some (((0 : Int), ((0 : Int), ((0 : Int), ((0 : Int), ())))), ((7 : Int), ()))
 else
(bif (decide (x.2.1 ≥ x.1.2.2.2.1)) then
 some (((0 : Int), ((0 : Int), ((0 : Int), ((0 : Int), ())))), ((9 : Int), ()))
 else
(bif (decide (x.2.1 ≤ x.1.2.1)) then
(bif decide (0 ≤ (IntKind.u64.wrap (x.1.2.1 - x.2.1))) then
 some ((x.1.1, (x.1.2.1, ((IntKind.u64.wrap ((BitVec.ofInt IntKind.u64.bits x.1.2.2.1 ||| BitVec.ofInt IntKind.u64.bits (IntKind.u64.wrap ((1 : Int) * 2 ^ (min (IntKind.u64.wrap (x.1.2.1 - x.2.1)).toNat IntKind.u64.bits)))).toNat : Int)), x.1.2.2.2))), ((0 : Int), ()))
 else none)
 else
(bif decide (0 ≤ (IntKind.u64.wrap (x.2.1 - x.1.2.1))) then
 some ((x.1.1, (x.2.1, ((IntKind.u64.wrap ((BitVec.ofInt IntKind.u64.bits (IntKind.u64.wrap (x.1.2.2.1 * 2 ^ (min (IntKind.u64.wrap (x.2.1 - x.1.2.1)).toNat IntKind.u64.bits))) ||| BitVec.ofInt IntKind.u64.bits (1 : Int)).toNat : Int)), x.1.2.2.2))), ((0 : Int), ()))
 else none))))
 else none)
 else
(bif (decide (x.2.1 ≥ x.1.2.2.2.1)) then
 some (((0 : Int), ((0 : Int), ((0 : Int), ((0 : Int), ())))), ((9 : Int), ()))
 else
(bif (decide (x.2.1 ≤ x.1.2.1)) then
(bif decide (0 ≤ (IntKind.u64.wrap (x.1.2.1 - x.2.1))) then
 some ((x.1.1, (x.1.2.1, ((IntKind.u64.wrap ((BitVec.ofInt IntKind.u64.bits x.1.2.2.1 ||| BitVec.ofInt IntKind.u64.bits (IntKind.u64.wrap ((1 : Int) * 2 ^ (min (IntKind.u64.wrap (x.1.2.1 - x.2.1)).toNat IntKind.u64.bits)))).toNat : Int)), x.1.2.2.2))), ((0 : Int), ()))
 else none)
 else
(bif decide (0 ≤ (IntKind.u64.wrap (x.2.1 - x.1.2.1))) then
 some ((x.1.1, (x.2.1, ((IntKind.u64.wrap ((BitVec.ofInt IntKind.u64.bits (IntKind.u64.wrap (x.1.2.2.1 * 2 ^ (min (IntKind.u64.wrap (x.2.1 - x.1.2.1)).toNat IntKind.u64.bits))) ||| BitVec.ofInt IntKind.u64.bits (1 : Int)).toNat : Int)), x.1.2.2.2))), ((0 : Int), ()))
 else none)))))
 else
(bif (decide (x.2.1 ≤ x.1.2.1)) then
(bif (decide ((IntKind.u64.wrap (x.1.2.1 - x.2.1)) ≥ (64 : Int))) then
 some (((0 : Int), ((0 : Int), ((0 : Int), ((0 : Int), ())))), ((8 : Int), ()))
 else
(bif (decide (x.2.1 ≤ x.1.2.1)) then
(bif decide (0 ≤ (IntKind.u64.wrap (x.1.2.1 - x.2.1))) then
(bif ((IntKind.u64.wrap ((BitVec.ofInt IntKind.u64.bits (x.1.2.2.1.fdiv (2 ^ (min (IntKind.u64.wrap (x.1.2.1 - x.2.1)).toNat IntKind.u64.bits))) &&& BitVec.ofInt IntKind.u64.bits (1 : Int)).toNat : Int)) == (1 : Int)) then
 some (((0 : Int), ((0 : Int), ((0 : Int), ((0 : Int), ())))), ((7 : Int), ()))
 else
(bif (decide (x.2.1 ≥ x.1.2.2.2.1)) then
 some (((0 : Int), ((0 : Int), ((0 : Int), ((0 : Int), ())))), ((9 : Int), ()))
 else
(bif (decide (x.2.1 ≤ x.1.2.1)) then
(bif decide (0 ≤ (IntKind.u64.wrap (x.1.2.1 - x.2.1))) then
 some ((x.1.1, (x.1.2.1, ((IntKind.u64.wrap ((BitVec.ofInt IntKind.u64.bits x.1.2.2.1 ||| BitVec.ofInt IntKind.u64.bits (IntKind.u64.wrap ((1 : Int) * 2 ^ (min (IntKind.u64.wrap (x.1.2.1 - x.2.1)).toNat IntKind.u64.bits)))).toNat : Int)), x.1.2.2.2))), ((0 : Int), ()))
 else none)
 else
(bif decide (0 ≤ (IntKind.u64.wrap (x.2.1 - x.1.2.1))) then
 some ((x.1.1, (x.2.1, ((IntKind.u64.wrap ((BitVec.ofInt IntKind.u64.bits (IntKind.u64.wrap (x.1.2.2.1 * 2 ^ (min (IntKind.u64.wrap (x.2.1 - x.1.2.1)).toNat IntKind.u64.bits))) ||| BitVec.ofInt IntKind.u64.bits (1 : Int)).toNat : Int)), x.1.2.2.2))), ((0 : Int), ()))
 else none))))
 else none)
 else
(bif (decide (x.2.1 ≥ x.1.2.2.2.1)) then
 some (((0 : Int), ((0 : Int), ((0 : Int), ((0 : Int), ())))), ((9 : Int), ()))
 else
(bif (decide (x.2.1 ≤ x.1.2.1)) then
(bif decide (0 ≤ (IntKind.u64.wrap (x.1.2.1 - x.2.1))) then
 some ((x.1.1, (x.1.2.1, ((IntKind.u64.wrap ((BitVec.ofInt IntKind.u64.bits x.1.2.2.1 ||| BitVec.ofInt IntKind.u64.bits (IntKind.u64.wrap ((1 : Int) * 2 ^ (min (IntKind.u64.wrap (x.1.2.1 - x.2.1)).toNat IntKind.u64.bits)))).toNat : Int)), x.1.2.2.2))), ((0 : Int), ()))
 else none)
 else
(bif decide (0 ≤ (IntKind.u64.wrap (x.2.1 - x.1.2.1))) then
 some ((x.1.1, (x.2.1, ((IntKind.u64.wrap ((BitVec.ofInt IntKind.u64.bits (IntKind.u64.wrap (x.1.2.2.1 * 2 ^ (min (IntKind.u64.wrap (x.2.1 - x.1.2.1)).toNat IntKind.u64.bits))) ||| BitVec.ofInt IntKind.u64.bits (1 : Int)).toNat : Int)), x.1.2.2.2))), ((0 : Int), ()))
 else none)))))
 else
(bif (decide (x.2.1 ≤ x.1.2.1)) then
(bif decide (0 ≤ (IntKind.u64.wrap (x.1.2.1 - x.2.1))) then
(bif ((IntKind.u64.wrap ((BitVec.ofInt IntKind.u64.bits (x.1.2.2.1.fdiv (2 ^ (min (IntKind.u64.wrap (x.1.2.1 - x.2.1)).toNat IntKind.u64.bits))) &&& BitVec.ofInt IntKind.u64.bits (1 : Int)).toNat : Int)) == (1 : Int)) then
 some (((0 : Int), ((0 : Int), ((0 : Int), ((0 : Int), ())))), ((7 : Int), ()))
 else
(bif (decide (x.2.1 ≥ x.1.2.2.2.1)) then
 some (((0 : Int), ((0 : Int), ((0 : Int), ((0 : Int), ())))), ((9 : Int), ()))
 else
(bif (decide (x.2.1 ≤ x.1.2.1)) then
(bif decide (0 ≤ (IntKind.u64.wrap (x.1.2.1 - x.2.1))) then
 some ((x.1.1, (x.1.2.1, ((IntKind.u64.wrap ((BitVec.ofInt IntKind.u64.bits x.1.2.2.1 ||| BitVec.ofInt IntKind.u64.bits (IntKind.u64.wrap ((1 : Int) * 2 ^ (min (IntKind.u64.wrap (x.1.2.1 - x.2.1)).toNat IntKind.u64.bits)))).toNat : Int)), x.1.2.2.2))), ((0 : Int), ()))
 else none)
 else
(bif decide (0 ≤ (IntKind.u64.wrap (x.2.1 - x.1.2.1))) then
 some ((x.1.1, (x.2.1, ((IntKind.u64.wrap ((BitVec.ofInt IntKind.u64.bits (IntKind.u64.wrap (x.1.2.2.1 * 2 ^ (min (IntKind.u64.wrap (x.2.1 - x.1.2.1)).toNat IntKind.u64.bits))) ||| BitVec.ofInt IntKind.u64.bits (1 : Int)).toNat : Int)), x.1.2.2.2))), ((0 : Int), ()))
 else none))))
 else none)
 else
(bif (decide (x.2.1 ≥ x.1.2.2.2.1)) then
 some (((0 : Int), ((0 : Int), ((0 : Int), ((0 : Int), ())))), ((9 : Int), ()))
 else
(bif (decide (x.2.1 ≤ x.1.2.1)) then
(bif decide (0 ≤ (IntKind.u64.wrap (x.1.2.1 - x.2.1))) then
 some ((x.1.1, (x.1.2.1, ((IntKind.u64.wrap ((BitVec.ofInt IntKind.u64.bits x.1.2.2.1 ||| BitVec.ofInt IntKind.u64.bits (IntKind.u64.wrap ((1 : Int) * 2 ^ (min (IntKind.u64.wrap (x.1.2.1 - x.2.1)).toNat IntKind.u64.bits)))).toNat : Int)), x.1.2.2.2))), ((0 : Int), ()))
 else none)
 else
(bif decide (0 ≤ (IntKind.u64.wrap (x.2.1 - x.1.2.1))) then
 some ((x.1.1, (x.2.1, ((IntKind.u64.wrap ((BitVec.ofInt IntKind.u64.bits (IntKind.u64.wrap (x.1.2.2.1 * 2 ^ (min (IntKind.u64.wrap (x.2.1 - x.1.2.1)).toNat IntKind.u64.bits))) ||| BitVec.ofInt IntKind.u64.bits (1 : Int)).toNat : Int)), x.1.2.2.2))), ((0 : Int), ()))
 else none))))))))
theorem eq34 (n : Nat) (x : K34a.T) : runD (cx34 n) (fnOf 34) (body 34) K34a K34o x = raw34 x := by kernel_rfl
theorem ok34 : FnOK Try.prog noG 34 (fnS K34a K34o (toF (raw34))) :=
  fn_sound (cx34 0) SpecOK.none mixed noG_ok (by kernel_rfl) (by kernel_rfl) (by kernel_rfl) (by kernel_rfl) (by kernel_rfl) (toF_run fun x => ⟨0, eq34 0 x⟩)
noncomputable def G34 : K34a.T → Bool × K34o.T := toF (raw34)
theorem fok34 : FnOK Try.prog noG 34 (fnS K34a K34o G34) := ok34

/-- window.Take -/
@[reducible] def K23a : Kd := (.cons (.cons (.int .u64) (.cons (.int .u64) (.cons (.int .u64) (.cons (.int .u64) .nil)))) (.cons (.int .u64) .nil))
@[reducible] def K23o : Kd := (.cons (.cons (.int .u64) (.cons (.int .u64) (.cons (.int .u64) (.cons (.int .u64) .nil)))) (.cons (.int .i64) .nil))
noncomputable def cx23 (F27 : K27a.T → Bool × K27o.T) (F34 : K34a.T → Bool × K34o.T) (n : Nat) : Cx := { S := (addS (addS noS 27 (fnS K27a K27o F27)) 34 (fnS K34a K34o F34)), P := Try.prog, gl := noG, hint := [], nin := 0, fuel := n }
def raw23 (F27 : K27a.T → Bool × K27o.T) (F34 : K34a.T → Bool × K34o.T) (x : K23a.T) : Option K23o.T :=
(bif (F27 (x.1, ())).1 then
(bif ((F27 (x.1, ())).2.1 != (0 : Int)) then
 some (((0 : Int), ((0 : Int), ((0 : Int), ((0 : Int), ())))), ((F27 (x.1, ())).2.1, ()))
 else
(bif (F34 (x.1, (x.2.1, ()))).1 then
 some ((F34 (x.1, (x.2.1, ()))).2.1, ((F34 (x.1, (x.2.1, ()))).2.2.1, ()))
 else none))
 else none)
theorem eq23 (F27 : K27a.T → Bool × K27o.T) (F34 : K34a.T → Bool × K34o.T) (n : Nat) (x : K23a.T) : runD (cx23 F27 F34 n) (fnOf 23) (body 23) K23a K23o x = raw23 F27 F34 x := by kernel_rfl
theorem ok23 (F27 : K27a.T → Bool × K27o.T) (F34 : K34a.T → Bool × K34o.T) (h27 : FnOK Try.prog noG 27 (fnS K27a K27o F27)) (h34 : FnOK Try.prog noG 34 (fnS K34a K34o F34)) : FnOK Try.prog noG 23 (fnS K23a K23o (toF (raw23 F27 F34))) :=
  fn_sound (cx23 F27 F34 0) (SpecOK.add (SpecOK.add SpecOK.none h27) h34) mixed noG_ok (by kernel_rfl) (by kernel_rfl) (by kernel_rfl) (by kernel_rfl) (by kernel_rfl) (toF_run fun x => ⟨0, eq23 F27 F34 0 x⟩)
noncomputable def G23 : K23a.T → Bool × K23o.T := toF (raw23 G27 G34)
theorem fok23 : FnOK Try.prog noG 23 (fnS K23a K23o G23) := ok23 G27 G34 fok27 fok34

/-- window.Allow -/
@[reducible] def K22a : Kd := (.cons (.cons (.int .u64) (.cons (.int .u64) (.cons (.int .u64) (.cons (.int .u64) .nil)))) (.cons (.int .u64) .nil))
@[reducible] def K22o : Kd := (.cons (.cons (.int .u64) (.cons (.int .u64) (.cons (.int .u64) (.cons (.int .u64) .nil)))) (.cons (.int .i64) .nil))
noncomputable def cx22 (F27 : K27a.T → Bool × K27o.T) (n : Nat) : Cx := { S := (addS noS 27 (fnS K27a K27o F27)), P := Try.prog, gl := noG, hint := [], nin := 0, fuel := n }
def raw22 (F27 : K27a.T → Bool × K27o.T) (x : K22a.T) : Option K22o.T :=
(bif (F27 (x.1, ())).1 then
(bif ((F27 (x.1, ())).2.1 != (0 : Int)) then
 some (((0 : Int), ((0 : Int), ((0 : Int), ((0 : Int), ())))), ((F27 (x.1, ())).2.1, ()))
 else
(bif (decide (x.2.1 > (1152921504606846977 : Int))) then
 some (((0 : Int), ((0 : Int), ((0 : Int), ((0 : Int), ())))), ((2 : Int), ()))
 else
(bif (decide (x.2.1 ≤ x.1.2.2.2.1)) then
 some (((0 : Int), ((0 : Int), ((0 : Int), ((0 : Int), ())))), ((8 : Int), ()))
 else
 some ((x.1.1, (x.1.2.1, (x.1.2.2.1, (x.2.1, ())))), ((0 : Int), ())))))
 else none)
theorem eq22 (F27 : K27a.T → Bool × K27o.T) (n : Nat) (x : K22a.T) : runD (cx22 F27 n) (fnOf 22) (body 22) K22a K22o x = raw22 F27 x := by kernel_rfl
theorem ok22 (F27 : K27a.T → Bool × K27o.T) (h27 : FnOK Try.prog noG 27 (fnS K27a K27o F27)) : FnOK Try.prog noG 22 (fnS K22a K22o (toF (raw22 F27))) :=
  fn_sound (cx22 F27 0) (SpecOK.add SpecOK.none h27) mixed noG_ok (by kernel_rfl) (by kernel_rfl) (by kernel_rfl) (by kernel_rfl) (by kernel_rfl) (toF_run fun x => ⟨0, eq22 F27 0 x⟩)
noncomputable def G22 : K22a.T → Bool × K22o.T := toF (raw22 G27)
theorem fok22 : FnOK Try.prog noG 22 (fnS K22a K22o G22) := ok22 G27 fok27

/-- window.Seen -/
@[reducible] def K24a : Kd := (.cons (.cons (.int .u64) (.cons (.int .u64) (.cons (.int .u64) (.cons (.int .u64) .nil)))) (.cons (.int .u64) .nil))
@[reducible] def K24o : Kd := (.cons .bool .nil)
noncomputable def cx24 (F27 : K27a.T → Bool × K27o.T) (n : Nat) : Cx := { S := (addS noS 27 (fnS K27a K27o F27)), P := Try.prog, gl := noG, hint := [], nin := 0, fuel := n }
def raw24 (F27 : K27a.T → Bool × K27o.T) (x : K24a.T) : Option K24o.T :=
(bif (F27 (x.1, ())).1 then
(bif ((F27 (x.1, ())).2.1 == (0 : Int)) then
(bif (decide (x.2.1 ≤ x.1.2.1)) then
(bif (decide ((IntKind.u64.wrap (x.1.2.1 - x.2.1)) < (64 : Int))) then
(bif decide (0 ≤ (IntKind.u64.wrap (x.1.2.1 - x.2.1))) then
 some (((IntKind.u64.wrap ((BitVec.ofInt IntKind.u64.bits (x.1.2.2.1.fdiv (2 ^ (min (IntKind.u64.wrap (x.1.2.1 - x.2.1)).toNat IntKind.u64.bits))) &&& BitVec.ofInt IntKind.u64.bits (1 : Int)).toNat : Int)) == (1 : Int)), ())
 else none)
 else
 some (false, ()))
 else
 some (false, ()))
 else
 some (false, ()))
 else none)
theorem eq24 (F27 : K27a.T → Bool × K27o.T) (n : Nat) (x : K24a.T) : runD (cx24 F27 n) (fnOf 24) (body 24) K24a K24o x = raw24 F27 x := by kernel_rfl
theorem ok24 (F27 : K27a.T → Bool × K27o.T) (h27 : FnOK Try.prog noG 27 (fnS K27a K27o F27)) : FnOK Try.prog noG 24 (fnS K24a K24o (toF (raw24 F27))) :=
  fn_sound (cx24 F27 0) (SpecOK.add SpecOK.none h27) mixed noG_ok (by kernel_rfl) (by kernel_rfl) (by kernel_rfl) (by kernel_rfl) (by kernel_rfl) (toF_run fun x => ⟨0, eq24 F27 0 x⟩)
noncomputable def G24 : K24a.T → Bool × K24o.T := toF (raw24 G27)
theorem fok24 : FnOK Try.prog noG 24 (fnS K24a K24o G24) := ok24 G27 fok27

/-- drawbridgelaw07.lives: no argument; run as it stands. -/
@[reducible] def K20a : Kd := .nil
@[reducible] def K20o : Kd := (.cons .bool .nil)
noncomputable def cx20 (n : Nat) : Cx := { S := (addS (addS (addS (addS noS 25 (fnS K25a K25o G25)) 23 (fnS K23a K23o G23)) 22 (fnS K22a K22o G22)) 24 (fnS K24a K24o G24)), P := Try.prog, gl := noG, hint := [], nin := 0, fuel := n }
theorem eq20 (x : K20a.T) : runD (cx20 1) (fnOf 20) (body 20) K20a K20o x = some (true, ()) := by kernel_rfl
noncomputable def G20 : K20a.T → Bool × K20o.T := fun _ => (true, (true, ()))
theorem fok20 : FnOK Try.prog noG 20 (fnS K20a K20o G20) :=
  fn_sound (cx20 0) (SpecOK.add (SpecOK.add (SpecOK.add (SpecOK.add SpecOK.none fok25) fok23) fok22) fok24) mixed noG_ok (by kernel_rfl) (by kernel_rfl) (by kernel_rfl) (by kernel_rfl) (by kernel_rfl) (fun x _ => ⟨1, eq20 x⟩)

/-- drawbridgelaw07.WindowCommutes -/
@[reducible] def K7a : Kd := (.cons (.cons (.int .u64) (.cons (.int .u64) (.cons (.int .u64) (.cons (.int .u64) .nil)))) (.cons (.int .u64) (.cons (.int .u64) (.cons (.int .u64) .nil))))
@[reducible] def K7o : Kd := (.cons .bool .nil)
noncomputable def cx7 (F20 : K20a.T → Bool × K20o.T) (F23 : K23a.T → Bool × K23o.T) (F22 : K22a.T → Bool × K22o.T) (F24 : K24a.T → Bool × K24o.T) (n : Nat) : Cx := { S := (addS (addS (addS (addS noS 20 (fnS K20a K20o F20)) 23 (fnS K23a K23o F23)) 22 (fnS K22a K22o F22)) 24 (fnS K24a K24o F24)), P := Try.prog, gl := noG, hint := [], nin := 0, fuel := n }
def raw7 (F20 : K20a.T → Bool × K20o.T) (F23 : K23a.T → Bool × K23o.T) (F22 : K22a.T → Bool × K22o.T) (F24 : K24a.T → Bool × K24o.T) (x : K7a.T) : Option K7o.T :=
(bif (F20 ()).1 then
(bif (!(F20 ()).2.1) then
 some (false, ())
 else
(bif (F23 (x.1, (x.2.1, ()))).1 then
(bif (F23 ((F23 (x.1, (x.2.1, ()))).2.1, (x.2.2.1, ()))).1 then
(bif (F23 (x.1, (x.2.2.1, ()))).1 then
(bif (F23 ((F23 (x.1, (x.2.2.1, ()))).2.1, (x.2.1, ()))).1 then
(bif ((F23 (x.1, (x.2.1, ()))).2.2.1 == (0 : Int)) then
(bif ((F23 ((F23 (x.1, (x.2.1, ()))).2.1, (x.2.2.1, ()))).2.2.1 == (0 : Int)) then
(bif ((F23 (x.1, (x.2.2.1, ()))).2.2.1 == (0 : Int)) then
(bif ((F23 ((F23 (x.1, (x.2.2.1, ()))).2.1, (x.2.1, ()))).2.2.1 == (0 : Int)) then
(bif (x.2.1 == x.2.2.1) then
 some (false, ())
 else
(bif (!(((F23 ((F23 (x.1, (x.2.1, ()))).2.1, (x.2.2.1, ()))).2.1.1 == (F23 ((F23 (x.1, (x.2.2.1, ()))).2.1, (x.2.1, ()))).2.1.1) && (((F23 ((F23 (x.1, (x.2.1, ()))).2.1, (x.2.2.1, ()))).2.1.2.1 == (F23 ((F23 (x.1, (x.2.2.1, ()))).2.1, (x.2.1, ()))).2.1.2.1) && (((F23 ((F23 (x.1, (x.2.1, ()))).2.1, (x.2.2.1, ()))).2.1.2.2.1 == (F23 ((F23 (x.1, (x.2.2.1, ()))).2.1, (x.2.1, ()))).2.1.2.2.1) && (((F23 ((F23 (x.1, (x.2.1, ()))).2.1, (x.2.2.1, ()))).2.1.2.2.2.1 == (F23 ((F23 (x.1, (x.2.2.1, ()))).2.1, (x.2.1, ()))).2.1.2.2.2.1) && true))))) then
 some (false, ())
 else
(bif (F22 (x.1, (x.2.2.2.1, ()))).1 then
(bif ((F22 (x.1, (x.2.2.2.1, ()))).2.2.1 != (0 : Int)) then
 some (true, ())
 else
(bif (F23 ((F22 (x.1, (x.2.2.2.1, ()))).2.1, (x.2.1, ()))).1 then
(bif ((F22 (x.1, (x.2.2.2.1, ()))).2.1.2.2.2.1 != x.2.2.2.1) then
 some (false, ())
 else
(bif ((F22 (x.1, (x.2.2.2.1, ()))).2.1.1 != x.1.1) then
 some (false, ())
 else
(bif ((F22 (x.1, (x.2.2.2.1, ()))).2.1.2.1 != x.1.2.1) then
 some (false, ())
 else
(bif ((F22 (x.1, (x.2.2.2.1, ()))).2.1.2.2.1 != x.1.2.2.1) then
 some (false, ())
 else
(bif (F24 ((F22 (x.1, (x.2.2.2.1, ()))).2.1, (x.2.2.1, ()))).1 then
(bif (F24 (x.1, (x.2.2.1, ()))).1 then
(bif (!((F24 ((F22 (x.1, (x.2.2.2.1, ()))).2.1, (x.2.2.1, ()))).2.1 == (F24 (x.1, (x.2.2.1, ()))).2.1)) then
 some (false, ())
 else
(bif (decide (x.2.1 < x.1.2.2.2.1)) then
(bif ((F23 ((F22 (x.1, (x.2.2.2.1, ()))).2.1, (x.2.1, ()))).2.2.1 != (F23 (x.1, (x.2.1, ()))).2.2.1) then
 some (false, ())
 else
(bif (decide (x.2.1 ≥ x.1.2.2.2.1)) then
 some (true, ())
 else
(bif ((F23 ((F22 (x.1, (x.2.2.2.1, ()))).2.1, (x.2.1, ()))).2.2.1 != (0 : Int)) then
 some (true, ())
 else
 some ((((F23 ((F22 (x.1, (x.2.2.2.1, ()))).2.1, (x.2.1, ()))).2.1.1 == (F23 (x.1, (x.2.1, ()))).2.1.1) && (((F23 ((F22 (x.1, (x.2.2.2.1, ()))).2.1, (x.2.1, ()))).2.1.2.1 == (F23 (x.1, (x.2.1, ()))).2.1.2.1) && (((F23 ((F22 (x.1, (x.2.2.2.1, ()))).2.1, (x.2.1, ()))).2.1.2.2.1 == (F23 (x.1, (x.2.1, ()))).2.1.2.2.1) && ((x.1.2.2.2.1 == (F23 (x.1, (x.2.1, ()))).2.1.2.2.2.1) && true)))), ()))))
 else
(bif (decide (x.2.1 ≥ x.1.2.2.2.1)) then
 some (true, ())
 else
(bif ((F23 ((F22 (x.1, (x.2.2.2.1, ()))).2.1, (x.2.1, ()))).2.2.1 != (0 : Int)) then
 some (true, ())
 else
 some ((((F23 ((F22 (x.1, (x.2.2.2.1, ()))).2.1, (x.2.1, ()))).2.1.1 == (F23 (x.1, (x.2.1, ()))).2.1.1) && (((F23 ((F22 (x.1, (x.2.2.2.1, ()))).2.1, (x.2.1, ()))).2.1.2.1 == (F23 (x.1, (x.2.1, ()))).2.1.2.1) && (((F23 ((F22 (x.1, (x.2.2.2.1, ()))).2.1, (x.2.1, ()))).2.1.2.2.1 == (F23 (x.1, (x.2.1, ()))).2.1.2.2.1) && ((x.1.2.2.2.1 == (F23 (x.1, (x.2.1, ()))).2.1.2.2.2.1) && true)))), ())))))
 else none)
 else none)))))
 else none))
 else none)))
 else
(bif (F22 (x.1, (x.2.2.2.1, ()))).1 then
(bif ((F22 (x.1, (x.2.2.2.1, ()))).2.2.1 != (0 : Int)) then
 some (true, ())
 else
(bif (F23 ((F22 (x.1, (x.2.2.2.1, ()))).2.1, (x.2.1, ()))).1 then
(bif ((F22 (x.1, (x.2.2.2.1, ()))).2.1.2.2.2.1 != x.2.2.2.1) then
 some (false, ())
 else
(bif ((F22 (x.1, (x.2.2.2.1, ()))).2.1.1 != x.1.1) then
 some (false, ())
 else
(bif ((F22 (x.1, (x.2.2.2.1, ()))).2.1.2.1 != x.1.2.1) then
 some (false, ())
 else
(bif ((F22 (x.1, (x.2.2.2.1, ()))).2.1.2.2.1 != x.1.2.2.1) then
 some (false, ())
 else
(bif (F24 ((F22 (x.1, (x.2.2.2.1, ()))).2.1, (x.2.2.1, ()))).1 then
(bif (F24 (x.1, (x.2.2.1, ()))).1 then
(bif (!((F24 ((F22 (x.1, (x.2.2.2.1, ()))).2.1, (x.2.2.1, ()))).2.1 == (F24 (x.1, (x.2.2.1, ()))).2.1)) then
 some (false, ())
 else
(bif (decide (x.2.1 < x.1.2.2.2.1)) then
(bif ((F23 ((F22 (x.1, (x.2.2.2.1, ()))).2.1, (x.2.1, ()))).2.2.1 != (F23 (x.1, (x.2.1, ()))).2.2.1) then
 some (false, ())
 else
(bif (decide (x.2.1 ≥ x.1.2.2.2.1)) then
 some (true, ())
 else
(bif ((F23 ((F22 (x.1, (x.2.2.2.1, ()))).2.1, (x.2.1, ()))).2.2.1 != (0 : Int)) then
 some (true, ())
 else
 some ((((F23 ((F22 (x.1, (x.2.2.2.1, ()))).2.1, (x.2.1, ()))).2.1.1 == (F23 (x.1, (x.2.1, ()))).2.1.1) && (((F23 ((F22 (x.1, (x.2.2.2.1, ()))).2.1, (x.2.1, ()))).2.1.2.1 == (F23 (x.1, (x.2.1, ()))).2.1.2.1) && (((F23 ((F22 (x.1, (x.2.2.2.1, ()))).2.1, (x.2.1, ()))).2.1.2.2.1 == (F23 (x.1, (x.2.1, ()))).2.1.2.2.1) && ((x.1.2.2.2.1 == (F23 (x.1, (x.2.1, ()))).2.1.2.2.2.1) && true)))), ()))))
 else
(bif (decide (x.2.1 ≥ x.1.2.2.2.1)) then
 some (true, ())
 else
(bif ((F23 ((F22 (x.1, (x.2.2.2.1, ()))).2.1, (x.2.1, ()))).2.2.1 != (0 : Int)) then
 some (true, ())
 else
 some ((((F23 ((F22 (x.1, (x.2.2.2.1, ()))).2.1, (x.2.1, ()))).2.1.1 == (F23 (x.1, (x.2.1, ()))).2.1.1) && (((F23 ((F22 (x.1, (x.2.2.2.1, ()))).2.1, (x.2.1, ()))).2.1.2.1 == (F23 (x.1, (x.2.1, ()))).2.1.2.1) && (((F23 ((F22 (x.1, (x.2.2.2.1, ()))).2.1, (x.2.1, ()))).2.1.2.2.1 == (F23 (x.1, (x.2.1, ()))).2.1.2.2.1) && ((x.1.2.2.2.1 == (F23 (x.1, (x.2.1, ()))).2.1.2.2.2.1) && true)))), ())))))
 else none)
 else none)))))
 else none))
 else none))
 else
(bif (F22 (x.1, (x.2.2.2.1, ()))).1 then
(bif ((F22 (x.1, (x.2.2.2.1, ()))).2.2.1 != (0 : Int)) then
 some (true, ())
 else
(bif (F23 ((F22 (x.1, (x.2.2.2.1, ()))).2.1, (x.2.1, ()))).1 then
(bif ((F22 (x.1, (x.2.2.2.1, ()))).2.1.2.2.2.1 != x.2.2.2.1) then
 some (false, ())
 else
(bif ((F22 (x.1, (x.2.2.2.1, ()))).2.1.1 != x.1.1) then
 some (false, ())
 else
(bif ((F22 (x.1, (x.2.2.2.1, ()))).2.1.2.1 != x.1.2.1) then
 some (false, ())
 else
(bif ((F22 (x.1, (x.2.2.2.1, ()))).2.1.2.2.1 != x.1.2.2.1) then
 some (false, ())
 else
(bif (F24 ((F22 (x.1, (x.2.2.2.1, ()))).2.1, (x.2.2.1, ()))).1 then
(bif (F24 (x.1, (x.2.2.1, ()))).1 then
(bif (!((F24 ((F22 (x.1, (x.2.2.2.1, ()))).2.1, (x.2.2.1, ()))).2.1 == (F24 (x.1, (x.2.2.1, ()))).2.1)) then
 some (false, ())
 else
(bif (decide (x.2.1 < x.1.2.2.2.1)) then
(bif ((F23 ((F22 (x.1, (x.2.2.2.1, ()))).2.1, (x.2.1, ()))).2.2.1 != (F23 (x.1, (x.2.1, ()))).2.2.1) then
 some (false, ())
 else
(bif (decide (x.2.1 ≥ x.1.2.2.2.1)) then
 some (true, ())
 else
(bif ((F23 ((F22 (x.1, (x.2.2.2.1, ()))).2.1, (x.2.1, ()))).2.2.1 != (0 : Int)) then
 some (true, ())
 else
 some ((((F23 ((F22 (x.1, (x.2.2.2.1, ()))).2.1, (x.2.1, ()))).2.1.1 == (F23 (x.1, (x.2.1, ()))).2.1.1) && (((F23 ((F22 (x.1, (x.2.2.2.1, ()))).2.1, (x.2.1, ()))).2.1.2.1 == (F23 (x.1, (x.2.1, ()))).2.1.2.1) && (((F23 ((F22 (x.1, (x.2.2.2.1, ()))).2.1, (x.2.1, ()))).2.1.2.2.1 == (F23 (x.1, (x.2.1, ()))).2.1.2.2.1) && ((x.1.2.2.2.1 == (F23 (x.1, (x.2.1, ()))).2.1.2.2.2.1) && true)))), ()))))
 else
(bif (decide (x.2.1 ≥ x.1.2.2.2.1)) then
 some (true, ())
 else
(bif ((F23 ((F22 (x.1, (x.2.2.2.1, ()))).2.1, (x.2.1, ()))).2.2.1 != (0 : Int)) then
 some (true, ())
 else
 some ((((F23 ((F22 (x.1, (x.2.2.2.1, ()))).2.1, (x.2.1, ()))).2.1.1 == (F23 (x.1, (x.2.1, ()))).2.1.1) && (((F23 ((F22 (x.1, (x.2.2.2.1, ()))).2.1, (x.2.1, ()))).2.1.2.1 == (F23 (x.1, (x.2.1, ()))).2.1.2.1) && (((F23 ((F22 (x.1, (x.2.2.2.1, ()))).2.1, (x.2.1, ()))).2.1.2.2.1 == (F23 (x.1, (x.2.1, ()))).2.1.2.2.1) && ((x.1.2.2.2.1 == (F23 (x.1, (x.2.1, ()))).2.1.2.2.2.1) && true)))), ())))))
 else none)
 else none)))))
 else none))
 else none))
 else
(bif (F22 (x.1, (x.2.2.2.1, ()))).1 then
(bif ((F22 (x.1, (x.2.2.2.1, ()))).2.2.1 != (0 : Int)) then
 some (true, ())
 else
(bif (F23 ((F22 (x.1, (x.2.2.2.1, ()))).2.1, (x.2.1, ()))).1 then
(bif ((F22 (x.1, (x.2.2.2.1, ()))).2.1.2.2.2.1 != x.2.2.2.1) then
 some (false, ())
 else
(bif ((F22 (x.1, (x.2.2.2.1, ()))).2.1.1 != x.1.1) then
 some (false, ())
 else
(bif ((F22 (x.1, (x.2.2.2.1, ()))).2.1.2.1 != x.1.2.1) then
 some (false, ())
 else
(bif ((F22 (x.1, (x.2.2.2.1, ()))).2.1.2.2.1 != x.1.2.2.1) then
 some (false, ())
 else
(bif (F24 ((F22 (x.1, (x.2.2.2.1, ()))).2.1, (x.2.2.1, ()))).1 then
(bif (F24 (x.1, (x.2.2.1, ()))).1 then
(bif (!((F24 ((F22 (x.1, (x.2.2.2.1, ()))).2.1, (x.2.2.1, ()))).2.1 == (F24 (x.1, (x.2.2.1, ()))).2.1)) then
 some (false, ())
 else
(bif (decide (x.2.1 < x.1.2.2.2.1)) then
(bif ((F23 ((F22 (x.1, (x.2.2.2.1, ()))).2.1, (x.2.1, ()))).2.2.1 != (F23 (x.1, (x.2.1, ()))).2.2.1) then
 some (false, ())
 else
(bif (decide (x.2.1 ≥ x.1.2.2.2.1)) then
 some (true, ())
 else
(bif ((F23 ((F22 (x.1, (x.2.2.2.1, ()))).2.1, (x.2.1, ()))).2.2.1 != (0 : Int)) then
 some (true, ())
 else
 some ((((F23 ((F22 (x.1, (x.2.2.2.1, ()))).2.1, (x.2.1, ()))).2.1.1 == (F23 (x.1, (x.2.1, ()))).2.1.1) && (((F23 ((F22 (x.1, (x.2.2.2.1, ()))).2.1, (x.2.1, ()))).2.1.2.1 == (F23 (x.1, (x.2.1, ()))).2.1.2.1) && (((F23 ((F22 (x.1, (x.2.2.2.1, ()))).2.1, (x.2.1, ()))).2.1.2.2.1 == (F23 (x.1, (x.2.1, ()))).2.1.2.2.1) && ((x.1.2.2.2.1 == (F23 (x.1, (x.2.1, ()))).2.1.2.2.2.1) && true)))), ()))))
 else
(bif (decide (x.2.1 ≥ x.1.2.2.2.1)) then
 some (true, ())
 else
(bif ((F23 ((F22 (x.1, (x.2.2.2.1, ()))).2.1, (x.2.1, ()))).2.2.1 != (0 : Int)) then
 some (true, ())
 else
 some ((((F23 ((F22 (x.1, (x.2.2.2.1, ()))).2.1, (x.2.1, ()))).2.1.1 == (F23 (x.1, (x.2.1, ()))).2.1.1) && (((F23 ((F22 (x.1, (x.2.2.2.1, ()))).2.1, (x.2.1, ()))).2.1.2.1 == (F23 (x.1, (x.2.1, ()))).2.1.2.1) && (((F23 ((F22 (x.1, (x.2.2.2.1, ()))).2.1, (x.2.1, ()))).2.1.2.2.1 == (F23 (x.1, (x.2.1, ()))).2.1.2.2.1) && ((x.1.2.2.2.1 == (F23 (x.1, (x.2.1, ()))).2.1.2.2.2.1) && true)))), ())))))
 else none)
 else none)))))
 else none))
 else none))
 else
(bif (F22 (x.1, (x.2.2.2.1, ()))).1 then
(bif ((F22 (x.1, (x.2.2.2.1, ()))).2.2.1 != (0 : Int)) then
 some (true, ())
 else
(bif (F23 ((F22 (x.1, (x.2.2.2.1, ()))).2.1, (x.2.1, ()))).1 then
(bif ((F22 (x.1, (x.2.2.2.1, ()))).2.1.2.2.2.1 != x.2.2.2.1) then
 some (false, ())
 else
(bif ((F22 (x.1, (x.2.2.2.1, ()))).2.1.1 != x.1.1) then
 some (false, ())
 else
(bif ((F22 (x.1, (x.2.2.2.1, ()))).2.1.2.1 != x.1.2.1) then
 some (false, ())
 else
(bif ((F22 (x.1, (x.2.2.2.1, ()))).2.1.2.2.1 != x.1.2.2.1) then
 some (false, ())
 else
(bif (F24 ((F22 (x.1, (x.2.2.2.1, ()))).2.1, (x.2.2.1, ()))).1 then
(bif (F24 (x.1, (x.2.2.1, ()))).1 then
(bif (!((F24 ((F22 (x.1, (x.2.2.2.1, ()))).2.1, (x.2.2.1, ()))).2.1 == (F24 (x.1, (x.2.2.1, ()))).2.1)) then
 some (false, ())
 else
(bif (decide (x.2.1 < x.1.2.2.2.1)) then
(bif ((F23 ((F22 (x.1, (x.2.2.2.1, ()))).2.1, (x.2.1, ()))).2.2.1 != (F23 (x.1, (x.2.1, ()))).2.2.1) then
 some (false, ())
 else
(bif (decide (x.2.1 ≥ x.1.2.2.2.1)) then
 some (true, ())
 else
(bif ((F23 ((F22 (x.1, (x.2.2.2.1, ()))).2.1, (x.2.1, ()))).2.2.1 != (0 : Int)) then
 some (true, ())
 else
 some ((((F23 ((F22 (x.1, (x.2.2.2.1, ()))).2.1, (x.2.1, ()))).2.1.1 == (F23 (x.1, (x.2.1, ()))).2.1.1) && (((F23 ((F22 (x.1, (x.2.2.2.1, ()))).2.1, (x.2.1, ()))).2.1.2.1 == (F23 (x.1, (x.2.1, ()))).2.1.2.1) && (((F23 ((F22 (x.1, (x.2.2.2.1, ()))).2.1, (x.2.1, ()))).2.1.2.2.1 == (F23 (x.1, (x.2.1, ()))).2.1.2.2.1) && ((x.1.2.2.2.1 == (F23 (x.1, (x.2.1, ()))).2.1.2.2.2.1) && true)))), ()))))
 else
(bif (decide (x.2.1 ≥ x.1.2.2.2.1)) then
 some (true, ())
 else
(bif ((F23 ((F22 (x.1, (x.2.2.2.1, ()))).2.1, (x.2.1, ()))).2.2.1 != (0 : Int)) then
 some (true, ())
 else
 some ((((F23 ((F22 (x.1, (x.2.2.2.1, ()))).2.1, (x.2.1, ()))).2.1.1 == (F23 (x.1, (x.2.1, ()))).2.1.1) && (((F23 ((F22 (x.1, (x.2.2.2.1, ()))).2.1, (x.2.1, ()))).2.1.2.1 == (F23 (x.1, (x.2.1, ()))).2.1.2.1) && (((F23 ((F22 (x.1, (x.2.2.2.1, ()))).2.1, (x.2.1, ()))).2.1.2.2.1 == (F23 (x.1, (x.2.1, ()))).2.1.2.2.1) && ((x.1.2.2.2.1 == (F23 (x.1, (x.2.1, ()))).2.1.2.2.2.1) && true)))), ())))))
 else none)
 else none)))))
 else none))
 else none))
 else none)
 else none)
 else none)
 else none))
 else none)
theorem eq7 (F20 : K20a.T → Bool × K20o.T) (F23 : K23a.T → Bool × K23o.T) (F22 : K22a.T → Bool × K22o.T) (F24 : K24a.T → Bool × K24o.T) (n : Nat) (x : K7a.T) : runD (cx7 F20 F23 F22 F24 n) (fnOf 7) (body 7) K7a K7o x = raw7 F20 F23 F22 F24 x := by kernel_rfl
theorem ok7 (F20 : K20a.T → Bool × K20o.T) (F23 : K23a.T → Bool × K23o.T) (F22 : K22a.T → Bool × K22o.T) (F24 : K24a.T → Bool × K24o.T) (h20 : FnOK Try.prog noG 20 (fnS K20a K20o F20)) (h23 : FnOK Try.prog noG 23 (fnS K23a K23o F23)) (h22 : FnOK Try.prog noG 22 (fnS K22a K22o F22)) (h24 : FnOK Try.prog noG 24 (fnS K24a K24o F24)) : FnOK Try.prog noG 7 (fnS K7a K7o (toF (raw7 F20 F23 F22 F24))) :=
  fn_sound (cx7 F20 F23 F22 F24 0) (SpecOK.add (SpecOK.add (SpecOK.add (SpecOK.add SpecOK.none h20) h23) h22) h24) mixed noG_ok (by kernel_rfl) (by kernel_rfl) (by kernel_rfl) (by kernel_rfl) (by kernel_rfl) (toF_run fun x => ⟨0, eq7 F20 F23 F22 F24 0 x⟩)
noncomputable def G7 : K7a.T → Bool × K7o.T := toF (raw7 G20 G23 G22 G24)
theorem fok7 : FnOK Try.prog noG 7 (fnS K7a K7o G7) := ok7 G20 G23 G22 G24 fok20 fok23 fok22 fok24

end Go.Proofs.Ytloohkifibfdiaa.Ae
