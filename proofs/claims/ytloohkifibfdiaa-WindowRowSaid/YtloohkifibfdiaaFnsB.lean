/- Functions of the program, each as the evaluator reads it: a tree of cases, and a function for each loop. Printed by gen2.py. -/
import Derived.Test.YtloohkifibfdiaaAe31
import Derived.Test.YtloohkifibfdiaaProg
set_option linter.unusedVariables false
set_option maxRecDepth 100000
namespace Go.Proofs.Ytloohkifibfdiaa.Ae
open Go
noncomputable def body (f : Nat) : Code := ((Try.prog.funcs[f]?).bind (·.body)).getD .skip
noncomputable def fnOf (f : Nat) : Func := (Try.prog.funcs[f]?).getD default
theorem mixed : (Try.prog).follows .mixedOrders = true := by kernel_rfl

/-- window.New -/
@[reducible] def M25a : Md := .nil
@[reducible] def M25o : Md := (.cons (.ro (.cons (.int .u64) (.cons (.int .u64) (.cons (.int .u64) (.cons (.int .u64) .nil))))) .nil)
noncomputable def cx25 (n : Nat) : Cx := { S := noS, P := Try.prog, gl := noG, hint := [], pin := [], nin := 0, fuel := n }
def t25 : Option (((Int × (Int × (Int × (Int × Unit)))) × Unit) × Unit) :=
 (some ((((1 : Int), (0 : Int), (0 : Int), (1 : Int), ()), ()), ()))
theorem eq25 (n : Nat) : runM (cx25 n) (fnOf 25) (body 25) M25a M25o () = t25 := by kernel_rfl
def raw25 (x : Unit) : Option (((Int × (Int × (Int × (Int × Unit)))) × Unit) × Unit) := t25
theorem ok25 : FnOK Try.prog noG 25 (fnM M25a M25o (toM (ma := M25a) (mo := M25o) (raw25))) :=
  fnM_sound (cx25 0) SpecOK.none mixed noG_ok (by kernel_rfl) (by kernel_rfl) (by kernel_rfl) (by kernel_rfl) (by kernel_rfl) (by kernel_rfl) (by kernel_rfl) (toM_run fun x => ⟨0, by have h := eq25 0; exact h⟩)

noncomputable def G25 : Unit → Bool × (((Int × (Int × (Int × (Int × Unit)))) × Unit) × Unit) := toM (ma := M25a) (mo := M25o) (raw25)
theorem fok25 : FnOK Try.prog noG 25 (fnM M25a M25o G25) := ok25
theorem G25_of {y : (((Int × (Int × (Int × (Int × Unit)))) × Unit) × Unit)} (h : t25 = some y) : G25 () = (true, y) := toM_some (ma := M25a) (mo := M25o) h

/-- window.Check -/
@[reducible] def M27a : Md := (.cons (.ro (.cons (.int .u64) (.cons (.int .u64) (.cons (.int .u64) (.cons (.int .u64) .nil))))) .nil)
@[reducible] def M27o : Md := (.cons (.ro (.int .i64)) .nil)
noncomputable def cx27 (n : Nat) : Cx := { S := noS, P := Try.prog, gl := noG, hint := [], pin := [], nin := 0, fuel := n }
def t27 (x0 : Int) (x1 : Int) (x2 : Int) (x3 : Int) : Option ((Int × Unit) × (Unit × Unit)) :=
 (jn (fun (y24_0 : Bool) =>
 (bif y24_0 then
 (some (((2 : Int), ()), ((), ())))
 else
 (jn (fun (y28_0 : Bool) =>
 (bif y28_0 then
 (some (((2 : Int), ()), ((), ())))
 else
 (some (((0 : Int), ()), ((), ()))))) fun (j28 : Bool → Option ((Int × Unit) × (Unit × Unit))) =>
 (bif (!(((IntKind.u64.wrap ((BitVec.ofInt 64 x2 &&& BitVec.ofInt 64 (1 : Int)).toNat : Int)) == (1 : Int)) == (decide ((IntKind.u64.wrap ((IntKind.u64.wrap (x1 + (1 : Int))) - x0)) > (0 : Int))))) then
 (j28 true)
 else
 (bif (decide ((IntKind.u64.wrap ((IntKind.u64.wrap (x1 + (1 : Int))) - x0)) < (64 : Int))) then
 (ck (decide (0 ≤ (IntKind.u64.wrap ((IntKind.u64.wrap (x1 + (1 : Int))) - x0))))
 (j28 ((x2.fdiv (2 ^ (min (IntKind.u64.wrap ((IntKind.u64.wrap (x1 + (1 : Int))) - x0)).toNat 64))) != (0 : Int))))
 else
 (j28 false)))))) fun (j24 : Bool → Option ((Int × Unit) × (Unit × Unit))) =>
 (bif (decide (x0 < (1 : Int))) then
 (j24 true)
 else
 (bif (decide (x0 > (1152921504606846977 : Int))) then
 (j24 true)
 else
 (bif (decide (x3 < x0)) then
 (j24 true)
 else
 (bif (decide (x3 > (1152921504606846977 : Int))) then
 (j24 true)
 else
 (bif (decide (x1 < (IntKind.u64.wrap (x0 - (1 : Int))))) then
 (j24 true)
 else
 (bif (decide (x1 ≥ x3)) then
 (j24 (x1 != (IntKind.u64.wrap (x0 - (1 : Int)))))
 else
 (j24 false))))))))
theorem eq27 (n : Nat) (x0 : Int) (x1 : Int) (x2 : Int) (x3 : Int) : runM (cx27 n) (fnOf 27) (body 27) M27a M27o ((x0, x1, x2, x3, ()), ()) = t27 x0 x1 x2 x3 := by kernel_rfl
def raw27 (x : ((Int × (Int × (Int × (Int × Unit)))) × Unit)) : Option ((Int × Unit) × (Unit × Unit)) := t27 x.1.1 x.1.2.1 x.1.2.2.1 x.1.2.2.2.1
theorem ok27 : FnOK Try.prog noG 27 (fnM M27a M27o (toM (ma := M27a) (mo := M27o) (raw27))) :=
  fnM_sound (cx27 0) SpecOK.none mixed noG_ok (by kernel_rfl) (by kernel_rfl) (by kernel_rfl) (by kernel_rfl) (by kernel_rfl) (by kernel_rfl) (by kernel_rfl) (toM_run fun x => ⟨0, by have h := eq27 0 x.1.1 x.1.2.1 x.1.2.2.1 x.1.2.2.2.1; exact h⟩)

noncomputable def G27 : ((Int × (Int × (Int × (Int × Unit)))) × Unit) → Bool × ((Int × Unit) × (Unit × Unit)) := toM (ma := M27a) (mo := M27o) (raw27)
theorem fok27 : FnOK Try.prog noG 27 (fnM M27a M27o G27) := ok27
theorem G27_of {x0 : Int} {x1 : Int} {x2 : Int} {x3 : Int} {y : ((Int × Unit) × (Unit × Unit))} (h : t27 x0 x1 x2 x3 = some y) : G27 ((x0, x1, x2, x3, ()), ()) = (true, y) := toM_some (ma := M27a) (mo := M27o) h

/-- window.take -/
@[reducible] def M34a : Md := (.cons (.ro (.cons (.int .u64) (.cons (.int .u64) (.cons (.int .u64) (.cons (.int .u64) .nil))))) (.cons (.ro (.int .u64)) .nil))
@[reducible] def M34o : Md := (.cons (.ro (.cons (.int .u64) (.cons (.int .u64) (.cons (.int .u64) (.cons (.int .u64) .nil))))) (.cons (.ro (.int .i64)) .nil))
noncomputable def cx34 (n : Nat) : Cx := { S := noS, P := Try.prog, gl := noG, hint := [], pin := [], nin := 0, fuel := n }
def t34 (x0 : Int) (x1 : Int) (x2 : Int) (x3 : Int) (x4 : Int) : Option (((Int × (Int × (Int × (Int × Unit)))) × (Int × Unit)) × (Unit × (Unit × Unit))) :=
 (jn (fun (y53_0 : Bool) =>
 (bif y53_0 then
 (some ((((0 : Int), (0 : Int), (0 : Int), (0 : Int), ()), (2 : Int), ()), ((), (), ())))
 else
 (jn (fun (y55_0 : Bool) =>
 (bif y55_0 then
 (some ((((0 : Int), (0 : Int), (0 : Int), (0 : Int), ()), (8 : Int), ()), ((), (), ())))
 else
 (jn (fun (y58_0 : Bool) =>
 (bif y58_0 then
 (some ((((0 : Int), (0 : Int), (0 : Int), (0 : Int), ()), (7 : Int), ()), ((), (), ())))
 else
 (bif (decide (x4 ≥ x3)) then
 (some ((((0 : Int), (0 : Int), (0 : Int), (0 : Int), ()), (9 : Int), ()), ((), (), ())))
 else
 (bif (decide (x4 ≤ x1)) then
 (ck (decide (0 ≤ (IntKind.u64.wrap (x1 - x4))))
 (some (((x0, x1, (IntKind.u64.wrap ((BitVec.ofInt 64 x2 ||| BitVec.ofInt 64 (IntKind.u64.wrap ((1 : Int) * 2 ^ (min (IntKind.u64.wrap (x1 - x4)).toNat 64)))).toNat : Int)), x3, ()), (0 : Int), ()), ((), (), ()))))
 else
 (ck (decide (0 ≤ (IntKind.u64.wrap (x4 - x1))))
 (some (((x0, x4, (IntKind.u64.wrap ((BitVec.ofInt 64 (IntKind.u64.wrap (x2 * 2 ^ (min (IntKind.u64.wrap (x4 - x1)).toNat 64))) ||| BitVec.ofInt 64 (1 : Int)).toNat : Int)), x3, ()), (0 : Int), ()), ((), (), ())))))))) fun (j58 : Bool → Option (((Int × (Int × (Int × (Int × Unit)))) × (Int × Unit)) × (Unit × (Unit × Unit)))) =>
 (bif (decide (x4 ≤ x1)) then
 (ck (decide (0 ≤ (IntKind.u64.wrap (x1 - x4))))
 (j58 ((IntKind.u64.wrap ((BitVec.ofInt 64 (x2.fdiv (2 ^ (min (IntKind.u64.wrap (x1 - x4)).toNat 64))) &&& BitVec.ofInt 64 (1 : Int)).toNat : Int)) == (1 : Int))))
 else
 (j58 false))))) fun (j55 : Bool → Option (((Int × (Int × (Int × (Int × Unit)))) × (Int × Unit)) × (Unit × (Unit × Unit)))) =>
 (bif (decide (x4 < x0)) then
 (j55 (decide (x4 < x0)))
 else
 (bif (decide (x4 ≤ x1)) then
 (j55 (decide ((IntKind.u64.wrap (x1 - x4)) ≥ (64 : Int))))
 else
 (j55 false)))))) fun (j53 : Bool → Option (((Int × (Int × (Int × (Int × Unit)))) × (Int × Unit)) × (Unit × (Unit × Unit)))) =>
 (bif (x4 == (0 : Int)) then
 (j53 true)
 else
 (j53 (decide (x4 > (1152921504606846976 : Int))))))
theorem eq34 (n : Nat) (x0 : Int) (x1 : Int) (x2 : Int) (x3 : Int) (x4 : Int) : runM (cx34 n) (fnOf 34) (body 34) M34a M34o ((x0, x1, x2, x3, ()), x4, ()) = t34 x0 x1 x2 x3 x4 := by kernel_rfl
def raw34 (x : ((Int × (Int × (Int × (Int × Unit)))) × (Int × Unit))) : Option (((Int × (Int × (Int × (Int × Unit)))) × (Int × Unit)) × (Unit × (Unit × Unit))) := t34 x.1.1 x.1.2.1 x.1.2.2.1 x.1.2.2.2.1 x.2.1
theorem ok34 : FnOK Try.prog noG 34 (fnM M34a M34o (toM (ma := M34a) (mo := M34o) (raw34))) :=
  fnM_sound (cx34 0) SpecOK.none mixed noG_ok (by kernel_rfl) (by kernel_rfl) (by kernel_rfl) (by kernel_rfl) (by kernel_rfl) (by kernel_rfl) (by kernel_rfl) (toM_run fun x => ⟨0, by have h := eq34 0 x.1.1 x.1.2.1 x.1.2.2.1 x.1.2.2.2.1 x.2.1; exact h⟩)

noncomputable def G34 : ((Int × (Int × (Int × (Int × Unit)))) × (Int × Unit)) → Bool × (((Int × (Int × (Int × (Int × Unit)))) × (Int × Unit)) × (Unit × (Unit × Unit))) := toM (ma := M34a) (mo := M34o) (raw34)
theorem fok34 : FnOK Try.prog noG 34 (fnM M34a M34o G34) := ok34
theorem G34_of {x0 : Int} {x1 : Int} {x2 : Int} {x3 : Int} {x4 : Int} {y : (((Int × (Int × (Int × (Int × Unit)))) × (Int × Unit)) × (Unit × (Unit × Unit)))} (h : t34 x0 x1 x2 x3 x4 = some y) : G34 ((x0, x1, x2, x3, ()), x4, ()) = (true, y) := toM_some (ma := M34a) (mo := M34o) h

/-- window.Take -/
@[reducible] def M23a : Md := (.cons (.ro (.cons (.int .u64) (.cons (.int .u64) (.cons (.int .u64) (.cons (.int .u64) .nil))))) (.cons (.ro (.int .u64)) .nil))
@[reducible] def M23o : Md := (.cons (.ro (.cons (.int .u64) (.cons (.int .u64) (.cons (.int .u64) (.cons (.int .u64) .nil))))) (.cons (.ro (.int .i64)) .nil))
noncomputable def cx23 (F27 : ((Int × (Int × (Int × (Int × Unit)))) × Unit) → Bool × ((Int × Unit) × (Unit × Unit))) (F34 : ((Int × (Int × (Int × (Int × Unit)))) × (Int × Unit)) → Bool × (((Int × (Int × (Int × (Int × Unit)))) × (Int × Unit)) × (Unit × (Unit × Unit)))) (n : Nat) : Cx := { S := (addV (addV noS 27 (fnM M27a M27o F27)) 34 (fnM M34a M34o F34)), P := Try.prog, gl := noG, hint := [], pin := [], nin := 0, fuel := n }
def t23 (F27 : ((Int × (Int × (Int × (Int × Unit)))) × Unit) → Bool × ((Int × Unit) × (Unit × Unit))) (F34 : ((Int × (Int × (Int × (Int × Unit)))) × (Int × Unit)) → Bool × (((Int × (Int × (Int × (Int × Unit)))) × (Int × Unit)) × (Unit × (Unit × Unit)))) (x0 : Int) (x1 : Int) (x2 : Int) (x3 : Int) (x4 : Int) : Option (((Int × (Int × (Int × (Int × Unit)))) × (Int × Unit)) × (Unit × (Unit × Unit))) :=
 (cl (F27 ((x0, x1, x2, x3, ()), ())) fun r4 =>
 (bif (r4.1.1 != (0 : Int)) then
 (some ((((0 : Int), (0 : Int), (0 : Int), (0 : Int), ()), r4.1.1, ()), ((), (), ())))
 else
 (cl (F34 ((x0, x1, x2, x3, ()), x4, ())) fun r5 =>
 (some (((r5.1.1.1, r5.1.1.2.1, r5.1.1.2.2.1, r5.1.1.2.2.2.1, ()), r5.1.2.1, ()), ((), (), ()))))))
theorem eq23 (F27 : ((Int × (Int × (Int × (Int × Unit)))) × Unit) → Bool × ((Int × Unit) × (Unit × Unit))) (F34 : ((Int × (Int × (Int × (Int × Unit)))) × (Int × Unit)) → Bool × (((Int × (Int × (Int × (Int × Unit)))) × (Int × Unit)) × (Unit × (Unit × Unit)))) (n : Nat) (x0 : Int) (x1 : Int) (x2 : Int) (x3 : Int) (x4 : Int) : runM (cx23 F27 F34 n) (fnOf 23) (body 23) M23a M23o ((x0, x1, x2, x3, ()), x4, ()) = t23 F27 F34 x0 x1 x2 x3 x4 := by kernel_rfl
def raw23 (F27 : ((Int × (Int × (Int × (Int × Unit)))) × Unit) → Bool × ((Int × Unit) × (Unit × Unit))) (F34 : ((Int × (Int × (Int × (Int × Unit)))) × (Int × Unit)) → Bool × (((Int × (Int × (Int × (Int × Unit)))) × (Int × Unit)) × (Unit × (Unit × Unit)))) (x : ((Int × (Int × (Int × (Int × Unit)))) × (Int × Unit))) : Option (((Int × (Int × (Int × (Int × Unit)))) × (Int × Unit)) × (Unit × (Unit × Unit))) := t23 F27 F34 x.1.1 x.1.2.1 x.1.2.2.1 x.1.2.2.2.1 x.2.1
theorem ok23 (F27 : ((Int × (Int × (Int × (Int × Unit)))) × Unit) → Bool × ((Int × Unit) × (Unit × Unit))) (F34 : ((Int × (Int × (Int × (Int × Unit)))) × (Int × Unit)) → Bool × (((Int × (Int × (Int × (Int × Unit)))) × (Int × Unit)) × (Unit × (Unit × Unit)))) (h27 : FnOK Try.prog noG 27 (fnM M27a M27o F27)) (h34 : FnOK Try.prog noG 34 (fnM M34a M34o F34)) : FnOK Try.prog noG 23 (fnM M23a M23o (toM (ma := M23a) (mo := M23o) (raw23 F27 F34))) :=
  fnM_sound (cx23 F27 F34 0) (SpecOK.addV (SpecOK.addV SpecOK.none h27) h34) mixed noG_ok (by kernel_rfl) (by kernel_rfl) (by kernel_rfl) (by kernel_rfl) (by kernel_rfl) (by kernel_rfl) (by kernel_rfl) (toM_run fun x => ⟨0, by have h := eq23 F27 F34 0 x.1.1 x.1.2.1 x.1.2.2.1 x.1.2.2.2.1 x.2.1; exact h⟩)

noncomputable def G23 : ((Int × (Int × (Int × (Int × Unit)))) × (Int × Unit)) → Bool × (((Int × (Int × (Int × (Int × Unit)))) × (Int × Unit)) × (Unit × (Unit × Unit))) := toM (ma := M23a) (mo := M23o) (raw23 G27 G34)
theorem fok23 : FnOK Try.prog noG 23 (fnM M23a M23o G23) := ok23 G27 G34 fok27 fok34
theorem G23_of {x0 : Int} {x1 : Int} {x2 : Int} {x3 : Int} {x4 : Int} {y : (((Int × (Int × (Int × (Int × Unit)))) × (Int × Unit)) × (Unit × (Unit × Unit)))} (h : t23 G27 G34 x0 x1 x2 x3 x4 = some y) : G23 ((x0, x1, x2, x3, ()), x4, ()) = (true, y) := toM_some (ma := M23a) (mo := M23o) h

/-- window.Allow -/
@[reducible] def M22a : Md := (.cons (.ro (.cons (.int .u64) (.cons (.int .u64) (.cons (.int .u64) (.cons (.int .u64) .nil))))) (.cons (.ro (.int .u64)) .nil))
@[reducible] def M22o : Md := (.cons (.ro (.cons (.int .u64) (.cons (.int .u64) (.cons (.int .u64) (.cons (.int .u64) .nil))))) (.cons (.ro (.int .i64)) .nil))
noncomputable def cx22 (F27 : ((Int × (Int × (Int × (Int × Unit)))) × Unit) → Bool × ((Int × Unit) × (Unit × Unit))) (n : Nat) : Cx := { S := (addV noS 27 (fnM M27a M27o F27)), P := Try.prog, gl := noG, hint := [], pin := [], nin := 0, fuel := n }
def t22 (F27 : ((Int × (Int × (Int × (Int × Unit)))) × Unit) → Bool × ((Int × Unit) × (Unit × Unit))) (x0 : Int) (x1 : Int) (x2 : Int) (x3 : Int) (x4 : Int) : Option (((Int × (Int × (Int × (Int × Unit)))) × (Int × Unit)) × (Unit × (Unit × Unit))) :=
 (cl (F27 ((x0, x1, x2, x3, ()), ())) fun r9 =>
 (bif (r9.1.1 != (0 : Int)) then
 (some ((((0 : Int), (0 : Int), (0 : Int), (0 : Int), ()), r9.1.1, ()), ((), (), ())))
 else
 (bif (decide (x4 > (1152921504606846977 : Int))) then
 (some ((((0 : Int), (0 : Int), (0 : Int), (0 : Int), ()), (2 : Int), ()), ((), (), ())))
 else
 (bif (decide (x4 ≤ x3)) then
 (some ((((0 : Int), (0 : Int), (0 : Int), (0 : Int), ()), (8 : Int), ()), ((), (), ())))
 else
 (some (((x0, x1, x2, x4, ()), (0 : Int), ()), ((), (), ())))))))
theorem eq22 (F27 : ((Int × (Int × (Int × (Int × Unit)))) × Unit) → Bool × ((Int × Unit) × (Unit × Unit))) (n : Nat) (x0 : Int) (x1 : Int) (x2 : Int) (x3 : Int) (x4 : Int) : runM (cx22 F27 n) (fnOf 22) (body 22) M22a M22o ((x0, x1, x2, x3, ()), x4, ()) = t22 F27 x0 x1 x2 x3 x4 := by kernel_rfl
def raw22 (F27 : ((Int × (Int × (Int × (Int × Unit)))) × Unit) → Bool × ((Int × Unit) × (Unit × Unit))) (x : ((Int × (Int × (Int × (Int × Unit)))) × (Int × Unit))) : Option (((Int × (Int × (Int × (Int × Unit)))) × (Int × Unit)) × (Unit × (Unit × Unit))) := t22 F27 x.1.1 x.1.2.1 x.1.2.2.1 x.1.2.2.2.1 x.2.1
theorem ok22 (F27 : ((Int × (Int × (Int × (Int × Unit)))) × Unit) → Bool × ((Int × Unit) × (Unit × Unit))) (h27 : FnOK Try.prog noG 27 (fnM M27a M27o F27)) : FnOK Try.prog noG 22 (fnM M22a M22o (toM (ma := M22a) (mo := M22o) (raw22 F27))) :=
  fnM_sound (cx22 F27 0) (SpecOK.addV SpecOK.none h27) mixed noG_ok (by kernel_rfl) (by kernel_rfl) (by kernel_rfl) (by kernel_rfl) (by kernel_rfl) (by kernel_rfl) (by kernel_rfl) (toM_run fun x => ⟨0, by have h := eq22 F27 0 x.1.1 x.1.2.1 x.1.2.2.1 x.1.2.2.2.1 x.2.1; exact h⟩)

noncomputable def G22 : ((Int × (Int × (Int × (Int × Unit)))) × (Int × Unit)) → Bool × (((Int × (Int × (Int × (Int × Unit)))) × (Int × Unit)) × (Unit × (Unit × Unit))) := toM (ma := M22a) (mo := M22o) (raw22 G27)
theorem fok22 : FnOK Try.prog noG 22 (fnM M22a M22o G22) := ok22 G27 fok27
theorem G22_of {x0 : Int} {x1 : Int} {x2 : Int} {x3 : Int} {x4 : Int} {y : (((Int × (Int × (Int × (Int × Unit)))) × (Int × Unit)) × (Unit × (Unit × Unit)))} (h : t22 G27 x0 x1 x2 x3 x4 = some y) : G22 ((x0, x1, x2, x3, ()), x4, ()) = (true, y) := toM_some (ma := M22a) (mo := M22o) h

/-- window.Seen -/
@[reducible] def M24a : Md := (.cons (.ro (.cons (.int .u64) (.cons (.int .u64) (.cons (.int .u64) (.cons (.int .u64) .nil))))) (.cons (.ro (.int .u64)) .nil))
@[reducible] def M24o : Md := (.cons (.ro .bool) .nil)
noncomputable def cx24 (F27 : ((Int × (Int × (Int × (Int × Unit)))) × Unit) → Bool × ((Int × Unit) × (Unit × Unit))) (n : Nat) : Cx := { S := (addV noS 27 (fnM M27a M27o F27)), P := Try.prog, gl := noG, hint := [], pin := [], nin := 0, fuel := n }
def t24 (F27 : ((Int × (Int × (Int × (Int × Unit)))) × Unit) → Bool × ((Int × Unit) × (Unit × Unit))) (x0 : Int) (x1 : Int) (x2 : Int) (x3 : Int) (x4 : Int) : Option ((Bool × Unit) × (Unit × (Unit × Unit))) :=
 (jn (fun (y105_0 : Bool) =>
 some ((y105_0, ()), ((), (), ()))) fun (j105 : Bool → Option ((Bool × Unit) × (Unit × (Unit × Unit)))) =>
 (cl (F27 ((x0, x1, x2, x3, ()), ())) fun r16 =>
 (bif (r16.1.1 == (0 : Int)) then
 (bif (decide (x4 ≤ x1)) then
 (bif (decide ((IntKind.u64.wrap (x1 - x4)) < (64 : Int))) then
 (ck (decide (0 ≤ (IntKind.u64.wrap (x1 - x4))))
 (j105 ((IntKind.u64.wrap ((BitVec.ofInt 64 (x2.fdiv (2 ^ (min (IntKind.u64.wrap (x1 - x4)).toNat 64))) &&& BitVec.ofInt 64 (1 : Int)).toNat : Int)) == (1 : Int))))
 else
 (j105 false))
 else
 (j105 false))
 else
 (j105 false))))
theorem eq24 (F27 : ((Int × (Int × (Int × (Int × Unit)))) × Unit) → Bool × ((Int × Unit) × (Unit × Unit))) (n : Nat) (x0 : Int) (x1 : Int) (x2 : Int) (x3 : Int) (x4 : Int) : runM (cx24 F27 n) (fnOf 24) (body 24) M24a M24o ((x0, x1, x2, x3, ()), x4, ()) = t24 F27 x0 x1 x2 x3 x4 := by kernel_rfl
def raw24 (F27 : ((Int × (Int × (Int × (Int × Unit)))) × Unit) → Bool × ((Int × Unit) × (Unit × Unit))) (x : ((Int × (Int × (Int × (Int × Unit)))) × (Int × Unit))) : Option ((Bool × Unit) × (Unit × (Unit × Unit))) := t24 F27 x.1.1 x.1.2.1 x.1.2.2.1 x.1.2.2.2.1 x.2.1
theorem ok24 (F27 : ((Int × (Int × (Int × (Int × Unit)))) × Unit) → Bool × ((Int × Unit) × (Unit × Unit))) (h27 : FnOK Try.prog noG 27 (fnM M27a M27o F27)) : FnOK Try.prog noG 24 (fnM M24a M24o (toM (ma := M24a) (mo := M24o) (raw24 F27))) :=
  fnM_sound (cx24 F27 0) (SpecOK.addV SpecOK.none h27) mixed noG_ok (by kernel_rfl) (by kernel_rfl) (by kernel_rfl) (by kernel_rfl) (by kernel_rfl) (by kernel_rfl) (by kernel_rfl) (toM_run fun x => ⟨0, by have h := eq24 F27 0 x.1.1 x.1.2.1 x.1.2.2.1 x.1.2.2.2.1 x.2.1; exact h⟩)

noncomputable def G24 : ((Int × (Int × (Int × (Int × Unit)))) × (Int × Unit)) → Bool × ((Bool × Unit) × (Unit × (Unit × Unit))) := toM (ma := M24a) (mo := M24o) (raw24 G27)
theorem fok24 : FnOK Try.prog noG 24 (fnM M24a M24o G24) := ok24 G27 fok27
theorem G24_of {x0 : Int} {x1 : Int} {x2 : Int} {x3 : Int} {x4 : Int} {y : ((Bool × Unit) × (Unit × (Unit × Unit)))} (h : t24 G27 x0 x1 x2 x3 x4 = some y) : G24 ((x0, x1, x2, x3, ()), x4, ()) = (true, y) := toM_some (ma := M24a) (mo := M24o) h

/-- drawbridgelaw07.lives -/
@[reducible] def M20a : Md := .nil
@[reducible] def M20o : Md := (.cons (.ro .bool) .nil)
noncomputable def cx20 (F25 : Unit → Bool × (((Int × (Int × (Int × (Int × Unit)))) × Unit) × Unit)) (F23 : ((Int × (Int × (Int × (Int × Unit)))) × (Int × Unit)) → Bool × (((Int × (Int × (Int × (Int × Unit)))) × (Int × Unit)) × (Unit × (Unit × Unit)))) (F22 : ((Int × (Int × (Int × (Int × Unit)))) × (Int × Unit)) → Bool × (((Int × (Int × (Int × (Int × Unit)))) × (Int × Unit)) × (Unit × (Unit × Unit)))) (F24 : ((Int × (Int × (Int × (Int × Unit)))) × (Int × Unit)) → Bool × ((Bool × Unit) × (Unit × (Unit × Unit)))) (n : Nat) : Cx := { S := (addV (addV (addV (addV noS 25 (fnM M25a M25o F25)) 23 (fnM M23a M23o F23)) 22 (fnM M22a M22o F22)) 24 (fnM M24a M24o F24)), P := Try.prog, gl := noG, hint := [], pin := [], nin := 0, fuel := n }
def t20 (F25 : Unit → Bool × (((Int × (Int × (Int × (Int × Unit)))) × Unit) × Unit)) (F23 : ((Int × (Int × (Int × (Int × Unit)))) × (Int × Unit)) → Bool × (((Int × (Int × (Int × (Int × Unit)))) × (Int × Unit)) × (Unit × (Unit × Unit)))) (F22 : ((Int × (Int × (Int × (Int × Unit)))) × (Int × Unit)) → Bool × (((Int × (Int × (Int × (Int × Unit)))) × (Int × Unit)) × (Unit × (Unit × Unit)))) (F24 : ((Int × (Int × (Int × (Int × Unit)))) × (Int × Unit)) → Bool × ((Bool × Unit) × (Unit × (Unit × Unit)))) : Option ((Bool × Unit) × Unit) :=
 (cl (F25 ()) fun r19 =>
 (cl (F23 ((r19.1.1.1, r19.1.1.2.1, r19.1.1.2.2.1, r19.1.1.2.2.2.1, ()), (1 : Int), ())) fun r20 =>
 (cl (F25 ()) fun r21 =>
 (cl (F22 ((r21.1.1.1, r21.1.1.2.1, r21.1.1.2.2.1, r21.1.1.2.2.2.1, ()), (100 : Int), ())) fun r22 =>
 (cl (F23 ((r22.1.1.1, r22.1.1.2.1, r22.1.1.2.2.1, r22.1.1.2.2.2.1, ()), (70 : Int), ())) fun r23 =>
 (cl (F23 ((r23.1.1.1, r23.1.1.2.1, r23.1.1.2.2.1, r23.1.1.2.2.2.1, ()), (6 : Int), ())) fun r24 =>
 (cl (F23 ((r23.1.1.1, r23.1.1.2.1, r23.1.1.2.2.1, r23.1.1.2.2.2.1, ()), (7 : Int), ())) fun r25 =>
 (cl (F23 ((r25.1.1.1, r25.1.1.2.1, r25.1.1.2.2.1, r25.1.1.2.2.2.1, ()), (70 : Int), ())) fun r26 =>
 (bif (r20.1.2.1 == (9 : Int)) then
 (bif (r22.1.2.1 == (0 : Int)) then
 (bif (r23.1.2.1 == (0 : Int)) then
 (bif (r24.1.2.1 == (8 : Int)) then
 (bif (r25.1.2.1 == (0 : Int)) then
 (bif (r26.1.2.1 == (7 : Int)) then
 (cl (F24 ((r25.1.1.1, r25.1.1.2.1, r25.1.1.2.2.1, r25.1.1.2.2.2.1, ()), (7 : Int), ())) fun r27 =>
 (bif r27.1.1 then
 (cl (F24 ((r25.1.1.1, r25.1.1.2.1, r25.1.1.2.2.1, r25.1.1.2.2.2.1, ()), (8 : Int), ())) fun r28 =>
 (some (((!r28.1.1), ()), ())))
 else
 (some ((false, ()), ()))))
 else
 (some ((false, ()), ())))
 else
 (some ((false, ()), ())))
 else
 (some ((false, ()), ())))
 else
 (some ((false, ()), ())))
 else
 (some ((false, ()), ())))
 else
 (some ((false, ()), ())))))))))))
theorem eq20 (F25 : Unit → Bool × (((Int × (Int × (Int × (Int × Unit)))) × Unit) × Unit)) (F23 : ((Int × (Int × (Int × (Int × Unit)))) × (Int × Unit)) → Bool × (((Int × (Int × (Int × (Int × Unit)))) × (Int × Unit)) × (Unit × (Unit × Unit)))) (F22 : ((Int × (Int × (Int × (Int × Unit)))) × (Int × Unit)) → Bool × (((Int × (Int × (Int × (Int × Unit)))) × (Int × Unit)) × (Unit × (Unit × Unit)))) (F24 : ((Int × (Int × (Int × (Int × Unit)))) × (Int × Unit)) → Bool × ((Bool × Unit) × (Unit × (Unit × Unit)))) (n : Nat) : runM (cx20 F25 F23 F22 F24 n) (fnOf 20) (body 20) M20a M20o () = t20 F25 F23 F22 F24 := by kernel_rfl
def raw20 (F25 : Unit → Bool × (((Int × (Int × (Int × (Int × Unit)))) × Unit) × Unit)) (F23 : ((Int × (Int × (Int × (Int × Unit)))) × (Int × Unit)) → Bool × (((Int × (Int × (Int × (Int × Unit)))) × (Int × Unit)) × (Unit × (Unit × Unit)))) (F22 : ((Int × (Int × (Int × (Int × Unit)))) × (Int × Unit)) → Bool × (((Int × (Int × (Int × (Int × Unit)))) × (Int × Unit)) × (Unit × (Unit × Unit)))) (F24 : ((Int × (Int × (Int × (Int × Unit)))) × (Int × Unit)) → Bool × ((Bool × Unit) × (Unit × (Unit × Unit)))) (x : Unit) : Option ((Bool × Unit) × Unit) := t20 F25 F23 F22 F24
theorem ok20 (F25 : Unit → Bool × (((Int × (Int × (Int × (Int × Unit)))) × Unit) × Unit)) (F23 : ((Int × (Int × (Int × (Int × Unit)))) × (Int × Unit)) → Bool × (((Int × (Int × (Int × (Int × Unit)))) × (Int × Unit)) × (Unit × (Unit × Unit)))) (F22 : ((Int × (Int × (Int × (Int × Unit)))) × (Int × Unit)) → Bool × (((Int × (Int × (Int × (Int × Unit)))) × (Int × Unit)) × (Unit × (Unit × Unit)))) (F24 : ((Int × (Int × (Int × (Int × Unit)))) × (Int × Unit)) → Bool × ((Bool × Unit) × (Unit × (Unit × Unit)))) (h25 : FnOK Try.prog noG 25 (fnM M25a M25o F25)) (h23 : FnOK Try.prog noG 23 (fnM M23a M23o F23)) (h22 : FnOK Try.prog noG 22 (fnM M22a M22o F22)) (h24 : FnOK Try.prog noG 24 (fnM M24a M24o F24)) : FnOK Try.prog noG 20 (fnM M20a M20o (toM (ma := M20a) (mo := M20o) (raw20 F25 F23 F22 F24))) :=
  fnM_sound (cx20 F25 F23 F22 F24 0) (SpecOK.addV (SpecOK.addV (SpecOK.addV (SpecOK.addV SpecOK.none h25) h23) h22) h24) mixed noG_ok (by kernel_rfl) (by kernel_rfl) (by kernel_rfl) (by kernel_rfl) (by kernel_rfl) (by kernel_rfl) (by kernel_rfl) (toM_run fun x => ⟨0, by have h := eq20 F25 F23 F22 F24 0; exact h⟩)

noncomputable def G20 : Unit → Bool × ((Bool × Unit) × Unit) := toM (ma := M20a) (mo := M20o) (raw20 G25 G23 G22 G24)
theorem fok20 : FnOK Try.prog noG 20 (fnM M20a M20o G20) := ok20 G25 G23 G22 G24 fok25 fok23 fok22 fok24
theorem G20_of {y : ((Bool × Unit) × Unit)} (h : t20 G25 G23 G22 G24 = some y) : G20 () = (true, y) := toM_some (ma := M20a) (mo := M20o) h

/-- drawbridgekit.Pick -/
@[reducible] def M21a : Md := (.cons (.ro (.int .i64)) (.cons (.ro (.int .i64)) .nil))
@[reducible] def M21o : Md := (.cons (.ro (.int .i64)) .nil)
noncomputable def cx21 (n : Nat) : Cx := { S := noS, P := Try.prog, gl := noG, hint := [], pin := [], nin := 0, fuel := n }
def t21 (x0 : Int) (x1 : Int) : Option ((Int × Unit) × (Unit × (Unit × Unit))) :=
 (bif (decide (x1 < (1 : Int))) then
 (some (((0 : Int), ()), ((), (), ())))
 else
 (ck (x1 != 0)
 (jn (fun (y131_0 : Int) =>
 (some ((y131_0, ()), ((), (), ())))) fun (j131 : Int → Option ((Int × Unit) × (Unit × (Unit × Unit)))) =>
 (bif (decide ((Int.tmod x0 x1) < (0 : Int))) then
 (j131 (IntKind.i64.wrap ((Int.tmod x0 x1) + x1)))
 else
 (j131 (Int.tmod x0 x1))))))
theorem eq21 (n : Nat) (x0 : Int) (x1 : Int) : runM (cx21 n) (fnOf 21) (body 21) M21a M21o (x0, x1, ()) = t21 x0 x1 := by kernel_rfl
def raw21 (x : (Int × (Int × Unit))) : Option ((Int × Unit) × (Unit × (Unit × Unit))) := t21 x.1 x.2.1
theorem ok21 : FnOK Try.prog noG 21 (fnM M21a M21o (toM (ma := M21a) (mo := M21o) (raw21))) :=
  fnM_sound (cx21 0) SpecOK.none mixed noG_ok (by kernel_rfl) (by kernel_rfl) (by kernel_rfl) (by kernel_rfl) (by kernel_rfl) (by kernel_rfl) (by kernel_rfl) (toM_run fun x => ⟨0, by have h := eq21 0 x.1 x.2.1; exact h⟩)

noncomputable def G21 : (Int × (Int × Unit)) → Bool × ((Int × Unit) × (Unit × (Unit × Unit))) := toM (ma := M21a) (mo := M21o) (raw21)
theorem fok21 : FnOK Try.prog noG 21 (fnM M21a M21o G21) := ok21
theorem G21_of {x0 : Int} {x1 : Int} {y : ((Int × Unit) × (Unit × (Unit × Unit)))} (h : t21 x0 x1 = some y) : G21 (x0, x1, ()) = (true, y) := toM_some (ma := M21a) (mo := M21o) h

/-- drawbridgelaw07.WindowRow -/
@[reducible] def K6a : Kd := (.cons (.int .u64) (.cons (.int .i64) (.cons (.sl (.int .i64)) .nil)))
@[reducible] def K6o : Kd := .cons .bool .nil
noncomputable def cx6 (F23 : ((Int × (Int × (Int × (Int × Unit)))) × (Int × Unit)) → Bool × (((Int × (Int × (Int × (Int × Unit)))) × (Int × Unit)) × (Unit × (Unit × Unit)))) (F22 : ((Int × (Int × (Int × (Int × Unit)))) × (Int × Unit)) → Bool × (((Int × (Int × (Int × (Int × Unit)))) × (Int × Unit)) × (Unit × (Unit × Unit)))) (F24 : ((Int × (Int × (Int × (Int × Unit)))) × (Int × Unit)) → Bool × ((Bool × Unit) × (Unit × (Unit × Unit)))) (F20 : Unit → Bool × ((Bool × Unit) × Unit)) (F21 : (Int × (Int × Unit)) → Bool × ((Int × Unit) × (Unit × (Unit × Unit)))) (n : Nat) : Cx := { S := (addV (addV (addV (addV (addV noS 23 (fnM M23a M23o F23)) 22 (fnM M22a M22o F22)) 24 (fnM M24a M24o F24)) 20 (fnM M20a M20o F20)) 21 (fnM M21a M21o F21)), P := Try.prog, gl := noG, hint := [(4090, [0, 2, 7, 8, 10, 11]), (8186, [2, 7, 8, 10, 12]), (16378, [7, 8, 10, 14])], pin := [], nin := 0, fuel := n }
noncomputable def l6_4090_0' (F23 : ((Int × (Int × (Int × (Int × Unit)))) × (Int × Unit)) → Bool × (((Int × (Int × (Int × (Int × Unit)))) × (Int × Unit)) × (Unit × (Unit × Unit)))) (F22 : ((Int × (Int × (Int × (Int × Unit)))) × (Int × Unit)) → Bool × (((Int × (Int × (Int × (Int × Unit)))) × (Int × Unit)) × (Unit × (Unit × Unit)))) (F24 : ((Int × (Int × (Int × (Int × Unit)))) × (Int × Unit)) → Bool × ((Bool × Unit) × (Unit × (Unit × Unit)))) (F20 : Unit → Bool × ((Bool × Unit) × Unit)) (F21 : (Int × (Int × Unit)) → Bool × ((Int × Unit) × (Unit × (Unit × Unit)))) (n k : Nat) (v0 : Int) (v1 : List Int) (v2 : Int) (v3 : Int) (v4 : Int) (v5 : Int) (v6 : Int) (v7 : Int) : Option (Bool × Unit) :=
  loopAt (cx6 F23 F22 F24 F20 F21 n) (body 6) (bits 4090) [] k { tm := [(0, .int .u64 v0), (2, .rs (.int .i64) v1 false false), (7, .int .i64 v2), (8, .ptr 0 0 []), (10, .nils), (11, .int .i64 v3)], hp := [(0, some (.box (.cons (.int .u64 v4) (.cons (.int .u64 v5) (.cons (.int .u64 v6) (.cons (.int .u64 v7) (.nil)))))))], nx := 1 } (finish Try.prog (fnOf 6) K6o)
noncomputable def l6_4090_0 : (((Int × (Int × (Int × (Int × Unit)))) × (Int × Unit)) → Bool × (((Int × (Int × (Int × (Int × Unit)))) × (Int × Unit)) × (Unit × (Unit × Unit)))) → (((Int × (Int × (Int × (Int × Unit)))) × (Int × Unit)) → Bool × (((Int × (Int × (Int × (Int × Unit)))) × (Int × Unit)) × (Unit × (Unit × Unit)))) → (((Int × (Int × (Int × (Int × Unit)))) × (Int × Unit)) → Bool × ((Bool × Unit) × (Unit × (Unit × Unit)))) → (Unit → Bool × ((Bool × Unit) × Unit)) → ((Int × (Int × Unit)) → Bool × ((Int × Unit) × (Unit × (Unit × Unit)))) → Nat → Nat → Int → List Int → Int → Int → Int → Int → Int → Int → Option (Bool × Unit) := (sealed l6_4090_0').1
theorem l6_4090_0_e : l6_4090_0' = l6_4090_0 := (sealed l6_4090_0').2.symm
noncomputable def l6_8186_1' (F23 : ((Int × (Int × (Int × (Int × Unit)))) × (Int × Unit)) → Bool × (((Int × (Int × (Int × (Int × Unit)))) × (Int × Unit)) × (Unit × (Unit × Unit)))) (F22 : ((Int × (Int × (Int × (Int × Unit)))) × (Int × Unit)) → Bool × (((Int × (Int × (Int × (Int × Unit)))) × (Int × Unit)) × (Unit × (Unit × Unit)))) (F24 : ((Int × (Int × (Int × (Int × Unit)))) × (Int × Unit)) → Bool × ((Bool × Unit) × (Unit × (Unit × Unit)))) (F20 : Unit → Bool × ((Bool × Unit) × Unit)) (F21 : (Int × (Int × Unit)) → Bool × ((Int × Unit) × (Unit × (Unit × Unit)))) (n k : Nat) (v0 : List Int) (v1 : Int) (v2 : Int) (v3 : Int) (v4 : Int) (v5 : Int) (v6 : Int) : Option (Bool × Unit) :=
  loopAt (cx6 F23 F22 F24 F20 F21 n) (body 6) (bits 8186) [] k { tm := [(2, .rs (.int .i64) v0 false false), (7, .int .i64 v1), (8, .ptr 0 0 []), (10, .nils), (12, .int .i64 v2)], hp := [(0, some (.box (.cons (.int .u64 v3) (.cons (.int .u64 v4) (.cons (.int .u64 v5) (.cons (.int .u64 v6) (.nil)))))))], nx := 1 } (finish Try.prog (fnOf 6) K6o)
noncomputable def l6_8186_1 : (((Int × (Int × (Int × (Int × Unit)))) × (Int × Unit)) → Bool × (((Int × (Int × (Int × (Int × Unit)))) × (Int × Unit)) × (Unit × (Unit × Unit)))) → (((Int × (Int × (Int × (Int × Unit)))) × (Int × Unit)) → Bool × (((Int × (Int × (Int × (Int × Unit)))) × (Int × Unit)) × (Unit × (Unit × Unit)))) → (((Int × (Int × (Int × (Int × Unit)))) × (Int × Unit)) → Bool × ((Bool × Unit) × (Unit × (Unit × Unit)))) → (Unit → Bool × ((Bool × Unit) × Unit)) → ((Int × (Int × Unit)) → Bool × ((Int × Unit) × (Unit × (Unit × Unit)))) → Nat → Nat → List Int → Int → Int → Int → Int → Int → Int → Option (Bool × Unit) := (sealed l6_8186_1').1
theorem l6_8186_1_e : l6_8186_1' = l6_8186_1 := (sealed l6_8186_1').2.symm
noncomputable def l6_16378_2' (F23 : ((Int × (Int × (Int × (Int × Unit)))) × (Int × Unit)) → Bool × (((Int × (Int × (Int × (Int × Unit)))) × (Int × Unit)) × (Unit × (Unit × Unit)))) (F22 : ((Int × (Int × (Int × (Int × Unit)))) × (Int × Unit)) → Bool × (((Int × (Int × (Int × (Int × Unit)))) × (Int × Unit)) × (Unit × (Unit × Unit)))) (F24 : ((Int × (Int × (Int × (Int × Unit)))) × (Int × Unit)) → Bool × ((Bool × Unit) × (Unit × (Unit × Unit)))) (F20 : Unit → Bool × ((Bool × Unit) × Unit)) (F21 : (Int × (Int × Unit)) → Bool × ((Int × Unit) × (Unit × (Unit × Unit)))) (n k : Nat) (v0 : Int) (v1 : Int) (v2 : Int) (v3 : Int) (v4 : Int) (v5 : Int) : Option (Bool × Unit) :=
  loopAt (cx6 F23 F22 F24 F20 F21 n) (body 6) (bits 16378) [] k { tm := [(7, .int .i64 v0), (8, .ptr 0 0 []), (10, .nils), (14, .int .i64 v1)], hp := [(0, some (.box (.cons (.int .u64 v2) (.cons (.int .u64 v3) (.cons (.int .u64 v4) (.cons (.int .u64 v5) (.nil)))))))], nx := 1 } (finish Try.prog (fnOf 6) K6o)
noncomputable def l6_16378_2 : (((Int × (Int × (Int × (Int × Unit)))) × (Int × Unit)) → Bool × (((Int × (Int × (Int × (Int × Unit)))) × (Int × Unit)) × (Unit × (Unit × Unit)))) → (((Int × (Int × (Int × (Int × Unit)))) × (Int × Unit)) → Bool × (((Int × (Int × (Int × (Int × Unit)))) × (Int × Unit)) × (Unit × (Unit × Unit)))) → (((Int × (Int × (Int × (Int × Unit)))) × (Int × Unit)) → Bool × ((Bool × Unit) × (Unit × (Unit × Unit)))) → (Unit → Bool × ((Bool × Unit) × Unit)) → ((Int × (Int × Unit)) → Bool × ((Int × Unit) × (Unit × (Unit × Unit)))) → Nat → Nat → Int → Int → Int → Int → Int → Int → Option (Bool × Unit) := (sealed l6_16378_2').1
theorem l6_16378_2_e : l6_16378_2' = l6_16378_2 := (sealed l6_16378_2').2.symm
noncomputable def l6_4090_3' (F23 : ((Int × (Int × (Int × (Int × Unit)))) × (Int × Unit)) → Bool × (((Int × (Int × (Int × (Int × Unit)))) × (Int × Unit)) × (Unit × (Unit × Unit)))) (F22 : ((Int × (Int × (Int × (Int × Unit)))) × (Int × Unit)) → Bool × (((Int × (Int × (Int × (Int × Unit)))) × (Int × Unit)) × (Unit × (Unit × Unit)))) (F24 : ((Int × (Int × (Int × (Int × Unit)))) × (Int × Unit)) → Bool × ((Bool × Unit) × (Unit × (Unit × Unit)))) (F20 : Unit → Bool × ((Bool × Unit) × Unit)) (F21 : (Int × (Int × Unit)) → Bool × ((Int × Unit) × (Unit × (Unit × Unit)))) (n k : Nat) (v0 : Int) (v1 : List Int) (v2 : Int) (v3 : Int) (v4 : List Int) (v5 : Int) (v6 : Int) (v7 : Int) (v8 : Int) : Option (Bool × Unit) :=
  loopAt (cx6 F23 F22 F24 F20 F21 n) (body 6) (bits 4090) [] k { tm := [(0, .int .u64 v0), (2, .rs (.int .i64) v1 false false), (7, .int .i64 v2), (8, .ptr 0 0 []), (10, .hw 1), (11, .int .i64 v3)], hp := [(1, some (.row (.int .u64) v4)), (0, some (.box (.cons (.int .u64 v5) (.cons (.int .u64 v6) (.cons (.int .u64 v7) (.cons (.int .u64 v8) (.nil)))))))], nx := 2 } (finish Try.prog (fnOf 6) K6o)
noncomputable def l6_4090_3 : (((Int × (Int × (Int × (Int × Unit)))) × (Int × Unit)) → Bool × (((Int × (Int × (Int × (Int × Unit)))) × (Int × Unit)) × (Unit × (Unit × Unit)))) → (((Int × (Int × (Int × (Int × Unit)))) × (Int × Unit)) → Bool × (((Int × (Int × (Int × (Int × Unit)))) × (Int × Unit)) × (Unit × (Unit × Unit)))) → (((Int × (Int × (Int × (Int × Unit)))) × (Int × Unit)) → Bool × ((Bool × Unit) × (Unit × (Unit × Unit)))) → (Unit → Bool × ((Bool × Unit) × Unit)) → ((Int × (Int × Unit)) → Bool × ((Int × Unit) × (Unit × (Unit × Unit)))) → Nat → Nat → Int → List Int → Int → Int → List Int → Int → Int → Int → Int → Option (Bool × Unit) := (sealed l6_4090_3').1
theorem l6_4090_3_e : l6_4090_3' = l6_4090_3 := (sealed l6_4090_3').2.symm
noncomputable def l6_8186_4' (F23 : ((Int × (Int × (Int × (Int × Unit)))) × (Int × Unit)) → Bool × (((Int × (Int × (Int × (Int × Unit)))) × (Int × Unit)) × (Unit × (Unit × Unit)))) (F22 : ((Int × (Int × (Int × (Int × Unit)))) × (Int × Unit)) → Bool × (((Int × (Int × (Int × (Int × Unit)))) × (Int × Unit)) × (Unit × (Unit × Unit)))) (F24 : ((Int × (Int × (Int × (Int × Unit)))) × (Int × Unit)) → Bool × ((Bool × Unit) × (Unit × (Unit × Unit)))) (F20 : Unit → Bool × ((Bool × Unit) × Unit)) (F21 : (Int × (Int × Unit)) → Bool × ((Int × Unit) × (Unit × (Unit × Unit)))) (n k : Nat) (v0 : List Int) (v1 : Int) (v2 : Int) (v3 : List Int) (v4 : Int) (v5 : Int) (v6 : Int) (v7 : Int) : Option (Bool × Unit) :=
  loopAt (cx6 F23 F22 F24 F20 F21 n) (body 6) (bits 8186) [] k { tm := [(2, .rs (.int .i64) v0 false false), (7, .int .i64 v1), (8, .ptr 0 0 []), (10, .hw 1), (12, .int .i64 v2)], hp := [(1, some (.row (.int .u64) v3)), (0, some (.box (.cons (.int .u64 v4) (.cons (.int .u64 v5) (.cons (.int .u64 v6) (.cons (.int .u64 v7) (.nil)))))))], nx := 2 } (finish Try.prog (fnOf 6) K6o)
noncomputable def l6_8186_4 : (((Int × (Int × (Int × (Int × Unit)))) × (Int × Unit)) → Bool × (((Int × (Int × (Int × (Int × Unit)))) × (Int × Unit)) × (Unit × (Unit × Unit)))) → (((Int × (Int × (Int × (Int × Unit)))) × (Int × Unit)) → Bool × (((Int × (Int × (Int × (Int × Unit)))) × (Int × Unit)) × (Unit × (Unit × Unit)))) → (((Int × (Int × (Int × (Int × Unit)))) × (Int × Unit)) → Bool × ((Bool × Unit) × (Unit × (Unit × Unit)))) → (Unit → Bool × ((Bool × Unit) × Unit)) → ((Int × (Int × Unit)) → Bool × ((Int × Unit) × (Unit × (Unit × Unit)))) → Nat → Nat → List Int → Int → Int → List Int → Int → Int → Int → Int → Option (Bool × Unit) := (sealed l6_8186_4').1
theorem l6_8186_4_e : l6_8186_4' = l6_8186_4 := (sealed l6_8186_4').2.symm
noncomputable def l6_16378_5' (F23 : ((Int × (Int × (Int × (Int × Unit)))) × (Int × Unit)) → Bool × (((Int × (Int × (Int × (Int × Unit)))) × (Int × Unit)) × (Unit × (Unit × Unit)))) (F22 : ((Int × (Int × (Int × (Int × Unit)))) × (Int × Unit)) → Bool × (((Int × (Int × (Int × (Int × Unit)))) × (Int × Unit)) × (Unit × (Unit × Unit)))) (F24 : ((Int × (Int × (Int × (Int × Unit)))) × (Int × Unit)) → Bool × ((Bool × Unit) × (Unit × (Unit × Unit)))) (F20 : Unit → Bool × ((Bool × Unit) × Unit)) (F21 : (Int × (Int × Unit)) → Bool × ((Int × Unit) × (Unit × (Unit × Unit)))) (n k : Nat) (v0 : Int) (v1 : Int) (v2 : List Int) (v3 : Int) (v4 : Int) (v5 : Int) (v6 : Int) : Option (Bool × Unit) :=
  loopAt (cx6 F23 F22 F24 F20 F21 n) (body 6) (bits 16378) [] k { tm := [(7, .int .i64 v0), (8, .ptr 0 0 []), (10, .hw 1), (14, .int .i64 v1)], hp := [(1, some (.row (.int .u64) v2)), (0, some (.box (.cons (.int .u64 v3) (.cons (.int .u64 v4) (.cons (.int .u64 v5) (.cons (.int .u64 v6) (.nil)))))))], nx := 2 } (finish Try.prog (fnOf 6) K6o)
noncomputable def l6_16378_5 : (((Int × (Int × (Int × (Int × Unit)))) × (Int × Unit)) → Bool × (((Int × (Int × (Int × (Int × Unit)))) × (Int × Unit)) × (Unit × (Unit × Unit)))) → (((Int × (Int × (Int × (Int × Unit)))) × (Int × Unit)) → Bool × (((Int × (Int × (Int × (Int × Unit)))) × (Int × Unit)) × (Unit × (Unit × Unit)))) → (((Int × (Int × (Int × (Int × Unit)))) × (Int × Unit)) → Bool × ((Bool × Unit) × (Unit × (Unit × Unit)))) → (Unit → Bool × ((Bool × Unit) × Unit)) → ((Int × (Int × Unit)) → Bool × ((Int × Unit) × (Unit × (Unit × Unit)))) → Nat → Nat → Int → Int → List Int → Int → Int → Int → Int → Option (Bool × Unit) := (sealed l6_16378_5').1
theorem l6_16378_5_e : l6_16378_5' = l6_16378_5 := (sealed l6_16378_5').2.symm
theorem l6_4090_0_s' (F23 : ((Int × (Int × (Int × (Int × Unit)))) × (Int × Unit)) → Bool × (((Int × (Int × (Int × (Int × Unit)))) × (Int × Unit)) × (Unit × (Unit × Unit)))) (F22 : ((Int × (Int × (Int × (Int × Unit)))) × (Int × Unit)) → Bool × (((Int × (Int × (Int × (Int × Unit)))) × (Int × Unit)) × (Unit × (Unit × Unit)))) (F24 : ((Int × (Int × (Int × (Int × Unit)))) × (Int × Unit)) → Bool × ((Bool × Unit) × (Unit × (Unit × Unit)))) (F20 : Unit → Bool × ((Bool × Unit) × Unit)) (F21 : (Int × (Int × Unit)) → Bool × ((Int × Unit) × (Unit × (Unit × Unit)))) (n k : Nat) (v0 : Int) (v1 : List Int) (v2 : Int) (v3 : Int) (v4 : Int) (v5 : Int) (v6 : Int) (v7 : Int) : l6_4090_0' F23 F22 F24 F20 F21 n (k + 1) v0 v1 v2 v3 v4 v5 v6 v7 =
 (bif (decide (v3 < v2)) then
 (l6_4090_3' F23 F22 F24 F20 F21 n k v0 v1 v2 (IntKind.i64.wrap (v3 + (1 : Int))) [(IntKind.u64.wrap ((IntKind.u64.wrap ((1 : Int) + v0)) + (IntKind.u64.wrap v3)))] v4 v5 v6 v7)
 else
 (l6_8186_1' F23 F22 F24 F20 F21 n n v1 v2 (0 : Int) v4 v5 v6 v7)) := by kernel_rfl
theorem l6_4090_0_s (F23 : ((Int × (Int × (Int × (Int × Unit)))) × (Int × Unit)) → Bool × (((Int × (Int × (Int × (Int × Unit)))) × (Int × Unit)) × (Unit × (Unit × Unit)))) (F22 : ((Int × (Int × (Int × (Int × Unit)))) × (Int × Unit)) → Bool × (((Int × (Int × (Int × (Int × Unit)))) × (Int × Unit)) × (Unit × (Unit × Unit)))) (F24 : ((Int × (Int × (Int × (Int × Unit)))) × (Int × Unit)) → Bool × ((Bool × Unit) × (Unit × (Unit × Unit)))) (F20 : Unit → Bool × ((Bool × Unit) × Unit)) (F21 : (Int × (Int × Unit)) → Bool × ((Int × Unit) × (Unit × (Unit × Unit)))) (n k : Nat) (v0 : Int) (v1 : List Int) (v2 : Int) (v3 : Int) (v4 : Int) (v5 : Int) (v6 : Int) (v7 : Int) : l6_4090_0 F23 F22 F24 F20 F21 n (k + 1) v0 v1 v2 v3 v4 v5 v6 v7 =
 (bif (decide (v3 < v2)) then
 (l6_4090_3 F23 F22 F24 F20 F21 n k v0 v1 v2 (IntKind.i64.wrap (v3 + (1 : Int))) [(IntKind.u64.wrap ((IntKind.u64.wrap ((1 : Int) + v0)) + (IntKind.u64.wrap v3)))] v4 v5 v6 v7)
 else
 (l6_8186_1 F23 F22 F24 F20 F21 n n v1 v2 (0 : Int) v4 v5 v6 v7)) := by
  have h := l6_4090_0_s' F23 F22 F24 F20 F21 n k v0 v1 v2 v3 v4 v5 v6 v7
  rw [l6_4090_0_e, l6_8186_1_e, l6_4090_3_e] at h
  exact h
theorem l6_4090_0_z' (F23 : ((Int × (Int × (Int × (Int × Unit)))) × (Int × Unit)) → Bool × (((Int × (Int × (Int × (Int × Unit)))) × (Int × Unit)) × (Unit × (Unit × Unit)))) (F22 : ((Int × (Int × (Int × (Int × Unit)))) × (Int × Unit)) → Bool × (((Int × (Int × (Int × (Int × Unit)))) × (Int × Unit)) × (Unit × (Unit × Unit)))) (F24 : ((Int × (Int × (Int × (Int × Unit)))) × (Int × Unit)) → Bool × ((Bool × Unit) × (Unit × (Unit × Unit)))) (F20 : Unit → Bool × ((Bool × Unit) × Unit)) (F21 : (Int × (Int × Unit)) → Bool × ((Int × Unit) × (Unit × (Unit × Unit)))) (n : Nat) (v0 : Int) (v1 : List Int) (v2 : Int) (v3 : Int) (v4 : Int) (v5 : Int) (v6 : Int) (v7 : Int) : l6_4090_0' F23 F22 F24 F20 F21 n 0 v0 v1 v2 v3 v4 v5 v6 v7 =
 none := by kernel_rfl
theorem l6_4090_0_z (F23 : ((Int × (Int × (Int × (Int × Unit)))) × (Int × Unit)) → Bool × (((Int × (Int × (Int × (Int × Unit)))) × (Int × Unit)) × (Unit × (Unit × Unit)))) (F22 : ((Int × (Int × (Int × (Int × Unit)))) × (Int × Unit)) → Bool × (((Int × (Int × (Int × (Int × Unit)))) × (Int × Unit)) × (Unit × (Unit × Unit)))) (F24 : ((Int × (Int × (Int × (Int × Unit)))) × (Int × Unit)) → Bool × ((Bool × Unit) × (Unit × (Unit × Unit)))) (F20 : Unit → Bool × ((Bool × Unit) × Unit)) (F21 : (Int × (Int × Unit)) → Bool × ((Int × Unit) × (Unit × (Unit × Unit)))) (n : Nat) (v0 : Int) (v1 : List Int) (v2 : Int) (v3 : Int) (v4 : Int) (v5 : Int) (v6 : Int) (v7 : Int) : l6_4090_0 F23 F22 F24 F20 F21 n 0 v0 v1 v2 v3 v4 v5 v6 v7 =
 none := by
  have h := l6_4090_0_z' F23 F22 F24 F20 F21 n v0 v1 v2 v3 v4 v5 v6 v7
  rw [l6_4090_0_e] at h
  exact h
theorem l6_8186_1_s' (F23 : ((Int × (Int × (Int × (Int × Unit)))) × (Int × Unit)) → Bool × (((Int × (Int × (Int × (Int × Unit)))) × (Int × Unit)) × (Unit × (Unit × Unit)))) (F22 : ((Int × (Int × (Int × (Int × Unit)))) × (Int × Unit)) → Bool × (((Int × (Int × (Int × (Int × Unit)))) × (Int × Unit)) × (Unit × (Unit × Unit)))) (F24 : ((Int × (Int × (Int × (Int × Unit)))) × (Int × Unit)) → Bool × ((Bool × Unit) × (Unit × (Unit × Unit)))) (F20 : Unit → Bool × ((Bool × Unit) × Unit)) (F21 : (Int × (Int × Unit)) → Bool × ((Int × Unit) × (Unit × (Unit × Unit)))) (n k : Nat) (v0 : List Int) (v1 : Int) (v2 : Int) (v3 : Int) (v4 : Int) (v5 : Int) (v6 : Int) : l6_8186_1' F23 F22 F24 F20 F21 n (k + 1) v0 v1 v2 v3 v4 v5 v6 =
 (jn (fun (y148_0 : Bool) =>
 (bif y148_0 then
 (ck (rng v2 v0.length)
 (cl (F21 ((v0.getD v2.toNat (0 : Int)), (30 : Int), ())) fun r32 =>
 none))
 else
 (l6_16378_2' F23 F22 F24 F20 F21 n n v1 (0 : Int) v3 v4 v5 v6))) fun (j148 : Bool → Option (Bool × Unit)) =>
 (bif (decide (v2 < v1)) then
 (j148 (decide (v2 < (v0.length : Int))))
 else
 (j148 false))) := by kernel_rfl
theorem l6_8186_1_s (F23 : ((Int × (Int × (Int × (Int × Unit)))) × (Int × Unit)) → Bool × (((Int × (Int × (Int × (Int × Unit)))) × (Int × Unit)) × (Unit × (Unit × Unit)))) (F22 : ((Int × (Int × (Int × (Int × Unit)))) × (Int × Unit)) → Bool × (((Int × (Int × (Int × (Int × Unit)))) × (Int × Unit)) × (Unit × (Unit × Unit)))) (F24 : ((Int × (Int × (Int × (Int × Unit)))) × (Int × Unit)) → Bool × ((Bool × Unit) × (Unit × (Unit × Unit)))) (F20 : Unit → Bool × ((Bool × Unit) × Unit)) (F21 : (Int × (Int × Unit)) → Bool × ((Int × Unit) × (Unit × (Unit × Unit)))) (n k : Nat) (v0 : List Int) (v1 : Int) (v2 : Int) (v3 : Int) (v4 : Int) (v5 : Int) (v6 : Int) : l6_8186_1 F23 F22 F24 F20 F21 n (k + 1) v0 v1 v2 v3 v4 v5 v6 =
 (jn (fun (y148_0 : Bool) =>
 (bif y148_0 then
 (ck (rng v2 v0.length)
 (cl (F21 ((v0.getD v2.toNat (0 : Int)), (30 : Int), ())) fun r32 =>
 none))
 else
 (l6_16378_2 F23 F22 F24 F20 F21 n n v1 (0 : Int) v3 v4 v5 v6))) fun (j148 : Bool → Option (Bool × Unit)) =>
 (bif (decide (v2 < v1)) then
 (j148 (decide (v2 < (v0.length : Int))))
 else
 (j148 false))) := by
  have h := l6_8186_1_s' F23 F22 F24 F20 F21 n k v0 v1 v2 v3 v4 v5 v6
  rw [l6_8186_1_e, l6_16378_2_e] at h
  exact h
theorem l6_8186_1_z' (F23 : ((Int × (Int × (Int × (Int × Unit)))) × (Int × Unit)) → Bool × (((Int × (Int × (Int × (Int × Unit)))) × (Int × Unit)) × (Unit × (Unit × Unit)))) (F22 : ((Int × (Int × (Int × (Int × Unit)))) × (Int × Unit)) → Bool × (((Int × (Int × (Int × (Int × Unit)))) × (Int × Unit)) × (Unit × (Unit × Unit)))) (F24 : ((Int × (Int × (Int × (Int × Unit)))) × (Int × Unit)) → Bool × ((Bool × Unit) × (Unit × (Unit × Unit)))) (F20 : Unit → Bool × ((Bool × Unit) × Unit)) (F21 : (Int × (Int × Unit)) → Bool × ((Int × Unit) × (Unit × (Unit × Unit)))) (n : Nat) (v0 : List Int) (v1 : Int) (v2 : Int) (v3 : Int) (v4 : Int) (v5 : Int) (v6 : Int) : l6_8186_1' F23 F22 F24 F20 F21 n 0 v0 v1 v2 v3 v4 v5 v6 =
 none := by kernel_rfl
theorem l6_8186_1_z (F23 : ((Int × (Int × (Int × (Int × Unit)))) × (Int × Unit)) → Bool × (((Int × (Int × (Int × (Int × Unit)))) × (Int × Unit)) × (Unit × (Unit × Unit)))) (F22 : ((Int × (Int × (Int × (Int × Unit)))) × (Int × Unit)) → Bool × (((Int × (Int × (Int × (Int × Unit)))) × (Int × Unit)) × (Unit × (Unit × Unit)))) (F24 : ((Int × (Int × (Int × (Int × Unit)))) × (Int × Unit)) → Bool × ((Bool × Unit) × (Unit × (Unit × Unit)))) (F20 : Unit → Bool × ((Bool × Unit) × Unit)) (F21 : (Int × (Int × Unit)) → Bool × ((Int × Unit) × (Unit × (Unit × Unit)))) (n : Nat) (v0 : List Int) (v1 : Int) (v2 : Int) (v3 : Int) (v4 : Int) (v5 : Int) (v6 : Int) : l6_8186_1 F23 F22 F24 F20 F21 n 0 v0 v1 v2 v3 v4 v5 v6 =
 none := by
  have h := l6_8186_1_z' F23 F22 F24 F20 F21 n v0 v1 v2 v3 v4 v5 v6
  rw [l6_8186_1_e] at h
  exact h
theorem l6_16378_2_s' (F23 : ((Int × (Int × (Int × (Int × Unit)))) × (Int × Unit)) → Bool × (((Int × (Int × (Int × (Int × Unit)))) × (Int × Unit)) × (Unit × (Unit × Unit)))) (F22 : ((Int × (Int × (Int × (Int × Unit)))) × (Int × Unit)) → Bool × (((Int × (Int × (Int × (Int × Unit)))) × (Int × Unit)) × (Unit × (Unit × Unit)))) (F24 : ((Int × (Int × (Int × (Int × Unit)))) × (Int × Unit)) → Bool × ((Bool × Unit) × (Unit × (Unit × Unit)))) (F20 : Unit → Bool × ((Bool × Unit) × Unit)) (F21 : (Int × (Int × Unit)) → Bool × ((Int × Unit) × (Unit × (Unit × Unit)))) (n k : Nat) (v0 : Int) (v1 : Int) (v2 : Int) (v3 : Int) (v4 : Int) (v5 : Int) : l6_16378_2' F23 F22 F24 F20 F21 n (k + 1) v0 v1 v2 v3 v4 v5 =
 (bif (decide (v1 < v0)) then
 none
 else
 (some (true, ()))) := by kernel_rfl
theorem l6_16378_2_s (F23 : ((Int × (Int × (Int × (Int × Unit)))) × (Int × Unit)) → Bool × (((Int × (Int × (Int × (Int × Unit)))) × (Int × Unit)) × (Unit × (Unit × Unit)))) (F22 : ((Int × (Int × (Int × (Int × Unit)))) × (Int × Unit)) → Bool × (((Int × (Int × (Int × (Int × Unit)))) × (Int × Unit)) × (Unit × (Unit × Unit)))) (F24 : ((Int × (Int × (Int × (Int × Unit)))) × (Int × Unit)) → Bool × ((Bool × Unit) × (Unit × (Unit × Unit)))) (F20 : Unit → Bool × ((Bool × Unit) × Unit)) (F21 : (Int × (Int × Unit)) → Bool × ((Int × Unit) × (Unit × (Unit × Unit)))) (n k : Nat) (v0 : Int) (v1 : Int) (v2 : Int) (v3 : Int) (v4 : Int) (v5 : Int) : l6_16378_2 F23 F22 F24 F20 F21 n (k + 1) v0 v1 v2 v3 v4 v5 =
 (bif (decide (v1 < v0)) then
 none
 else
 (some (true, ()))) := by
  have h := l6_16378_2_s' F23 F22 F24 F20 F21 n k v0 v1 v2 v3 v4 v5
  rw [l6_16378_2_e] at h
  exact h
theorem l6_16378_2_z' (F23 : ((Int × (Int × (Int × (Int × Unit)))) × (Int × Unit)) → Bool × (((Int × (Int × (Int × (Int × Unit)))) × (Int × Unit)) × (Unit × (Unit × Unit)))) (F22 : ((Int × (Int × (Int × (Int × Unit)))) × (Int × Unit)) → Bool × (((Int × (Int × (Int × (Int × Unit)))) × (Int × Unit)) × (Unit × (Unit × Unit)))) (F24 : ((Int × (Int × (Int × (Int × Unit)))) × (Int × Unit)) → Bool × ((Bool × Unit) × (Unit × (Unit × Unit)))) (F20 : Unit → Bool × ((Bool × Unit) × Unit)) (F21 : (Int × (Int × Unit)) → Bool × ((Int × Unit) × (Unit × (Unit × Unit)))) (n : Nat) (v0 : Int) (v1 : Int) (v2 : Int) (v3 : Int) (v4 : Int) (v5 : Int) : l6_16378_2' F23 F22 F24 F20 F21 n 0 v0 v1 v2 v3 v4 v5 =
 none := by kernel_rfl
theorem l6_16378_2_z (F23 : ((Int × (Int × (Int × (Int × Unit)))) × (Int × Unit)) → Bool × (((Int × (Int × (Int × (Int × Unit)))) × (Int × Unit)) × (Unit × (Unit × Unit)))) (F22 : ((Int × (Int × (Int × (Int × Unit)))) × (Int × Unit)) → Bool × (((Int × (Int × (Int × (Int × Unit)))) × (Int × Unit)) × (Unit × (Unit × Unit)))) (F24 : ((Int × (Int × (Int × (Int × Unit)))) × (Int × Unit)) → Bool × ((Bool × Unit) × (Unit × (Unit × Unit)))) (F20 : Unit → Bool × ((Bool × Unit) × Unit)) (F21 : (Int × (Int × Unit)) → Bool × ((Int × Unit) × (Unit × (Unit × Unit)))) (n : Nat) (v0 : Int) (v1 : Int) (v2 : Int) (v3 : Int) (v4 : Int) (v5 : Int) : l6_16378_2 F23 F22 F24 F20 F21 n 0 v0 v1 v2 v3 v4 v5 =
 none := by
  have h := l6_16378_2_z' F23 F22 F24 F20 F21 n v0 v1 v2 v3 v4 v5
  rw [l6_16378_2_e] at h
  exact h
theorem l6_4090_3_s' (F23 : ((Int × (Int × (Int × (Int × Unit)))) × (Int × Unit)) → Bool × (((Int × (Int × (Int × (Int × Unit)))) × (Int × Unit)) × (Unit × (Unit × Unit)))) (F22 : ((Int × (Int × (Int × (Int × Unit)))) × (Int × Unit)) → Bool × (((Int × (Int × (Int × (Int × Unit)))) × (Int × Unit)) × (Unit × (Unit × Unit)))) (F24 : ((Int × (Int × (Int × (Int × Unit)))) × (Int × Unit)) → Bool × ((Bool × Unit) × (Unit × (Unit × Unit)))) (F20 : Unit → Bool × ((Bool × Unit) × Unit)) (F21 : (Int × (Int × Unit)) → Bool × ((Int × Unit) × (Unit × (Unit × Unit)))) (n k : Nat) (v0 : Int) (v1 : List Int) (v2 : Int) (v3 : Int) (v4 : List Int) (v5 : Int) (v6 : Int) (v7 : Int) (v8 : Int) : l6_4090_3' F23 F22 F24 F20 F21 n (k + 1) v0 v1 v2 v3 v4 v5 v6 v7 v8 =
 (bif (decide (v3 < v2)) then
 (ck (fits (v4.length + 1) 8)
 (l6_4090_3' F23 F22 F24 F20 F21 n k v0 v1 v2 (IntKind.i64.wrap (v3 + (1 : Int))) (v4 ++ [(IntKind.u64.wrap ((IntKind.u64.wrap ((1 : Int) + v0)) + (IntKind.u64.wrap v3)))]) v5 v6 v7 v8))
 else
 (l6_8186_4' F23 F22 F24 F20 F21 n n v1 v2 (0 : Int) v4 v5 v6 v7 v8)) := by kernel_rfl
theorem l6_4090_3_s (F23 : ((Int × (Int × (Int × (Int × Unit)))) × (Int × Unit)) → Bool × (((Int × (Int × (Int × (Int × Unit)))) × (Int × Unit)) × (Unit × (Unit × Unit)))) (F22 : ((Int × (Int × (Int × (Int × Unit)))) × (Int × Unit)) → Bool × (((Int × (Int × (Int × (Int × Unit)))) × (Int × Unit)) × (Unit × (Unit × Unit)))) (F24 : ((Int × (Int × (Int × (Int × Unit)))) × (Int × Unit)) → Bool × ((Bool × Unit) × (Unit × (Unit × Unit)))) (F20 : Unit → Bool × ((Bool × Unit) × Unit)) (F21 : (Int × (Int × Unit)) → Bool × ((Int × Unit) × (Unit × (Unit × Unit)))) (n k : Nat) (v0 : Int) (v1 : List Int) (v2 : Int) (v3 : Int) (v4 : List Int) (v5 : Int) (v6 : Int) (v7 : Int) (v8 : Int) : l6_4090_3 F23 F22 F24 F20 F21 n (k + 1) v0 v1 v2 v3 v4 v5 v6 v7 v8 =
 (bif (decide (v3 < v2)) then
 (ck (fits (v4.length + 1) 8)
 (l6_4090_3 F23 F22 F24 F20 F21 n k v0 v1 v2 (IntKind.i64.wrap (v3 + (1 : Int))) (v4 ++ [(IntKind.u64.wrap ((IntKind.u64.wrap ((1 : Int) + v0)) + (IntKind.u64.wrap v3)))]) v5 v6 v7 v8))
 else
 (l6_8186_4 F23 F22 F24 F20 F21 n n v1 v2 (0 : Int) v4 v5 v6 v7 v8)) := by
  have h := l6_4090_3_s' F23 F22 F24 F20 F21 n k v0 v1 v2 v3 v4 v5 v6 v7 v8
  rw [l6_4090_3_e, l6_8186_4_e] at h
  exact h
theorem l6_4090_3_z' (F23 : ((Int × (Int × (Int × (Int × Unit)))) × (Int × Unit)) → Bool × (((Int × (Int × (Int × (Int × Unit)))) × (Int × Unit)) × (Unit × (Unit × Unit)))) (F22 : ((Int × (Int × (Int × (Int × Unit)))) × (Int × Unit)) → Bool × (((Int × (Int × (Int × (Int × Unit)))) × (Int × Unit)) × (Unit × (Unit × Unit)))) (F24 : ((Int × (Int × (Int × (Int × Unit)))) × (Int × Unit)) → Bool × ((Bool × Unit) × (Unit × (Unit × Unit)))) (F20 : Unit → Bool × ((Bool × Unit) × Unit)) (F21 : (Int × (Int × Unit)) → Bool × ((Int × Unit) × (Unit × (Unit × Unit)))) (n : Nat) (v0 : Int) (v1 : List Int) (v2 : Int) (v3 : Int) (v4 : List Int) (v5 : Int) (v6 : Int) (v7 : Int) (v8 : Int) : l6_4090_3' F23 F22 F24 F20 F21 n 0 v0 v1 v2 v3 v4 v5 v6 v7 v8 =
 none := by kernel_rfl
theorem l6_4090_3_z (F23 : ((Int × (Int × (Int × (Int × Unit)))) × (Int × Unit)) → Bool × (((Int × (Int × (Int × (Int × Unit)))) × (Int × Unit)) × (Unit × (Unit × Unit)))) (F22 : ((Int × (Int × (Int × (Int × Unit)))) × (Int × Unit)) → Bool × (((Int × (Int × (Int × (Int × Unit)))) × (Int × Unit)) × (Unit × (Unit × Unit)))) (F24 : ((Int × (Int × (Int × (Int × Unit)))) × (Int × Unit)) → Bool × ((Bool × Unit) × (Unit × (Unit × Unit)))) (F20 : Unit → Bool × ((Bool × Unit) × Unit)) (F21 : (Int × (Int × Unit)) → Bool × ((Int × Unit) × (Unit × (Unit × Unit)))) (n : Nat) (v0 : Int) (v1 : List Int) (v2 : Int) (v3 : Int) (v4 : List Int) (v5 : Int) (v6 : Int) (v7 : Int) (v8 : Int) : l6_4090_3 F23 F22 F24 F20 F21 n 0 v0 v1 v2 v3 v4 v5 v6 v7 v8 =
 none := by
  have h := l6_4090_3_z' F23 F22 F24 F20 F21 n v0 v1 v2 v3 v4 v5 v6 v7 v8
  rw [l6_4090_3_e] at h
  exact h
theorem l6_8186_4_s' (F23 : ((Int × (Int × (Int × (Int × Unit)))) × (Int × Unit)) → Bool × (((Int × (Int × (Int × (Int × Unit)))) × (Int × Unit)) × (Unit × (Unit × Unit)))) (F22 : ((Int × (Int × (Int × (Int × Unit)))) × (Int × Unit)) → Bool × (((Int × (Int × (Int × (Int × Unit)))) × (Int × Unit)) × (Unit × (Unit × Unit)))) (F24 : ((Int × (Int × (Int × (Int × Unit)))) × (Int × Unit)) → Bool × ((Bool × Unit) × (Unit × (Unit × Unit)))) (F20 : Unit → Bool × ((Bool × Unit) × Unit)) (F21 : (Int × (Int × Unit)) → Bool × ((Int × Unit) × (Unit × (Unit × Unit)))) (n k : Nat) (v0 : List Int) (v1 : Int) (v2 : Int) (v3 : List Int) (v4 : Int) (v5 : Int) (v6 : Int) (v7 : Int) : l6_8186_4' F23 F22 F24 F20 F21 n (k + 1) v0 v1 v2 v3 v4 v5 v6 v7 =
 (jn (fun (y165_0 : Bool) =>
 (bif y165_0 then
 (ck (rng v2 v0.length)
 (cl (F21 ((v0.getD v2.toNat (0 : Int)), (30 : Int), ())) fun r36 =>
 (ck (rng (if (IntKind.i64.wrap (v2 + r36.1.1)) < (IntKind.i64.wrap (v1 - (1 : Int))) then (IntKind.i64.wrap (v2 + r36.1.1)) else (IntKind.i64.wrap (v1 - (1 : Int)))) v3.length)
 (ck (rng v2 v3.length)
 (ck (rng v2 v3.length)
 (ck (rng (if (IntKind.i64.wrap (v2 + r36.1.1)) < (IntKind.i64.wrap (v1 - (1 : Int))) then (IntKind.i64.wrap (v2 + r36.1.1)) else (IntKind.i64.wrap (v1 - (1 : Int)))) ((v3.set v2.toNat (v3.getD ((if (IntKind.i64.wrap (v2 + r36.1.1)) < (IntKind.i64.wrap (v1 - (1 : Int))) then (IntKind.i64.wrap (v2 + r36.1.1)) else (IntKind.i64.wrap (v1 - (1 : Int)))).toNat) (0 : Int))).length))
 (l6_8186_4' F23 F22 F24 F20 F21 n k v0 v1 (IntKind.i64.wrap (v2 + (1 : Int))) ((v3.set v2.toNat (v3.getD ((if (IntKind.i64.wrap (v2 + r36.1.1)) < (IntKind.i64.wrap (v1 - (1 : Int))) then (IntKind.i64.wrap (v2 + r36.1.1)) else (IntKind.i64.wrap (v1 - (1 : Int)))).toNat) (0 : Int))).set ((if (IntKind.i64.wrap (v2 + r36.1.1)) < (IntKind.i64.wrap (v1 - (1 : Int))) then (IntKind.i64.wrap (v2 + r36.1.1)) else (IntKind.i64.wrap (v1 - (1 : Int)))).toNat) (v3.getD v2.toNat (0 : Int))) v4 v5 v6 v7)))))))
 else
 (l6_16378_5' F23 F22 F24 F20 F21 n n v1 (0 : Int) v3 v4 v5 v6 v7))) fun (j165 : Bool → Option (Bool × Unit)) =>
 (bif (decide (v2 < v1)) then
 (j165 (decide (v2 < (v0.length : Int))))
 else
 (j165 false))) := by kernel_rfl
theorem l6_8186_4_s (F23 : ((Int × (Int × (Int × (Int × Unit)))) × (Int × Unit)) → Bool × (((Int × (Int × (Int × (Int × Unit)))) × (Int × Unit)) × (Unit × (Unit × Unit)))) (F22 : ((Int × (Int × (Int × (Int × Unit)))) × (Int × Unit)) → Bool × (((Int × (Int × (Int × (Int × Unit)))) × (Int × Unit)) × (Unit × (Unit × Unit)))) (F24 : ((Int × (Int × (Int × (Int × Unit)))) × (Int × Unit)) → Bool × ((Bool × Unit) × (Unit × (Unit × Unit)))) (F20 : Unit → Bool × ((Bool × Unit) × Unit)) (F21 : (Int × (Int × Unit)) → Bool × ((Int × Unit) × (Unit × (Unit × Unit)))) (n k : Nat) (v0 : List Int) (v1 : Int) (v2 : Int) (v3 : List Int) (v4 : Int) (v5 : Int) (v6 : Int) (v7 : Int) : l6_8186_4 F23 F22 F24 F20 F21 n (k + 1) v0 v1 v2 v3 v4 v5 v6 v7 =
 (jn (fun (y165_0 : Bool) =>
 (bif y165_0 then
 (ck (rng v2 v0.length)
 (cl (F21 ((v0.getD v2.toNat (0 : Int)), (30 : Int), ())) fun r36 =>
 (ck (rng (if (IntKind.i64.wrap (v2 + r36.1.1)) < (IntKind.i64.wrap (v1 - (1 : Int))) then (IntKind.i64.wrap (v2 + r36.1.1)) else (IntKind.i64.wrap (v1 - (1 : Int)))) v3.length)
 (ck (rng v2 v3.length)
 (ck (rng v2 v3.length)
 (ck (rng (if (IntKind.i64.wrap (v2 + r36.1.1)) < (IntKind.i64.wrap (v1 - (1 : Int))) then (IntKind.i64.wrap (v2 + r36.1.1)) else (IntKind.i64.wrap (v1 - (1 : Int)))) ((v3.set v2.toNat (v3.getD ((if (IntKind.i64.wrap (v2 + r36.1.1)) < (IntKind.i64.wrap (v1 - (1 : Int))) then (IntKind.i64.wrap (v2 + r36.1.1)) else (IntKind.i64.wrap (v1 - (1 : Int)))).toNat) (0 : Int))).length))
 (l6_8186_4 F23 F22 F24 F20 F21 n k v0 v1 (IntKind.i64.wrap (v2 + (1 : Int))) ((v3.set v2.toNat (v3.getD ((if (IntKind.i64.wrap (v2 + r36.1.1)) < (IntKind.i64.wrap (v1 - (1 : Int))) then (IntKind.i64.wrap (v2 + r36.1.1)) else (IntKind.i64.wrap (v1 - (1 : Int)))).toNat) (0 : Int))).set ((if (IntKind.i64.wrap (v2 + r36.1.1)) < (IntKind.i64.wrap (v1 - (1 : Int))) then (IntKind.i64.wrap (v2 + r36.1.1)) else (IntKind.i64.wrap (v1 - (1 : Int)))).toNat) (v3.getD v2.toNat (0 : Int))) v4 v5 v6 v7)))))))
 else
 (l6_16378_5 F23 F22 F24 F20 F21 n n v1 (0 : Int) v3 v4 v5 v6 v7))) fun (j165 : Bool → Option (Bool × Unit)) =>
 (bif (decide (v2 < v1)) then
 (j165 (decide (v2 < (v0.length : Int))))
 else
 (j165 false))) := by
  have h := l6_8186_4_s' F23 F22 F24 F20 F21 n k v0 v1 v2 v3 v4 v5 v6 v7
  rw [l6_8186_4_e, l6_16378_5_e] at h
  exact h
theorem l6_8186_4_z' (F23 : ((Int × (Int × (Int × (Int × Unit)))) × (Int × Unit)) → Bool × (((Int × (Int × (Int × (Int × Unit)))) × (Int × Unit)) × (Unit × (Unit × Unit)))) (F22 : ((Int × (Int × (Int × (Int × Unit)))) × (Int × Unit)) → Bool × (((Int × (Int × (Int × (Int × Unit)))) × (Int × Unit)) × (Unit × (Unit × Unit)))) (F24 : ((Int × (Int × (Int × (Int × Unit)))) × (Int × Unit)) → Bool × ((Bool × Unit) × (Unit × (Unit × Unit)))) (F20 : Unit → Bool × ((Bool × Unit) × Unit)) (F21 : (Int × (Int × Unit)) → Bool × ((Int × Unit) × (Unit × (Unit × Unit)))) (n : Nat) (v0 : List Int) (v1 : Int) (v2 : Int) (v3 : List Int) (v4 : Int) (v5 : Int) (v6 : Int) (v7 : Int) : l6_8186_4' F23 F22 F24 F20 F21 n 0 v0 v1 v2 v3 v4 v5 v6 v7 =
 none := by kernel_rfl
theorem l6_8186_4_z (F23 : ((Int × (Int × (Int × (Int × Unit)))) × (Int × Unit)) → Bool × (((Int × (Int × (Int × (Int × Unit)))) × (Int × Unit)) × (Unit × (Unit × Unit)))) (F22 : ((Int × (Int × (Int × (Int × Unit)))) × (Int × Unit)) → Bool × (((Int × (Int × (Int × (Int × Unit)))) × (Int × Unit)) × (Unit × (Unit × Unit)))) (F24 : ((Int × (Int × (Int × (Int × Unit)))) × (Int × Unit)) → Bool × ((Bool × Unit) × (Unit × (Unit × Unit)))) (F20 : Unit → Bool × ((Bool × Unit) × Unit)) (F21 : (Int × (Int × Unit)) → Bool × ((Int × Unit) × (Unit × (Unit × Unit)))) (n : Nat) (v0 : List Int) (v1 : Int) (v2 : Int) (v3 : List Int) (v4 : Int) (v5 : Int) (v6 : Int) (v7 : Int) : l6_8186_4 F23 F22 F24 F20 F21 n 0 v0 v1 v2 v3 v4 v5 v6 v7 =
 none := by
  have h := l6_8186_4_z' F23 F22 F24 F20 F21 n v0 v1 v2 v3 v4 v5 v6 v7
  rw [l6_8186_4_e] at h
  exact h
theorem l6_16378_5_s' (F23 : ((Int × (Int × (Int × (Int × Unit)))) × (Int × Unit)) → Bool × (((Int × (Int × (Int × (Int × Unit)))) × (Int × Unit)) × (Unit × (Unit × Unit)))) (F22 : ((Int × (Int × (Int × (Int × Unit)))) × (Int × Unit)) → Bool × (((Int × (Int × (Int × (Int × Unit)))) × (Int × Unit)) × (Unit × (Unit × Unit)))) (F24 : ((Int × (Int × (Int × (Int × Unit)))) × (Int × Unit)) → Bool × ((Bool × Unit) × (Unit × (Unit × Unit)))) (F20 : Unit → Bool × ((Bool × Unit) × Unit)) (F21 : (Int × (Int × Unit)) → Bool × ((Int × Unit) × (Unit × (Unit × Unit)))) (n k : Nat) (v0 : Int) (v1 : Int) (v2 : List Int) (v3 : Int) (v4 : Int) (v5 : Int) (v6 : Int) : l6_16378_5' F23 F22 F24 F20 F21 n (k + 1) v0 v1 v2 v3 v4 v5 v6 =
 (bif (decide (v1 < v0)) then
 (jn (fun (y171_0 : Int) (y171_1 : Int) (y171_2 : Int) (y171_3 : Int) =>
 (l6_16378_5' F23 F22 F24 F20 F21 n k v0 (IntKind.i64.wrap (v1 + (1 : Int))) v2 y171_0 y171_1 y171_2 y171_3)) fun (j171 : Int → Int → Int → Int → Option (Bool × Unit)) =>
 (ck (rng v1 v2.length)
 (cl (F23 ((v3, v4, v5, v6, ()), (v2.getD v1.toNat (0 : Int)), ())) fun r33 =>
 (bif (r33.1.2.1 != (0 : Int)) then
 (jn (fun (y177_0 : Bool) =>
 (bif y177_0 then
 (some (false, ()))
 else
 (j171 v3 v4 v5 v6))) fun (j177 : Bool → Option (Bool × Unit)) =>
 (ck (rng v1 v2.length)
 (bif (decide ((v2.getD v1.toNat (0 : Int)) > v4)) then
 (j177 true)
 else
 (ck (rng v1 v2.length)
 (j177 (decide ((IntKind.u64.wrap (v4 - (v2.getD v1.toNat (0 : Int)))) < (64 : Int))))))))
 else
 (ck (rng v1 v2.length)
 (cl (F23 ((r33.1.1.1, r33.1.1.2.1, r33.1.1.2.2.1, r33.1.1.2.2.2.1, ()), (v2.getD v1.toNat (0 : Int)), ())) fun r34 =>
 (jn (fun (y181_0 : Bool) =>
 (bif y181_0 then
 (some (false, ()))
 else
 (j171 r33.1.1.1 r33.1.1.2.1 r33.1.1.2.2.1 r33.1.1.2.2.2.1))) fun (j181 : Bool → Option (Bool × Unit)) =>
 (bif (r34.1.2.1 != (7 : Int)) then
 (j181 true)
 else
 (ck (rng v1 v2.length)
 (cl (F24 ((r33.1.1.1, r33.1.1.2.1, r33.1.1.2.2.1, r33.1.1.2.2.2.1, ()), (v2.getD v1.toNat (0 : Int)), ())) fun r35 =>
 (j181 (!r35.1.1))))))))))))
 else
 (some (true, ()))) := by kernel_rfl
theorem l6_16378_5_s (F23 : ((Int × (Int × (Int × (Int × Unit)))) × (Int × Unit)) → Bool × (((Int × (Int × (Int × (Int × Unit)))) × (Int × Unit)) × (Unit × (Unit × Unit)))) (F22 : ((Int × (Int × (Int × (Int × Unit)))) × (Int × Unit)) → Bool × (((Int × (Int × (Int × (Int × Unit)))) × (Int × Unit)) × (Unit × (Unit × Unit)))) (F24 : ((Int × (Int × (Int × (Int × Unit)))) × (Int × Unit)) → Bool × ((Bool × Unit) × (Unit × (Unit × Unit)))) (F20 : Unit → Bool × ((Bool × Unit) × Unit)) (F21 : (Int × (Int × Unit)) → Bool × ((Int × Unit) × (Unit × (Unit × Unit)))) (n k : Nat) (v0 : Int) (v1 : Int) (v2 : List Int) (v3 : Int) (v4 : Int) (v5 : Int) (v6 : Int) : l6_16378_5 F23 F22 F24 F20 F21 n (k + 1) v0 v1 v2 v3 v4 v5 v6 =
 (bif (decide (v1 < v0)) then
 (jn (fun (y171_0 : Int) (y171_1 : Int) (y171_2 : Int) (y171_3 : Int) =>
 (l6_16378_5 F23 F22 F24 F20 F21 n k v0 (IntKind.i64.wrap (v1 + (1 : Int))) v2 y171_0 y171_1 y171_2 y171_3)) fun (j171 : Int → Int → Int → Int → Option (Bool × Unit)) =>
 (ck (rng v1 v2.length)
 (cl (F23 ((v3, v4, v5, v6, ()), (v2.getD v1.toNat (0 : Int)), ())) fun r33 =>
 (bif (r33.1.2.1 != (0 : Int)) then
 (jn (fun (y177_0 : Bool) =>
 (bif y177_0 then
 (some (false, ()))
 else
 (j171 v3 v4 v5 v6))) fun (j177 : Bool → Option (Bool × Unit)) =>
 (ck (rng v1 v2.length)
 (bif (decide ((v2.getD v1.toNat (0 : Int)) > v4)) then
 (j177 true)
 else
 (ck (rng v1 v2.length)
 (j177 (decide ((IntKind.u64.wrap (v4 - (v2.getD v1.toNat (0 : Int)))) < (64 : Int))))))))
 else
 (ck (rng v1 v2.length)
 (cl (F23 ((r33.1.1.1, r33.1.1.2.1, r33.1.1.2.2.1, r33.1.1.2.2.2.1, ()), (v2.getD v1.toNat (0 : Int)), ())) fun r34 =>
 (jn (fun (y181_0 : Bool) =>
 (bif y181_0 then
 (some (false, ()))
 else
 (j171 r33.1.1.1 r33.1.1.2.1 r33.1.1.2.2.1 r33.1.1.2.2.2.1))) fun (j181 : Bool → Option (Bool × Unit)) =>
 (bif (r34.1.2.1 != (7 : Int)) then
 (j181 true)
 else
 (ck (rng v1 v2.length)
 (cl (F24 ((r33.1.1.1, r33.1.1.2.1, r33.1.1.2.2.1, r33.1.1.2.2.2.1, ()), (v2.getD v1.toNat (0 : Int)), ())) fun r35 =>
 (j181 (!r35.1.1))))))))))))
 else
 (some (true, ()))) := by
  have h := l6_16378_5_s' F23 F22 F24 F20 F21 n k v0 v1 v2 v3 v4 v5 v6
  rw [l6_16378_5_e] at h
  exact h
theorem l6_16378_5_z' (F23 : ((Int × (Int × (Int × (Int × Unit)))) × (Int × Unit)) → Bool × (((Int × (Int × (Int × (Int × Unit)))) × (Int × Unit)) × (Unit × (Unit × Unit)))) (F22 : ((Int × (Int × (Int × (Int × Unit)))) × (Int × Unit)) → Bool × (((Int × (Int × (Int × (Int × Unit)))) × (Int × Unit)) × (Unit × (Unit × Unit)))) (F24 : ((Int × (Int × (Int × (Int × Unit)))) × (Int × Unit)) → Bool × ((Bool × Unit) × (Unit × (Unit × Unit)))) (F20 : Unit → Bool × ((Bool × Unit) × Unit)) (F21 : (Int × (Int × Unit)) → Bool × ((Int × Unit) × (Unit × (Unit × Unit)))) (n : Nat) (v0 : Int) (v1 : Int) (v2 : List Int) (v3 : Int) (v4 : Int) (v5 : Int) (v6 : Int) : l6_16378_5' F23 F22 F24 F20 F21 n 0 v0 v1 v2 v3 v4 v5 v6 =
 none := by kernel_rfl
theorem l6_16378_5_z (F23 : ((Int × (Int × (Int × (Int × Unit)))) × (Int × Unit)) → Bool × (((Int × (Int × (Int × (Int × Unit)))) × (Int × Unit)) × (Unit × (Unit × Unit)))) (F22 : ((Int × (Int × (Int × (Int × Unit)))) × (Int × Unit)) → Bool × (((Int × (Int × (Int × (Int × Unit)))) × (Int × Unit)) × (Unit × (Unit × Unit)))) (F24 : ((Int × (Int × (Int × (Int × Unit)))) × (Int × Unit)) → Bool × ((Bool × Unit) × (Unit × (Unit × Unit)))) (F20 : Unit → Bool × ((Bool × Unit) × Unit)) (F21 : (Int × (Int × Unit)) → Bool × ((Int × Unit) × (Unit × (Unit × Unit)))) (n : Nat) (v0 : Int) (v1 : Int) (v2 : List Int) (v3 : Int) (v4 : Int) (v5 : Int) (v6 : Int) : l6_16378_5 F23 F22 F24 F20 F21 n 0 v0 v1 v2 v3 v4 v5 v6 =
 none := by
  have h := l6_16378_5_z' F23 F22 F24 F20 F21 n v0 v1 v2 v3 v4 v5 v6
  rw [l6_16378_5_e] at h
  exact h
theorem eq6' (F23 : ((Int × (Int × (Int × (Int × Unit)))) × (Int × Unit)) → Bool × (((Int × (Int × (Int × (Int × Unit)))) × (Int × Unit)) × (Unit × (Unit × Unit)))) (F22 : ((Int × (Int × (Int × (Int × Unit)))) × (Int × Unit)) → Bool × (((Int × (Int × (Int × (Int × Unit)))) × (Int × Unit)) × (Unit × (Unit × Unit)))) (F24 : ((Int × (Int × (Int × (Int × Unit)))) × (Int × Unit)) → Bool × ((Bool × Unit) × (Unit × (Unit × Unit)))) (F20 : Unit → Bool × ((Bool × Unit) × Unit)) (F21 : (Int × (Int × Unit)) → Bool × ((Int × Unit) × (Unit × (Unit × Unit)))) (n : Nat) (x0 : Int) (x1 : Int) (x2 : (List Int)) : runD (cx6 F23 F22 F24 F20 F21 n) (fnOf 6) (body 6) K6a K6o (x0, x1, x2, ()) =
 (cl (F20 ()) fun r29 =>
 (bif (!r29.1.1) then
 (some (false, ()))
 else
 (cl (F21 (x1, (200 : Int), ())) fun r30 =>
 (cl (F22 (((IntKind.u64.wrap ((1 : Int) + (Int.tmod x0 (1125899906842624 : Int)))), (Int.tmod x0 (1125899906842624 : Int)), (0 : Int), (IntKind.u64.wrap ((1 : Int) + (Int.tmod x0 (1125899906842624 : Int)))), ()), (IntKind.u64.wrap ((IntKind.u64.wrap ((Int.tmod x0 (1125899906842624 : Int)) + (IntKind.u64.wrap r30.1.1))) + (2 : Int))), ())) fun r31 =>
 (bif (r31.1.2.1 != (0 : Int)) then
 (some (false, ()))
 else
 (l6_4090_0' F23 F22 F24 F20 F21 n n (Int.tmod x0 (1125899906842624 : Int)) x2 r30.1.1 (0 : Int) r31.1.1.1 r31.1.1.2.1 r31.1.1.2.2.1 r31.1.1.2.2.2.1)))))) := by kernel_rfl
theorem eq6 (F23 : ((Int × (Int × (Int × (Int × Unit)))) × (Int × Unit)) → Bool × (((Int × (Int × (Int × (Int × Unit)))) × (Int × Unit)) × (Unit × (Unit × Unit)))) (F22 : ((Int × (Int × (Int × (Int × Unit)))) × (Int × Unit)) → Bool × (((Int × (Int × (Int × (Int × Unit)))) × (Int × Unit)) × (Unit × (Unit × Unit)))) (F24 : ((Int × (Int × (Int × (Int × Unit)))) × (Int × Unit)) → Bool × ((Bool × Unit) × (Unit × (Unit × Unit)))) (F20 : Unit → Bool × ((Bool × Unit) × Unit)) (F21 : (Int × (Int × Unit)) → Bool × ((Int × Unit) × (Unit × (Unit × Unit)))) (n : Nat) (x0 : Int) (x1 : Int) (x2 : (List Int)) : runD (cx6 F23 F22 F24 F20 F21 n) (fnOf 6) (body 6) K6a K6o (x0, x1, x2, ()) =
 (cl (F20 ()) fun r29 =>
 (bif (!r29.1.1) then
 (some (false, ()))
 else
 (cl (F21 (x1, (200 : Int), ())) fun r30 =>
 (cl (F22 (((IntKind.u64.wrap ((1 : Int) + (Int.tmod x0 (1125899906842624 : Int)))), (Int.tmod x0 (1125899906842624 : Int)), (0 : Int), (IntKind.u64.wrap ((1 : Int) + (Int.tmod x0 (1125899906842624 : Int)))), ()), (IntKind.u64.wrap ((IntKind.u64.wrap ((Int.tmod x0 (1125899906842624 : Int)) + (IntKind.u64.wrap r30.1.1))) + (2 : Int))), ())) fun r31 =>
 (bif (r31.1.2.1 != (0 : Int)) then
 (some (false, ()))
 else
 (l6_4090_0 F23 F22 F24 F20 F21 n n (Int.tmod x0 (1125899906842624 : Int)) x2 r30.1.1 (0 : Int) r31.1.1.1 r31.1.1.2.1 r31.1.1.2.2.1 r31.1.1.2.2.2.1)))))) := by
  have h := eq6' F23 F22 F24 F20 F21 n x0 x1 x2
  rw [l6_4090_0_e] at h
  exact h

theorem called6 {w : World} {vs : List Value} {x : K6a.T} (hrun : ∀ x, K6a.ok x → ∃ n, runD (cx6 G23 G22 G24 G20 G21 n) (fnOf 6) (body 6) K6a K6o x = some (true, ())) (h : KVs (fun b => b < w.heap.size) w K6a x vs) : Calls Try.prog 6 vs.toArray w fun e w' => e = .returned (.bool true) ∧ Go.RowKit.Below w.heap.size w w' :=
  law_ok (fun n => cx6 G23 G22 G24 G20 G21 n) (fun _ => (SpecOK.addV (SpecOK.addV (SpecOK.addV (SpecOK.addV (SpecOK.addV SpecOK.none fok23) fok22) fok24) fok20) fok21)) (fun _ => mixed) (fun _ => noG_ok) (fun _ => rfl) (by kernel_rfl) (by kernel_rfl) (by kernel_rfl) (by kernel_rfl) hrun (fun _ _ _ h => by cases h) h

/-- window.Recover -/
@[reducible] def M26a : Md := (.cons (.ro (.cons (.int .u64) (.cons (.int .u64) (.cons (.int .u64) (.cons (.int .u64) .nil))))) .nil)
@[reducible] def M26o : Md := (.cons (.ro (.cons (.int .u64) (.cons (.int .u64) (.cons (.int .u64) (.cons (.int .u64) .nil))))) (.cons (.ro (.int .i64)) .nil))
noncomputable def cx26 (F27 : ((Int × (Int × (Int × (Int × Unit)))) × Unit) → Bool × ((Int × Unit) × (Unit × Unit))) (n : Nat) : Cx := { S := (addV noS 27 (fnM M27a M27o F27)), P := Try.prog, gl := noG, hint := [], pin := [], nin := 0, fuel := n }
def t26 (F27 : ((Int × (Int × (Int × (Int × Unit)))) × Unit) → Bool × ((Int × Unit) × (Unit × Unit))) (x0 : Int) (x1 : Int) (x2 : Int) (x3 : Int) : Option (((Int × (Int × (Int × (Int × Unit)))) × (Int × Unit)) × (Unit × Unit)) :=
 (cl (F27 ((x0, x1, x2, x3, ()), ())) fun r43 =>
 (bif (r43.1.1 != (0 : Int)) then
 (some ((((0 : Int), (0 : Int), (0 : Int), (0 : Int), ()), r43.1.1, ()), ((), ())))
 else
 (some (((x3, (IntKind.u64.wrap (x3 - (1 : Int))), (0 : Int), x3, ()), (0 : Int), ()), ((), ())))))
theorem eq26 (F27 : ((Int × (Int × (Int × (Int × Unit)))) × Unit) → Bool × ((Int × Unit) × (Unit × Unit))) (n : Nat) (x0 : Int) (x1 : Int) (x2 : Int) (x3 : Int) : runM (cx26 F27 n) (fnOf 26) (body 26) M26a M26o ((x0, x1, x2, x3, ()), ()) = t26 F27 x0 x1 x2 x3 := by kernel_rfl
def raw26 (F27 : ((Int × (Int × (Int × (Int × Unit)))) × Unit) → Bool × ((Int × Unit) × (Unit × Unit))) (x : ((Int × (Int × (Int × (Int × Unit)))) × Unit)) : Option (((Int × (Int × (Int × (Int × Unit)))) × (Int × Unit)) × (Unit × Unit)) := t26 F27 x.1.1 x.1.2.1 x.1.2.2.1 x.1.2.2.2.1
theorem ok26 (F27 : ((Int × (Int × (Int × (Int × Unit)))) × Unit) → Bool × ((Int × Unit) × (Unit × Unit))) (h27 : FnOK Try.prog noG 27 (fnM M27a M27o F27)) : FnOK Try.prog noG 26 (fnM M26a M26o (toM (ma := M26a) (mo := M26o) (raw26 F27))) :=
  fnM_sound (cx26 F27 0) (SpecOK.addV SpecOK.none h27) mixed noG_ok (by kernel_rfl) (by kernel_rfl) (by kernel_rfl) (by kernel_rfl) (by kernel_rfl) (by kernel_rfl) (by kernel_rfl) (toM_run fun x => ⟨0, by have h := eq26 F27 0 x.1.1 x.1.2.1 x.1.2.2.1 x.1.2.2.2.1; exact h⟩)

noncomputable def G26 : ((Int × (Int × (Int × (Int × Unit)))) × Unit) → Bool × (((Int × (Int × (Int × (Int × Unit)))) × (Int × Unit)) × (Unit × Unit)) := toM (ma := M26a) (mo := M26o) (raw26 G27)
theorem fok26 : FnOK Try.prog noG 26 (fnM M26a M26o G26) := ok26 G27 fok27
theorem G26_of {x0 : Int} {x1 : Int} {x2 : Int} {x3 : Int} {y : (((Int × (Int × (Int × (Int × Unit)))) × (Int × Unit)) × (Unit × Unit))} (h : t26 G27 x0 x1 x2 x3 = some y) : G26 ((x0, x1, x2, x3, ()), ()) = (true, y) := toM_some (ma := M26a) (mo := M26o) h

/-- drawbridgelaw07.WindowOnce -/
@[reducible] def K8a : Kd := (.cons (.sl (.cons (.int .i64) (.cons (.int .u64) .nil))) .nil)
@[reducible] def K8o : Kd := .cons .bool .nil
noncomputable def cx8 (F25 : Unit → Bool × (((Int × (Int × (Int × (Int × Unit)))) × Unit) × Unit)) (F27 : ((Int × (Int × (Int × (Int × Unit)))) × Unit) → Bool × ((Int × Unit) × (Unit × Unit))) (F23 : ((Int × (Int × (Int × (Int × Unit)))) × (Int × Unit)) → Bool × (((Int × (Int × (Int × (Int × Unit)))) × (Int × Unit)) × (Unit × (Unit × Unit)))) (F22 : ((Int × (Int × (Int × (Int × Unit)))) × (Int × Unit)) → Bool × (((Int × (Int × (Int × (Int × Unit)))) × (Int × Unit)) × (Unit × (Unit × Unit)))) (F20 : Unit → Bool × ((Bool × Unit) × Unit)) (F21 : (Int × (Int × Unit)) → Bool × ((Int × Unit) × (Unit × (Unit × Unit)))) (F26 : ((Int × (Int × (Int × (Int × Unit)))) × Unit) → Bool × (((Int × (Int × (Int × (Int × Unit)))) × (Int × Unit)) × (Unit × Unit))) (n : Nat) : Cx := { S := (addV (addV (addV (addV (addV (addV (addV noS 25 (fnM M25a M25o F25)) 27 (fnM M27a M27o F27)) 23 (fnM M23a M23o F23)) 22 (fnM M22a M22o F22)) 20 (fnM M20a M20o F20)) 21 (fnM M21a M21o F21)) 26 (fnM M26a M26o F26)), P := Try.prog, gl := noG, hint := [(506, [0, 3, 4, 5])], pin := [], nin := 0, fuel := n }
noncomputable def l8_506_0' (F25 : Unit → Bool × (((Int × (Int × (Int × (Int × Unit)))) × Unit) × Unit)) (F27 : ((Int × (Int × (Int × (Int × Unit)))) × Unit) → Bool × ((Int × Unit) × (Unit × Unit))) (F23 : ((Int × (Int × (Int × (Int × Unit)))) × (Int × Unit)) → Bool × (((Int × (Int × (Int × (Int × Unit)))) × (Int × Unit)) × (Unit × (Unit × Unit)))) (F22 : ((Int × (Int × (Int × (Int × Unit)))) × (Int × Unit)) → Bool × (((Int × (Int × (Int × (Int × Unit)))) × (Int × Unit)) × (Unit × (Unit × Unit)))) (F20 : Unit → Bool × ((Bool × Unit) × Unit)) (F21 : (Int × (Int × Unit)) → Bool × ((Int × Unit) × (Unit × (Unit × Unit)))) (F26 : ((Int × (Int × (Int × (Int × Unit)))) × Unit) → Bool × (((Int × (Int × (Int × (Int × Unit)))) × (Int × Unit)) × (Unit × Unit))) (n k : Nat) (v0 : List (Int × (Int × Unit))) (v1 : Int) (v2 : List (Int × Bool)) (v3 : Int) (v4 : Int) (v5 : Int) (v6 : Int) : Option (Bool × Unit) :=
  loopAt (cx8 F25 F27 F23 F22 F20 F21 F26 n) (body 8) (bits 506) [] k { tm := [(0, .rs (.cons (.int .i64) (.cons (.int .u64) .nil)) v0 false false), (3, .ptr 0 0 []), (4, .mapv 1), (5, .int .i64 v1)], hp := [(1, some (.map (.int .u64) .bool v2)), (0, some (.box (.cons (.int .u64 v3) (.cons (.int .u64 v4) (.cons (.int .u64 v5) (.cons (.int .u64 v6) (.nil)))))))], nx := 2 } (finish Try.prog (fnOf 8) K8o)
noncomputable def l8_506_0 : (Unit → Bool × (((Int × (Int × (Int × (Int × Unit)))) × Unit) × Unit)) → (((Int × (Int × (Int × (Int × Unit)))) × Unit) → Bool × ((Int × Unit) × (Unit × Unit))) → (((Int × (Int × (Int × (Int × Unit)))) × (Int × Unit)) → Bool × (((Int × (Int × (Int × (Int × Unit)))) × (Int × Unit)) × (Unit × (Unit × Unit)))) → (((Int × (Int × (Int × (Int × Unit)))) × (Int × Unit)) → Bool × (((Int × (Int × (Int × (Int × Unit)))) × (Int × Unit)) × (Unit × (Unit × Unit)))) → (Unit → Bool × ((Bool × Unit) × Unit)) → ((Int × (Int × Unit)) → Bool × ((Int × Unit) × (Unit × (Unit × Unit)))) → (((Int × (Int × (Int × (Int × Unit)))) × Unit) → Bool × (((Int × (Int × (Int × (Int × Unit)))) × (Int × Unit)) × (Unit × Unit))) → Nat → Nat → List (Int × (Int × Unit)) → Int → List (Int × Bool) → Int → Int → Int → Int → Option (Bool × Unit) := (sealed l8_506_0').1
theorem l8_506_0_e : l8_506_0' = l8_506_0 := (sealed l8_506_0').2.symm
theorem l8_506_0_s' (F25 : Unit → Bool × (((Int × (Int × (Int × (Int × Unit)))) × Unit) × Unit)) (F27 : ((Int × (Int × (Int × (Int × Unit)))) × Unit) → Bool × ((Int × Unit) × (Unit × Unit))) (F23 : ((Int × (Int × (Int × (Int × Unit)))) × (Int × Unit)) → Bool × (((Int × (Int × (Int × (Int × Unit)))) × (Int × Unit)) × (Unit × (Unit × Unit)))) (F22 : ((Int × (Int × (Int × (Int × Unit)))) × (Int × Unit)) → Bool × (((Int × (Int × (Int × (Int × Unit)))) × (Int × Unit)) × (Unit × (Unit × Unit)))) (F20 : Unit → Bool × ((Bool × Unit) × Unit)) (F21 : (Int × (Int × Unit)) → Bool × ((Int × Unit) × (Unit × (Unit × Unit)))) (F26 : ((Int × (Int × (Int × (Int × Unit)))) × Unit) → Bool × (((Int × (Int × (Int × (Int × Unit)))) × (Int × Unit)) × (Unit × Unit))) (n k : Nat) (v0 : List (Int × (Int × Unit))) (v1 : Int) (v2 : List (Int × Bool)) (v3 : Int) (v4 : Int) (v5 : Int) (v6 : Int) : l8_506_0' F25 F27 F23 F22 F20 F21 F26 n (k + 1) v0 v1 v2 v3 v4 v5 v6 =
 (bif (decide (v1 < (v0.length : Int))) then
 (ck (rng v1 v0.length)
 (jn (fun (y202_0 : List (Int × Bool)) (y202_1 : Int) (y202_2 : Int) (y202_3 : Int) (y202_4 : Int) =>
 (cl (F27 ((y202_1, y202_2, y202_3, y202_4, ()), ())) fun r46 =>
 (bif (r46.1.1 != (0 : Int)) then
 (some (false, ()))
 else
 (l8_506_0' F25 F27 F23 F22 F20 F21 F26 n k v0 (IntKind.i64.wrap (v1 + (1 : Int))) y202_0 y202_1 y202_2 y202_3 y202_4)))) fun (j202 : List (Int × Bool) → Int → Int → Int → Int → Option (Bool × Unit)) =>
 (ck (rng v1 v0.length)
 (cl (F21 (((v0.getD v1.toNat ((0 : Int), (0 : Int), ())).1), (7 : Int), ())) fun r39 =>
 (bif (r39.1.1 == (4 : Int)) then
 (cl (F22 ((v3, v4, v5, v6, ()), (((v0.getD v1.toNat ((0 : Int), (0 : Int), ())).2).1), ())) fun r40 =>
 (jn (fun (y207_0 : Bool) =>
 (bif y207_0 then
 (some (false, ()))
 else
 (bif (r40.1.2.1 == (0 : Int)) then
 (j202 v2 r40.1.1.1 r40.1.1.2.1 r40.1.1.2.2.1 r40.1.1.2.2.2.1)
 else
 (j202 v2 v3 v4 v5 v6)))) fun (j207 : Bool → Option (Bool × Unit)) =>
 (bif (decide ((((v0.getD v1.toNat ((0 : Int), (0 : Int), ())).2).1) > v6)) then
 (j207 (!((r40.1.2.1 == (0 : Int)) == (decide ((((v0.getD v1.toNat ((0 : Int), (0 : Int), ())).2).1) ≤ (1152921504606846977 : Int))))))
 else
 (j207 (!((r40.1.2.1 == (0 : Int)) == false))))))
 else
 (jn (fun (y210_0 : Bool) =>
 (bif y210_0 then
 (jn (fun (y212_0 : Int) (y212_1 : Int) (y212_2 : Int) =>
 (cl (F26 ((y212_0, y212_1, y212_2, v6, ()), ())) fun r44 =>
 (jn (fun (y228_0 : Bool) =>
 (bif y228_0 then
 (some (false, ()))
 else
 (j202 v2 r44.1.1.1 r44.1.1.2.1 r44.1.1.2.2.1 r44.1.1.2.2.2.1))) fun (j228 : Bool → Option (Bool × Unit)) =>
 (bif (r44.1.2.1 != (0 : Int)) then
 (j228 true)
 else
 (bif (r44.1.1.1 != v6) then
 (j228 true)
 else
 (bif (r44.1.1.2.2.2.1 != v6) then
 (j228 true)
 else
 (j228 (r44.1.1.2.2.1 != (0 : Int))))))))) fun (j212 : Int → Int → Int → Option (Bool × Unit)) =>
 (ck (rng v1 v0.length)
 (cl (F21 (((v0.getD v1.toNat ((0 : Int), (0 : Int), ())).1), (7 : Int), ())) fun r41 =>
 (bif (r41.1.1 == (6 : Int)) then
 (j212 (1 : Int) (0 : Int) (0 : Int))
 else
 (j212 v3 v4 v5)))))
 else
 (cl (F23 ((v3, v4, v5, v6, ()), (((v0.getD v1.toNat ((0 : Int), (0 : Int), ())).2).1), ())) fun r45 =>
 (bif (r45.1.2.1 == (0 : Int)) then
 (jn (fun (y234_0 : Bool) =>
 (bif y234_0 then
 (some (false, ()))
 else
 (j202 (mput (.int .u64) .bool v2 (((v0.getD v1.toNat ((0 : Int), (0 : Int), ())).2).1) true) r45.1.1.1 r45.1.1.2.1 r45.1.1.2.2.1 r45.1.1.2.2.2.1))) fun (j234 : Bool → Option (Bool × Unit)) =>
 (bif ((mget (.int .u64) .bool v2 (((v0.getD v1.toNat ((0 : Int), (0 : Int), ())).2).1)).getD false) then
 (j234 true)
 else
 (bif (decide ((((v0.getD v1.toNat ((0 : Int), (0 : Int), ())).2).1) ≥ v6)) then
 (j234 true)
 else
 (j234 (decide ((((v0.getD v1.toNat ((0 : Int), (0 : Int), ())).2).1) < v3))))))
 else
 (jn (fun (y237_0 : Bool) =>
 (jn (fun (y238_0 : Bool) =>
 (bif y238_0 then
 (some (false, ()))
 else
 (j202 v2 v3 v4 v5 v6))) fun (j238 : Bool → Option (Bool × Unit)) =>
 (bif (!((mget (.int .u64) .bool v2 (((v0.getD v1.toNat ((0 : Int), (0 : Int), ())).2).1)).getD false)) then
 (bif (!y237_0) then
 (j238 (decide ((((v0.getD v1.toNat ((0 : Int), (0 : Int), ())).2).1) < v6)))
 else
 (j238 false))
 else
 (j238 false)))) fun (j237 : Bool → Option (Bool × Unit)) =>
 (bif (decide ((((v0.getD v1.toNat ((0 : Int), (0 : Int), ())).2).1) < (1 : Int))) then
 (j237 true)
 else
 (bif (decide ((((v0.getD v1.toNat ((0 : Int), (0 : Int), ())).2).1) > (1152921504606846976 : Int))) then
 (j237 true)
 else
 (bif (decide ((((v0.getD v1.toNat ((0 : Int), (0 : Int), ())).2).1) < v3)) then
 (j237 true)
 else
 (bif (decide ((((v0.getD v1.toNat ((0 : Int), (0 : Int), ())).2).1) ≤ v4)) then
 (j237 (decide ((IntKind.u64.wrap (v4 - (((v0.getD v1.toNat ((0 : Int), (0 : Int), ())).2).1))) ≥ (64 : Int))))
 else
 (j237 false)))))))))) fun (j210 : Bool → Option (Bool × Unit)) =>
 (bif (r39.1.1 == (5 : Int)) then
 (j210 (r39.1.1 == (5 : Int)))
 else
 (j210 (r39.1.1 == (6 : Int))))))))))
 else
 (some (true, ()))) := by kernel_rfl
theorem l8_506_0_s (F25 : Unit → Bool × (((Int × (Int × (Int × (Int × Unit)))) × Unit) × Unit)) (F27 : ((Int × (Int × (Int × (Int × Unit)))) × Unit) → Bool × ((Int × Unit) × (Unit × Unit))) (F23 : ((Int × (Int × (Int × (Int × Unit)))) × (Int × Unit)) → Bool × (((Int × (Int × (Int × (Int × Unit)))) × (Int × Unit)) × (Unit × (Unit × Unit)))) (F22 : ((Int × (Int × (Int × (Int × Unit)))) × (Int × Unit)) → Bool × (((Int × (Int × (Int × (Int × Unit)))) × (Int × Unit)) × (Unit × (Unit × Unit)))) (F20 : Unit → Bool × ((Bool × Unit) × Unit)) (F21 : (Int × (Int × Unit)) → Bool × ((Int × Unit) × (Unit × (Unit × Unit)))) (F26 : ((Int × (Int × (Int × (Int × Unit)))) × Unit) → Bool × (((Int × (Int × (Int × (Int × Unit)))) × (Int × Unit)) × (Unit × Unit))) (n k : Nat) (v0 : List (Int × (Int × Unit))) (v1 : Int) (v2 : List (Int × Bool)) (v3 : Int) (v4 : Int) (v5 : Int) (v6 : Int) : l8_506_0 F25 F27 F23 F22 F20 F21 F26 n (k + 1) v0 v1 v2 v3 v4 v5 v6 =
 (bif (decide (v1 < (v0.length : Int))) then
 (ck (rng v1 v0.length)
 (jn (fun (y202_0 : List (Int × Bool)) (y202_1 : Int) (y202_2 : Int) (y202_3 : Int) (y202_4 : Int) =>
 (cl (F27 ((y202_1, y202_2, y202_3, y202_4, ()), ())) fun r46 =>
 (bif (r46.1.1 != (0 : Int)) then
 (some (false, ()))
 else
 (l8_506_0 F25 F27 F23 F22 F20 F21 F26 n k v0 (IntKind.i64.wrap (v1 + (1 : Int))) y202_0 y202_1 y202_2 y202_3 y202_4)))) fun (j202 : List (Int × Bool) → Int → Int → Int → Int → Option (Bool × Unit)) =>
 (ck (rng v1 v0.length)
 (cl (F21 (((v0.getD v1.toNat ((0 : Int), (0 : Int), ())).1), (7 : Int), ())) fun r39 =>
 (bif (r39.1.1 == (4 : Int)) then
 (cl (F22 ((v3, v4, v5, v6, ()), (((v0.getD v1.toNat ((0 : Int), (0 : Int), ())).2).1), ())) fun r40 =>
 (jn (fun (y207_0 : Bool) =>
 (bif y207_0 then
 (some (false, ()))
 else
 (bif (r40.1.2.1 == (0 : Int)) then
 (j202 v2 r40.1.1.1 r40.1.1.2.1 r40.1.1.2.2.1 r40.1.1.2.2.2.1)
 else
 (j202 v2 v3 v4 v5 v6)))) fun (j207 : Bool → Option (Bool × Unit)) =>
 (bif (decide ((((v0.getD v1.toNat ((0 : Int), (0 : Int), ())).2).1) > v6)) then
 (j207 (!((r40.1.2.1 == (0 : Int)) == (decide ((((v0.getD v1.toNat ((0 : Int), (0 : Int), ())).2).1) ≤ (1152921504606846977 : Int))))))
 else
 (j207 (!((r40.1.2.1 == (0 : Int)) == false))))))
 else
 (jn (fun (y210_0 : Bool) =>
 (bif y210_0 then
 (jn (fun (y212_0 : Int) (y212_1 : Int) (y212_2 : Int) =>
 (cl (F26 ((y212_0, y212_1, y212_2, v6, ()), ())) fun r44 =>
 (jn (fun (y228_0 : Bool) =>
 (bif y228_0 then
 (some (false, ()))
 else
 (j202 v2 r44.1.1.1 r44.1.1.2.1 r44.1.1.2.2.1 r44.1.1.2.2.2.1))) fun (j228 : Bool → Option (Bool × Unit)) =>
 (bif (r44.1.2.1 != (0 : Int)) then
 (j228 true)
 else
 (bif (r44.1.1.1 != v6) then
 (j228 true)
 else
 (bif (r44.1.1.2.2.2.1 != v6) then
 (j228 true)
 else
 (j228 (r44.1.1.2.2.1 != (0 : Int))))))))) fun (j212 : Int → Int → Int → Option (Bool × Unit)) =>
 (ck (rng v1 v0.length)
 (cl (F21 (((v0.getD v1.toNat ((0 : Int), (0 : Int), ())).1), (7 : Int), ())) fun r41 =>
 (bif (r41.1.1 == (6 : Int)) then
 (j212 (1 : Int) (0 : Int) (0 : Int))
 else
 (j212 v3 v4 v5)))))
 else
 (cl (F23 ((v3, v4, v5, v6, ()), (((v0.getD v1.toNat ((0 : Int), (0 : Int), ())).2).1), ())) fun r45 =>
 (bif (r45.1.2.1 == (0 : Int)) then
 (jn (fun (y234_0 : Bool) =>
 (bif y234_0 then
 (some (false, ()))
 else
 (j202 (mput (.int .u64) .bool v2 (((v0.getD v1.toNat ((0 : Int), (0 : Int), ())).2).1) true) r45.1.1.1 r45.1.1.2.1 r45.1.1.2.2.1 r45.1.1.2.2.2.1))) fun (j234 : Bool → Option (Bool × Unit)) =>
 (bif ((mget (.int .u64) .bool v2 (((v0.getD v1.toNat ((0 : Int), (0 : Int), ())).2).1)).getD false) then
 (j234 true)
 else
 (bif (decide ((((v0.getD v1.toNat ((0 : Int), (0 : Int), ())).2).1) ≥ v6)) then
 (j234 true)
 else
 (j234 (decide ((((v0.getD v1.toNat ((0 : Int), (0 : Int), ())).2).1) < v3))))))
 else
 (jn (fun (y237_0 : Bool) =>
 (jn (fun (y238_0 : Bool) =>
 (bif y238_0 then
 (some (false, ()))
 else
 (j202 v2 v3 v4 v5 v6))) fun (j238 : Bool → Option (Bool × Unit)) =>
 (bif (!((mget (.int .u64) .bool v2 (((v0.getD v1.toNat ((0 : Int), (0 : Int), ())).2).1)).getD false)) then
 (bif (!y237_0) then
 (j238 (decide ((((v0.getD v1.toNat ((0 : Int), (0 : Int), ())).2).1) < v6)))
 else
 (j238 false))
 else
 (j238 false)))) fun (j237 : Bool → Option (Bool × Unit)) =>
 (bif (decide ((((v0.getD v1.toNat ((0 : Int), (0 : Int), ())).2).1) < (1 : Int))) then
 (j237 true)
 else
 (bif (decide ((((v0.getD v1.toNat ((0 : Int), (0 : Int), ())).2).1) > (1152921504606846976 : Int))) then
 (j237 true)
 else
 (bif (decide ((((v0.getD v1.toNat ((0 : Int), (0 : Int), ())).2).1) < v3)) then
 (j237 true)
 else
 (bif (decide ((((v0.getD v1.toNat ((0 : Int), (0 : Int), ())).2).1) ≤ v4)) then
 (j237 (decide ((IntKind.u64.wrap (v4 - (((v0.getD v1.toNat ((0 : Int), (0 : Int), ())).2).1))) ≥ (64 : Int))))
 else
 (j237 false)))))))))) fun (j210 : Bool → Option (Bool × Unit)) =>
 (bif (r39.1.1 == (5 : Int)) then
 (j210 (r39.1.1 == (5 : Int)))
 else
 (j210 (r39.1.1 == (6 : Int))))))))))
 else
 (some (true, ()))) := by
  have h := l8_506_0_s' F25 F27 F23 F22 F20 F21 F26 n k v0 v1 v2 v3 v4 v5 v6
  rw [l8_506_0_e] at h
  exact h
theorem l8_506_0_z' (F25 : Unit → Bool × (((Int × (Int × (Int × (Int × Unit)))) × Unit) × Unit)) (F27 : ((Int × (Int × (Int × (Int × Unit)))) × Unit) → Bool × ((Int × Unit) × (Unit × Unit))) (F23 : ((Int × (Int × (Int × (Int × Unit)))) × (Int × Unit)) → Bool × (((Int × (Int × (Int × (Int × Unit)))) × (Int × Unit)) × (Unit × (Unit × Unit)))) (F22 : ((Int × (Int × (Int × (Int × Unit)))) × (Int × Unit)) → Bool × (((Int × (Int × (Int × (Int × Unit)))) × (Int × Unit)) × (Unit × (Unit × Unit)))) (F20 : Unit → Bool × ((Bool × Unit) × Unit)) (F21 : (Int × (Int × Unit)) → Bool × ((Int × Unit) × (Unit × (Unit × Unit)))) (F26 : ((Int × (Int × (Int × (Int × Unit)))) × Unit) → Bool × (((Int × (Int × (Int × (Int × Unit)))) × (Int × Unit)) × (Unit × Unit))) (n : Nat) (v0 : List (Int × (Int × Unit))) (v1 : Int) (v2 : List (Int × Bool)) (v3 : Int) (v4 : Int) (v5 : Int) (v6 : Int) : l8_506_0' F25 F27 F23 F22 F20 F21 F26 n 0 v0 v1 v2 v3 v4 v5 v6 =
 none := by kernel_rfl
theorem l8_506_0_z (F25 : Unit → Bool × (((Int × (Int × (Int × (Int × Unit)))) × Unit) × Unit)) (F27 : ((Int × (Int × (Int × (Int × Unit)))) × Unit) → Bool × ((Int × Unit) × (Unit × Unit))) (F23 : ((Int × (Int × (Int × (Int × Unit)))) × (Int × Unit)) → Bool × (((Int × (Int × (Int × (Int × Unit)))) × (Int × Unit)) × (Unit × (Unit × Unit)))) (F22 : ((Int × (Int × (Int × (Int × Unit)))) × (Int × Unit)) → Bool × (((Int × (Int × (Int × (Int × Unit)))) × (Int × Unit)) × (Unit × (Unit × Unit)))) (F20 : Unit → Bool × ((Bool × Unit) × Unit)) (F21 : (Int × (Int × Unit)) → Bool × ((Int × Unit) × (Unit × (Unit × Unit)))) (F26 : ((Int × (Int × (Int × (Int × Unit)))) × Unit) → Bool × (((Int × (Int × (Int × (Int × Unit)))) × (Int × Unit)) × (Unit × Unit))) (n : Nat) (v0 : List (Int × (Int × Unit))) (v1 : Int) (v2 : List (Int × Bool)) (v3 : Int) (v4 : Int) (v5 : Int) (v6 : Int) : l8_506_0 F25 F27 F23 F22 F20 F21 F26 n 0 v0 v1 v2 v3 v4 v5 v6 =
 none := by
  have h := l8_506_0_z' F25 F27 F23 F22 F20 F21 F26 n v0 v1 v2 v3 v4 v5 v6
  rw [l8_506_0_e] at h
  exact h
theorem eq8' (F25 : Unit → Bool × (((Int × (Int × (Int × (Int × Unit)))) × Unit) × Unit)) (F27 : ((Int × (Int × (Int × (Int × Unit)))) × Unit) → Bool × ((Int × Unit) × (Unit × Unit))) (F23 : ((Int × (Int × (Int × (Int × Unit)))) × (Int × Unit)) → Bool × (((Int × (Int × (Int × (Int × Unit)))) × (Int × Unit)) × (Unit × (Unit × Unit)))) (F22 : ((Int × (Int × (Int × (Int × Unit)))) × (Int × Unit)) → Bool × (((Int × (Int × (Int × (Int × Unit)))) × (Int × Unit)) × (Unit × (Unit × Unit)))) (F20 : Unit → Bool × ((Bool × Unit) × Unit)) (F21 : (Int × (Int × Unit)) → Bool × ((Int × Unit) × (Unit × (Unit × Unit)))) (F26 : ((Int × (Int × (Int × (Int × Unit)))) × Unit) → Bool × (((Int × (Int × (Int × (Int × Unit)))) × (Int × Unit)) × (Unit × Unit))) (n : Nat) (x0 : (List (Int × (Int × Unit)))) : runD (cx8 F25 F27 F23 F22 F20 F21 F26 n) (fnOf 8) (body 8) K8a K8o (x0, ()) =
 (cl (F20 ()) fun r37 =>
 (bif (!r37.1.1) then
 (some (false, ()))
 else
 (bif (decide ((x0.length : Int) > (100 : Int))) then
 (some (true, ()))
 else
 (cl (F25 ()) fun r38 =>
 (l8_506_0' F25 F27 F23 F22 F20 F21 F26 n n x0 (0 : Int) [] r38.1.1.1 r38.1.1.2.1 r38.1.1.2.2.1 r38.1.1.2.2.2.1))))) := by kernel_rfl
theorem eq8 (F25 : Unit → Bool × (((Int × (Int × (Int × (Int × Unit)))) × Unit) × Unit)) (F27 : ((Int × (Int × (Int × (Int × Unit)))) × Unit) → Bool × ((Int × Unit) × (Unit × Unit))) (F23 : ((Int × (Int × (Int × (Int × Unit)))) × (Int × Unit)) → Bool × (((Int × (Int × (Int × (Int × Unit)))) × (Int × Unit)) × (Unit × (Unit × Unit)))) (F22 : ((Int × (Int × (Int × (Int × Unit)))) × (Int × Unit)) → Bool × (((Int × (Int × (Int × (Int × Unit)))) × (Int × Unit)) × (Unit × (Unit × Unit)))) (F20 : Unit → Bool × ((Bool × Unit) × Unit)) (F21 : (Int × (Int × Unit)) → Bool × ((Int × Unit) × (Unit × (Unit × Unit)))) (F26 : ((Int × (Int × (Int × (Int × Unit)))) × Unit) → Bool × (((Int × (Int × (Int × (Int × Unit)))) × (Int × Unit)) × (Unit × Unit))) (n : Nat) (x0 : (List (Int × (Int × Unit)))) : runD (cx8 F25 F27 F23 F22 F20 F21 F26 n) (fnOf 8) (body 8) K8a K8o (x0, ()) =
 (cl (F20 ()) fun r37 =>
 (bif (!r37.1.1) then
 (some (false, ()))
 else
 (bif (decide ((x0.length : Int) > (100 : Int))) then
 (some (true, ()))
 else
 (cl (F25 ()) fun r38 =>
 (l8_506_0 F25 F27 F23 F22 F20 F21 F26 n n x0 (0 : Int) [] r38.1.1.1 r38.1.1.2.1 r38.1.1.2.2.1 r38.1.1.2.2.2.1))))) := by
  have h := eq8' F25 F27 F23 F22 F20 F21 F26 n x0
  rw [l8_506_0_e] at h
  exact h

theorem called8 {w : World} {vs : List Value} {x : K8a.T} (hrun : ∀ x, K8a.ok x → ∃ n, runD (cx8 G25 G27 G23 G22 G20 G21 G26 n) (fnOf 8) (body 8) K8a K8o x = some (true, ())) (h : KVs (fun b => b < w.heap.size) w K8a x vs) : Calls Try.prog 8 vs.toArray w fun e w' => e = .returned (.bool true) ∧ Go.RowKit.Below w.heap.size w w' :=
  law_ok (fun n => cx8 G25 G27 G23 G22 G20 G21 G26 n) (fun _ => (SpecOK.addV (SpecOK.addV (SpecOK.addV (SpecOK.addV (SpecOK.addV (SpecOK.addV (SpecOK.addV SpecOK.none fok25) fok27) fok23) fok22) fok20) fok21) fok26)) (fun _ => mixed) (fun _ => noG_ok) (fun _ => rfl) (by kernel_rfl) (by kernel_rfl) (by kernel_rfl) (by kernel_rfl) hrun (fun _ _ _ h => by cases h) h

end Go.Proofs.Ytloohkifibfdiaa.Ae
