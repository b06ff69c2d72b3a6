/- Functions of the program, each as the evaluator reads it: a tree of cases, and a function for each loop. Printed by gen2.py. -/
import Derived.Test.YtloohkifibfdiaaAe32
import Derived.Test.YtloohkifibfdiaaProg
set_option linter.unusedVariables false
set_option maxRecDepth 100000
namespace Go.Proofs.Ytloohkifibfdiaa.Ae
open Go
noncomputable def body (f : Nat) : Code := ((Try.prog.funcs[f]?).bind (·.body)).getD .skip
noncomputable def fnOf (f : Nat) : Func := (Try.prog.funcs[f]?).getD default
theorem mixed : (Try.prog).follows .mixedOrders = true := by kernel_rfl

/-- window.New -/
@[reducible] def M25a : Md := .nil
@[reducible] def M25o : Md := (.cons (.ro (.cons (.int .u64) (.cons (.int .u64) (.cons (.int .u64) (.cons (.int .u64) .nil))))) .nil)
noncomputable def cx25 (n : Nat) : Cx := { S := noS, P := Try.prog, gl := noG, hint := [], pin := [], nin := 0, fuel := n }
def t25 : Option (((Int × (Int × (Int × (Int × Unit)))) × Unit) × Unit) :=
 (some ((((1 : Int), (0 : Int), (0 : Int), (1 : Int), ()), ()), ()))
theorem eq25 (n : Nat) : runM (cx25 n) (fnOf 25) (body 25) M25a M25o () = t25 := by kernel_rfl
def raw25 (x : Unit) : Option (((Int × (Int × (Int × (Int × Unit)))) × Unit) × Unit) := t25
theorem ok25 : FnOK Try.prog noG 25 (fnM M25a M25o (toM (ma := M25a) (mo := M25o) (raw25))) :=
  fnM_sound (cx25 0) SpecOK.none mixed noG_ok (by kernel_rfl) (by kernel_rfl) (by kernel_rfl) (by kernel_rfl) (by kernel_rfl) (by kernel_rfl) (by kernel_rfl) (toM_run fun x => ⟨0, by have h := eq25 0; exact h⟩)

noncomputable def G25 : Unit → Bool × (((Int × (Int × (Int × (Int × Unit)))) × Unit) × Unit) := toM (ma := M25a) (mo := M25o) (raw25)
theorem fok25 : FnOK Try.prog noG 25 (fnM M25a M25o G25) := ok25
theorem G25_of {y : (((Int × (Int × (Int × (Int × Unit)))) × Unit) × Unit)} (h : t25 = some y) : G25 () = (true, y) := toM_some (ma := M25a) (mo := M25o) h

/-- window.Check -/
@[reducible] def M27a : Md := (.cons (.ro (.cons (.int .u64) (.cons (.int .u64) (.cons (.int .u64) (.cons (.int .u64) .nil))))) .nil)
@[reducible] def M27o : Md := (.cons (.ro (.int .i64)) .nil)
noncomputable def cx27 (n : Nat) : Cx := { S := noS, P := Try.prog, gl := noG, hint := [], pin := [], nin := 0, fuel := n }
def t27 (x0 : Int) (x1 : Int) (x2 : Int) (x3 : Int) : Option ((Int × Unit) × (Unit × Unit)) :=
 (jn (fun (y24_0 : Bool) =>
 (bif y24_0 then
 (some (((2 : Int), ()), ((), ())))
 else
 (jn (fun (y28_0 : Bool) =>
 (bif y28_0 then
 (some (((2 : Int), ()), ((), ())))
 else
 (some (((0 : Int), ()), ((), ()))))) fun (j28 : Bool → Option ((Int × Unit) × (Unit × Unit))) =>
 (bif (!(((IntKind.u64.wrap ((BitVec.ofInt 64 x2 &&& BitVec.ofInt 64 (1 : Int)).toNat : Int)) == (1 : Int)) == (decide ((IntKind.u64.wrap ((IntKind.u64.wrap (x1 + (1 : Int))) - x0)) > (0 : Int))))) then
 (j28 true)
 else
 (bif (decide ((IntKind.u64.wrap ((IntKind.u64.wrap (x1 + (1 : Int))) - x0)) < (64 : Int))) then
 (ck (decide (0 ≤ (IntKind.u64.wrap ((IntKind.u64.wrap (x1 + (1 : Int))) - x0))))
 (j28 ((x2.fdiv (2 ^ (min (IntKind.u64.wrap ((IntKind.u64.wrap (x1 + (1 : Int))) - x0)).toNat 64))) != (0 : Int))))
 else
 (j28 false)))))) fun (j24 : Bool → Option ((Int × Unit) × (Unit × Unit))) =>
 (bif (decide (x0 < (1 : Int))) then
 (j24 true)
 else
 (bif (decide (x0 > (1152921504606846977 : Int))) then
 (j24 true)
 else
 (bif (decide (x3 < x0)) then
 (j24 true)
 else
 (bif (decide (x3 > (1152921504606846977 : Int))) then
 (j24 true)
 else
 (bif (decide (x1 < (IntKind.u64.wrap (x0 - (1 : Int))))) then
 (j24 true)
 else
 (bif (decide (x1 ≥ x3)) then
 (j24 (x1 != (IntKind.u64.wrap (x0 - (1 : Int)))))
 else
 (j24 false))))))))
theorem eq27 (n : Nat) (x0 : Int) (x1 : Int) (x2 : Int) (x3 : Int) : runM (cx27 n) (fnOf 27) (body 27) M27a M27o ((x0, x1, x2, x3, ()), ()) = t27 x0 x1 x2 x3 := by kernel_rfl
def raw27 (x : ((Int × (Int × (Int × (Int × Unit)))) × Unit)) : Option ((Int × Unit) × (Unit × Unit)) := t27 x.1.1 x.1.2.1 x.1.2.2.1 x.1.2.2.2.1
theorem ok27 : FnOK Try.prog noG 27 (fnM M27a M27o (toM (ma := M27a) (mo := M27o) (raw27))) :=
  fnM_sound (cx27 0) SpecOK.none mixed noG_ok (by kernel_rfl) (by kernel_rfl) (by kernel_rfl) (by kernel_rfl) (by kernel_rfl) (by kernel_rfl) (by kernel_rfl) (toM_run fun x => ⟨0, by have h := eq27 0 x.1.1 x.1.2.1 x.1.2.2.1 x.1.2.2.2.1; exact h⟩)

noncomputable def G27 : ((Int × (Int × (Int × (Int × Unit)))) × Unit) → Bool × ((Int × Unit) × (Unit × Unit)) := toM (ma := M27a) (mo := M27o) (raw27)
theorem fok27 : FnOK Try.prog noG 27 (fnM M27a M27o G27) := ok27
theorem G27_of {x0 : Int} {x1 : Int} {x2 : Int} {x3 : Int} {y : ((Int × Unit) × (Unit × Unit))} (h : t27 x0 x1 x2 x3 = some y) : G27 ((x0, x1, x2, x3, ()), ()) = (true, y) := toM_some (ma := M27a) (mo := M27o) h

/-- window.take -/
@[reducible] def M34a : Md := (.cons (.ro (.cons (.int .u64) (.cons (.int .u64) (.cons (.int .u64) (.cons (.int .u64) .nil))))) (.cons (.ro (.int .u64)) .nil))
@[reducible] def M34o : Md := (.cons (.ro (.cons (.int .u64) (.cons (.int .u64) (.cons (.int .u64) (.cons (.int .u64) .nil))))) (.cons (.ro (.int .i64)) .nil))
noncomputable def cx34 (n : Nat) : Cx := { S := noS, P := Try.prog, gl := noG, hint := [], pin := [], nin := 0, fuel := n }
def t34 (x0 : Int) (x1 : Int) (x2 : Int) (x3 : Int) (x4 : Int) : Option (((Int × (Int × (Int × (Int × Unit)))) × (Int × Unit)) × (Unit × (Unit × Unit))) :=
 (jn (fun (y53_0 : Bool) =>
 (bif y53_0 then
 (some ((((0 : Int), (0 : Int), (0 : Int), (0 : Int), ()), (2 : Int), ()), ((), (), ())))
 else
 (jn (fun (y55_0 : Bool) =>
 (bif y55_0 then
 (some ((((0 : Int), (0 : Int), (0 : Int), (0 : Int), ()), (8 : Int), ()), ((), (), ())))
 else
 (jn (fun (y58_0 : Bool) =>
 (bif y58_0 then
 (some ((((0 : Int), (0 : Int), (0 : Int), (0 : Int), ()), (7 : Int), ()), ((), (), ())))
 else
 (bif (decide (x4 ≥ x3)) then
 (some ((((0 : Int), (0 : Int), (0 : Int), (0 : Int), ()), (9 : Int), ()), ((), (), ())))
 else
 (bif (decide (x4 ≤ x1)) then
 (ck (decide (0 ≤ (IntKind.u64.wrap (x1 - x4))))
 (some (((x0, x1, (IntKind.u64.wrap ((BitVec.ofInt 64 x2 ||| BitVec.ofInt 64 (IntKind.u64.wrap ((1 : Int) * 2 ^ (min (IntKind.u64.wrap (x1 - x4)).toNat 64)))).toNat : Int)), x3, ()), (0 : Int), ()), ((), (), ()))))
 else
 (ck (decide (0 ≤ (IntKind.u64.wrap (x4 - x1))))
 (some (((x0, x4, (IntKind.u64.wrap ((BitVec.ofInt 64 (IntKind.u64.wrap (x2 * 2 ^ (min (IntKind.u64.wrap (x4 - x1)).toNat 64))) ||| BitVec.ofInt 64 (1 : Int)).toNat : Int)), x3, ()), (0 : Int), ()), ((), (), ())))))))) fun (j58 : Bool → Option (((Int × (Int × (Int × (Int × Unit)))) × (Int × Unit)) × (Unit × (Unit × Unit)))) =>
 (bif (decide (x4 ≤ x1)) then
 (ck (decide (0 ≤ (IntKind.u64.wrap (x1 - x4))))
 (j58 ((IntKind.u64.wrap ((BitVec.ofInt 64 (x2.fdiv (2 ^ (min (IntKind.u64.wrap (x1 - x4)).toNat 64))) &&& BitVec.ofInt 64 (1 : Int)).toNat : Int)) == (1 : Int))))
 else
 (j58 false))))) fun (j55 : Bool → Option (((Int × (Int × (Int × (Int × Unit)))) × (Int × Unit)) × (Unit × (Unit × Unit)))) =>
 (bif (decide (x4 < x0)) then
 (j55 (decide (x4 < x0)))
 else
 (bif (decide (x4 ≤ x1)) then
 (j55 (decide ((IntKind.u64.wrap (x1 - x4)) ≥ (64 : Int))))
 else
 (j55 false)))))) fun (j53 : Bool → Option (((Int × (Int × (Int × (Int × Unit)))) × (Int × Unit)) × (Unit × (Unit × Unit)))) =>
 (bif (x4 == (0 : Int)) then
 (j53 true)
 else
 (j53 (decide (x4 > (1152921504606846976 : Int))))))
theorem eq34 (n : Nat) (x0 : Int) (x1 : Int) (x2 : Int) (x3 : Int) (x4 : Int) : runM (cx34 n) (fnOf 34) (body 34) M34a M34o ((x0, x1, x2, x3, ()), x4, ()) = t34 x0 x1 x2 x3 x4 := by kernel_rfl
def raw34 (x : ((Int × (Int × (Int × (Int × Unit)))) × (Int × Unit))) : Option (((Int × (Int × (Int × (Int × Unit)))) × (Int × Unit)) × (Unit × (Unit × Unit))) := t34 x.1.1 x.1.2.1 x.1.2.2.1 x.1.2.2.2.1 x.2.1
theorem ok34 : FnOK Try.prog noG 34 (fnM M34a M34o (toM (ma := M34a) (mo := M34o) (raw34))) :=
  fnM_sound (cx34 0) SpecOK.none mixed noG_ok (by kernel_rfl) (by kernel_rfl) (by kernel_rfl) (by kernel_rfl) (by kernel_rfl) (by kernel_rfl) (by kernel_rfl) (toM_run fun x => ⟨0, by have h := eq34 0 x.1.1 x.1.2.1 x.1.2.2.1 x.1.2.2.2.1 x.2.1; exact h⟩)

noncomputable def G34 : ((Int × (Int × (Int × (Int × Unit)))) × (Int × Unit)) → Bool × (((Int × (Int × (Int × (Int × Unit)))) × (Int × Unit)) × (Unit × (Unit × Unit))) := toM (ma := M34a) (mo := M34o) (raw34)
theorem fok34 : FnOK Try.prog noG 34 (fnM M34a M34o G34) := ok34
theorem G34_of {x0 : Int} {x1 : Int} {x2 : Int} {x3 : Int} {x4 : Int} {y : (((Int × (Int × (Int × (Int × Unit)))) × (Int × Unit)) × (Unit × (Unit × Unit)))} (h : t34 x0 x1 x2 x3 x4 = some y) : G34 ((x0, x1, x2, x3, ()), x4, ()) = (true, y) := toM_some (ma := M34a) (mo := M34o) h

/-- window.Take -/
@[reducible] def M23a : Md := (.cons (.ro (.cons (.int .u64) (.cons (.int .u64) (.cons (.int .u64) (.cons (.int .u64) .nil))))) (.cons (.ro (.int .u64)) .nil))
@[reducible] def M23o : Md := (.cons (.ro (.cons (.int .u64) (.cons (.int .u64) (.cons (.int .u64) (.cons (.int .u64) .nil))))) (.cons (.ro (.int .i64)) .nil))
noncomputable def cx23 (F27 : ((Int × (Int × (Int × (Int × Unit)))) × Unit) → Bool × ((Int × Unit) × (Unit × Unit))) (F34 : ((Int × (Int × (Int × (Int × Unit)))) × (Int × Unit)) → Bool × (((Int × (Int × (Int × (Int × Unit)))) × (Int × Unit)) × (Unit × (Unit × Unit)))) (n : Nat) : Cx := { S := (addV (addV noS 27 (fnM M27a M27o F27)) 34 (fnM M34a M34o F34)), P := Try.prog, gl := noG, hint := [], pin := [], nin := 0, fuel := n }
def t23 (F27 : ((Int × (Int × (Int × (Int × Unit)))) × Unit) → Bool × ((Int × Unit) × (Unit × Unit))) (F34 : ((Int × (Int × (Int × (Int × Unit)))) × (Int × Unit)) → Bool × (((Int × (Int × (Int × (Int × Unit)))) × (Int × Unit)) × (Unit × (Unit × Unit)))) (x0 : Int) (x1 : Int) (x2 : Int) (x3 : Int) (x4 : Int) : Option (((Int × (Int × (Int × (Int × Unit)))) × (Int × Unit)) × (Unit × (Unit × Unit))) :=
 (cl (F27 ((x0, x1, x2, x3, ()), ())) fun r4 =>
 (bif (r4.1.1 != (0 : Int)) then
 (some ((((0 : Int), (0 : Int), (0 : Int), (0 : Int), ()), r4.1.1, ()), ((), (), ())))
 else
 (cl (F34 ((x0, x1, x2, x3, ()), x4, ())) fun r5 =>
 (some (((r5.1.1.1, r5.1.1.2.1, r5.1.1.2.2.1, r5.1.1.2.2.2.1, ()), r5.1.2.1, ()), ((), (), ()))))))
theorem eq23 (F27 : ((Int × (Int × (Int × (Int × Unit)))) × Unit) → Bool × ((Int × Unit) × (Unit × Unit))) (F34 : ((Int × (Int × (Int × (Int × Unit)))) × (Int × Unit)) → Bool × (((Int × (Int × (Int × (Int × Unit)))) × (Int × Unit)) × (Unit × (Unit × Unit)))) (n : Nat) (x0 : Int) (x1 : Int) (x2 : Int) (x3 : Int) (x4 : Int) : runM (cx23 F27 F34 n) (fnOf 23) (body 23) M23a M23o ((x0, x1, x2, x3, ()), x4, ()) = t23 F27 F34 x0 x1 x2 x3 x4 := by kernel_rfl
def raw23 (F27 : ((Int × (Int × (Int × (Int × Unit)))) × Unit) → Bool × ((Int × Unit) × (Unit × Unit))) (F34 : ((Int × (Int × (Int × (Int × Unit)))) × (Int × Unit)) → Bool × (((Int × (Int × (Int × (Int × Unit)))) × (Int × Unit)) × (Unit × (Unit × Unit)))) (x : ((Int × (Int × (Int × (Int × Unit)))) × (Int × Unit))) : Option (((Int × (Int × (Int × (Int × Unit)))) × (Int × Unit)) × (Unit × (Unit × Unit))) := t23 F27 F34 x.1.1 x.1.2.1 x.1.2.2.1 x.1.2.2.2.1 x.2.1
theorem ok23 (F27 : ((Int × (Int × (Int × (Int × Unit)))) × Unit) → Bool × ((Int × Unit) × (Unit × Unit))) (F34 : ((Int × (Int × (Int × (Int × Unit)))) × (Int × Unit)) → Bool × (((Int × (Int × (Int × (Int × Unit)))) × (Int × Unit)) × (Unit × (Unit × Unit)))) (h27 : FnOK Try.prog noG 27 (fnM M27a M27o F27)) (h34 : FnOK Try.prog noG 34 (fnM M34a M34o F34)) : FnOK Try.prog noG 23 (fnM M23a M23o (toM (ma := M23a) (mo := M23o) (raw23 F27 F34))) :=
  fnM_sound (cx23 F27 F34 0) (SpecOK.addV (SpecOK.addV SpecOK.none h27) h34) mixed noG_ok (by kernel_rfl) (by kernel_rfl) (by kernel_rfl) (by kernel_rfl) (by kernel_rfl) (by kernel_rfl) (by kernel_rfl) (toM_run fun x => ⟨0, by have h := eq23 F27 F34 0 x.1.1 x.1.2.1 x.1.2.2.1 x.1.2.2.2.1 x.2.1; exact h⟩)

noncomputable def G23 : ((Int × (Int × (Int × (Int × Unit)))) × (Int × Unit)) → Bool × (((Int × (Int × (Int × (Int × Unit)))) × (Int × Unit)) × (Unit × (Unit × Unit))) := toM (ma := M23a) (mo := M23o) (raw23 G27 G34)
theorem fok23 : FnOK Try.prog noG 23 (fnM M23a M23o G23) := ok23 G27 G34 fok27 fok34
theorem G23_of {x0 : Int} {x1 : Int} {x2 : Int} {x3 : Int} {x4 : Int} {y : (((Int × (Int × (Int × (Int × Unit)))) × (Int × Unit)) × (Unit × (Unit × Unit)))} (h : t23 G27 G34 x0 x1 x2 x3 x4 = some y) : G23 ((x0, x1, x2, x3, ()), x4, ()) = (true, y) := toM_some (ma := M23a) (mo := M23o) h

/-- window.Allow -/
@[reducible] def M22a : Md := (.cons (.ro (.cons (.int .u64) (.cons (.int .u64) (.cons (.int .u64) (.cons (.int .u64) .nil))))) (.cons (.ro (.int .u64)) .nil))
@[reducible] def M22o : Md := (.cons (.ro (.cons (.int .u64) (.cons (.int .u64) (.cons (.int .u64) (.cons (.int .u64) .nil))))) (.cons (.ro (.int .i64)) .nil))
noncomputable def cx22 (F27 : ((Int × (Int × (Int × (Int × Unit)))) × Unit) → Bool × ((Int × Unit) × (Unit × Unit))) (n : Nat) : Cx := { S := (addV noS 27 (fnM M27a M27o F27)), P := Try.prog, gl := noG, hint := [], pin := [], nin := 0, fuel := n }
def t22 (F27 : ((Int × (Int × (Int × (Int × Unit)))) × Unit) → Bool × ((Int × Unit) × (Unit × Unit))) (x0 : Int) (x1 : Int) (x2 : Int) (x3 : Int) (x4 : Int) : Option (((Int × (Int × (Int × (Int × Unit)))) × (Int × Unit)) × (Unit × (Unit × Unit))) :=
 (cl (F27 ((x0, x1, x2, x3, ()), ())) fun r9 =>
 (bif (r9.1.1 != (0 : Int)) then
 (some ((((0 : Int), (0 : Int), (0 : Int), (0 : Int), ()), r9.1.1, ()), ((), (), ())))
 else
 (bif (decide (x4 > (1152921504606846977 : Int))) then
 (some ((((0 : Int), (0 : Int), (0 : Int), (0 : Int), ()), (2 : Int), ()), ((), (), ())))
 else
 (bif (decide (x4 ≤ x3)) then
 (some ((((0 : Int), (0 : Int), (0 : Int), (0 : Int), ()), (8 : Int), ()), ((), (), ())))
 else
 (some (((x0, x1, x2, x4, ()), (0 : Int), ()), ((), (), ())))))))
theorem eq22 (F27 : ((Int × (Int × (Int × (Int × Unit)))) × Unit) → Bool × ((Int × Unit) × (Unit × Unit))) (n : Nat) (x0 : Int) (x1 : Int) (x2 : Int) (x3 : Int) (x4 : Int) : runM (cx22 F27 n) (fnOf 22) (body 22) M22a M22o ((x0, x1, x2, x3, ()), x4, ()) = t22 F27 x0 x1 x2 x3 x4 := by kernel_rfl
def raw22 (F27 : ((Int × (Int × (Int × (Int × Unit)))) × Unit) → Bool × ((Int × Unit) × (Unit × Unit))) (x : ((Int × (Int × (Int × (Int × Unit)))) × (Int × Unit))) : Option (((Int × (Int × (Int × (Int × Unit)))) × (Int × Unit)) × (Unit × (Unit × Unit))) := t22 F27 x.1.1 x.1.2.1 x.1.2.2.1 x.1.2.2.2.1 x.2.1
theorem ok22 (F27 : ((Int × (Int × (Int × (Int × Unit)))) × Unit) → Bool × ((Int × Unit) × (Unit × Unit))) (h27 : FnOK Try.prog noG 27 (fnM M27a M27o F27)) : FnOK Try.prog noG 22 (fnM M22a M22o (toM (ma := M22a) (mo := M22o) (raw22 F27))) :=
  fnM_sound (cx22 F27 0) (SpecOK.addV SpecOK.none h27) mixed noG_ok (by kernel_rfl) (by kernel_rfl) (by kernel_rfl) (by kernel_rfl) (by kernel_rfl) (by kernel_rfl) (by kernel_rfl) (toM_run fun x => ⟨0, by have h := eq22 F27 0 x.1.1 x.1.2.1 x.1.2.2.1 x.1.2.2.2.1 x.2.1; exact h⟩)

noncomputable def G22 : ((Int × (Int × (Int × (Int × Unit)))) × (Int × Unit)) → Bool × (((Int × (Int × (Int × (Int × Unit)))) × (Int × Unit)) × (Unit × (Unit × Unit))) := toM (ma := M22a) (mo := M22o) (raw22 G27)
theorem fok22 : FnOK Try.prog noG 22 (fnM M22a M22o G22) := ok22 G27 fok27
theorem G22_of {x0 : Int} {x1 : Int} {x2 : Int} {x3 : Int} {x4 : Int} {y : (((Int × (Int × (Int × (Int × Unit)))) × (Int × Unit)) × (Unit × (Unit × Unit)))} (h : t22 G27 x0 x1 x2 x3 x4 = some y) : G22 ((x0, x1, x2, x3, ()), x4, ()) = (true, y) := toM_some (ma := M22a) (mo := M22o) h

/-- window.Seen -/
@[reducible] def M24a : Md := (.cons (.ro (.cons (.int .u64) (.cons (.int .u64) (.cons (.int .u64) (.cons (.int .u64) .nil))))) (.cons (.ro (.int .u64)) .nil))
@[reducible] def M24o : Md := (.cons (.ro .bool) .nil)
noncomputable def cx24 (F27 : ((Int × (Int × (Int × (Int × Unit)))) × Unit) → Bool × ((Int × Unit) × (Unit × Unit))) (n : Nat) : Cx := { S := (addV noS 27 (fnM M27a M27o F27)), P := Try.prog, gl := noG, hint := [], pin := [], nin := 0, fuel := n }
def t24 (F27 : ((Int × (Int × (Int × (Int × Unit)))) × Unit) → Bool × ((Int × Unit) × (Unit × Unit))) (x0 : Int) (x1 : Int) (x2 : Int) (x3 : Int) (x4 : Int) : Option ((Bool × Unit) × (Unit × (Unit × Unit))) :=
 (jn (fun (y105_0 : Bool) =>
 some ((y105_0, ()), ((), (), ()))) fun (j105 : Bool → Option ((Bool × Unit) × (Unit × (Unit × Unit)))) =>
 (cl (F27 ((x0, x1, x2, x3, ()), ())) fun r16 =>
 (bif (r16.1.1 == (0 : Int)) then
 (bif (decide (x4 ≤ x1)) then
 (bif (decide ((IntKind.u64.wrap (x1 - x4)) < (64 : Int))) then
 (ck (decide (0 ≤ (IntKind.u64.wrap (x1 - x4))))
 (j105 ((IntKind.u64.wrap ((BitVec.ofInt 64 (x2.fdiv (2 ^ (min (IntKind.u64.wrap (x1 - x4)).toNat 64))) &&& BitVec.ofInt 64 (1 : Int)).toNat : Int)) == (1 : Int))))
 else
 (j105 false))
 else
 (j105 false))
 else
 (j105 false))))
theorem eq24 (F27 : ((Int × (Int × (Int × (Int × Unit)))) × Unit) → Bool × ((Int × Unit) × (Unit × Unit))) (n : Nat) (x0 : Int) (x1 : Int) (x2 : Int) (x3 : Int) (x4 : Int) : runM (cx24 F27 n) (fnOf 24) (body 24) M24a M24o ((x0, x1, x2, x3, ()), x4, ()) = t24 F27 x0 x1 x2 x3 x4 := by kernel_rfl
def raw24 (F27 : ((Int × (Int × (Int × (Int × Unit)))) × Unit) → Bool × ((Int × Unit) × (Unit × Unit))) (x : ((Int × (Int × (Int × (Int × Unit)))) × (Int × Unit))) : Option ((Bool × Unit) × (Unit × (Unit × Unit))) := t24 F27 x.1.1 x.1.2.1 x.1.2.2.1 x.1.2.2.2.1 x.2.1
theorem ok24 (F27 : ((Int × (Int × (Int × (Int × Unit)))) × Unit) → Bool × ((Int × Unit) × (Unit × Unit))) (h27 : FnOK Try.prog noG 27 (fnM M27a M27o F27)) : FnOK Try.prog noG 24 (fnM M24a M24o (toM (ma := M24a) (mo := M24o) (raw24 F27))) :=
  fnM_sound (cx24 F27 0) (SpecOK.addV SpecOK.none h27) mixed noG_ok (by kernel_rfl) (by kernel_rfl) (by kernel_rfl) (by kernel_rfl) (by kernel_rfl) (by kernel_rfl) (by kernel_rfl) (toM_run fun x => ⟨0, by have h := eq24 F27 0 x.1.1 x.1.2.1 x.1.2.2.1 x.1.2.2.2.1 x.2.1; exact h⟩)

noncomputable def G24 : ((Int × (Int × (Int × (Int × Unit)))) × (Int × Unit)) → Bool × ((Bool × Unit) × (Unit × (Unit × Unit))) := toM (ma := M24a) (mo := M24o) (raw24 G27)
theorem fok24 : FnOK Try.prog noG 24 (fnM M24a M24o G24) := ok24 G27 fok27
theorem G24_of {x0 : Int} {x1 : Int} {x2 : Int} {x3 : Int} {x4 : Int} {y : ((Bool × Unit) × (Unit × (Unit × Unit)))} (h : t24 G27 x0 x1 x2 x3 x4 = some y) : G24 ((x0, x1, x2, x3, ()), x4, ()) = (true, y) := toM_some (ma := M24a) (mo := M24o) h

/-- drawbridgelaw07.lives -/
@[reducible] def M20a : Md := .nil
@[reducible] def M20o : Md := (.cons (.ro .bool) .nil)
noncomputable def cx20 (F25 : Unit → Bool × (((Int × (Int × (Int × (Int × Unit)))) × Unit) × Unit)) (F23 : ((Int × (Int × (Int × (Int × Unit)))) × (Int × Unit)) → Bool × (((Int × (Int × (Int × (Int × Unit)))) × (Int × Unit)) × (Unit × (Unit × Unit)))) (F22 : ((Int × (Int × (Int × (Int × Unit)))) × (Int × Unit)) → Bool × (((Int × (Int × (Int × (Int × Unit)))) × (Int × Unit)) × (Unit × (Unit × Unit)))) (F24 : ((Int × (Int × (Int × (Int × Unit)))) × (Int × Unit)) → Bool × ((Bool × Unit) × (Unit × (Unit × Unit)))) (n : Nat) : Cx := { S := (addV (addV (addV (addV noS 25 (fnM M25a M25o F25)) 23 (fnM M23a M23o F23)) 22 (fnM M22a M22o F22)) 24 (fnM M24a M24o F24)), P := Try.prog, gl := noG, hint := [], pin := [], nin := 0, fuel := n }
def t20 (F25 : Unit → Bool × (((Int × (Int × (Int × (Int × Unit)))) × Unit) × Unit)) (F23 : ((Int × (Int × (Int × (Int × Unit)))) × (Int × Unit)) → Bool × (((Int × (Int × (Int × (Int × Unit)))) × (Int × Unit)) × (Unit × (Unit × Unit)))) (F22 : ((Int × (Int × (Int × (Int × Unit)))) × (Int × Unit)) → Bool × (((Int × (Int × (Int × (Int × Unit)))) × (Int × Unit)) × (Unit × (Unit × Unit)))) (F24 : ((Int × (Int × (Int × (Int × Unit)))) × (Int × Unit)) → Bool × ((Bool × Unit) × (Unit × (Unit × Unit)))) : Option ((Bool × Unit) × Unit) :=
 (cl (F25 ()) fun r19 =>
 (cl (F23 ((r19.1.1.1, r19.1.1.2.1, r19.1.1.2.2.1, r19.1.1.2.2.2.1, ()), (1 : Int), ())) fun r20 =>
 (cl (F25 ()) fun r21 =>
 (cl (F22 ((r21.1.1.1, r21.1.1.2.1, r21.1.1.2.2.1, r21.1.1.2.2.2.1, ()), (100 : Int), ())) fun r22 =>
 (cl (F23 ((r22.1.1.1, r22.1.1.2.1, r22.1.1.2.2.1, r22.1.1.2.2.2.1, ()), (70 : Int), ())) fun r23 =>
 (cl (F23 ((r23.1.1.1, r23.1.1.2.1, r23.1.1.2.2.1, r23.1.1.2.2.2.1, ()), (6 : Int), ())) fun r24 =>
 (cl (F23 ((r23.1.1.1, r23.1.1.2.1, r23.1.1.2.2.1, r23.1.1.2.2.2.1, ()), (7 : Int), ())) fun r25 =>
 (cl (F23 ((r25.1.1.1, r25.1.1.2.1, r25.1.1.2.2.1, r25.1.1.2.2.2.1, ()), (70 : Int), ())) fun r26 =>
 (bif (r20.1.2.1 == (9 : Int)) then
 (bif (r22.1.2.1 == (0 : Int)) then
 (bif (r23.1.2.1 == (0 : Int)) then
 (bif (r24.1.2.1 == (8 : Int)) then
 (bif (r25.1.2.1 == (0 : Int)) then
 (bif (r26.1.2.1 == (7 : Int)) then
 (cl (F24 ((r25.1.1.1, r25.1.1.2.1, r25.1.1.2.2.1, r25.1.1.2.2.2.1, ()), (7 : Int), ())) fun r27 =>
 (bif r27.1.1 then
 (cl (F24 ((r25.1.1.1, r25.1.1.2.1, r25.1.1.2.2.1, r25.1.1.2.2.2.1, ()), (8 : Int), ())) fun r28 =>
 (some (((!r28.1.1), ()), ())))
 else
 (some ((false, ()), ()))))
 else
 (some ((false, ()), ())))
 else
 (some ((false, ()), ())))
 else
 (some ((false, ()), ())))
 else
 (some ((false, ()), ())))
 else
 (some ((false, ()), ())))
 else
 (some ((false, ()), ())))))))))))
theorem eq20 (F25 : Unit → Bool × (((Int × (Int × (Int × (Int × Unit)))) × Unit) × Unit)) (F23 : ((Int × (Int × (Int × (Int × Unit)))) × (Int × Unit)) → Bool × (((Int × (Int × (Int × (Int × Unit)))) × (Int × Unit)) × (Unit × (Unit × Unit)))) (F22 : ((Int × (Int × (Int × (Int × Unit)))) × (Int × Unit)) → Bool × (((Int × (Int × (Int × (Int × Unit)))) × (Int × Unit)) × (Unit × (Unit × Unit)))) (F24 : ((Int × (Int × (Int × (Int × Unit)))) × (Int × Unit)) → Bool × ((Bool × Unit) × (Unit × (Unit × Unit)))) (n : Nat) : runM (cx20 F25 F23 F22 F24 n) (fnOf 20) (body 20) M20a M20o () = t20 F25 F23 F22 F24 := by kernel_rfl
def raw20 (F25 : Unit → Bool × (((Int × (Int × (Int × (Int × Unit)))) × Unit) × Unit)) (F23 : ((Int × (Int × (Int × (Int × Unit)))) × (Int × Unit)) → Bool × (((Int × (Int × (Int × (Int × Unit)))) × (Int × Unit)) × (Unit × (Unit × Unit)))) (F22 : ((Int × (Int × (Int × (Int × Unit)))) × (Int × Unit)) → Bool × (((Int × (Int × (Int × (Int × Unit)))) × (Int × Unit)) × (Unit × (Unit × Unit)))) (F24 : ((Int × (Int × (Int × (Int × Unit)))) × (Int × Unit)) → Bool × ((Bool × Unit) × (Unit × (Unit × Unit)))) (x : Unit) : Option ((Bool × Unit) × Unit) := t20 F25 F23 F22 F24
theorem ok20 (F25 : Unit → Bool × (((Int × (Int × (Int × (Int × Unit)))) × Unit) × Unit)) (F23 : ((Int × (Int × (Int × (Int × Unit)))) × (Int × Unit)) → Bool × (((Int × (Int × (Int × (Int × Unit)))) × (Int × Unit)) × (Unit × (Unit × Unit)))) (F22 : ((Int × (Int × (Int × (Int × Unit)))) × (Int × Unit)) → Bool × (((Int × (Int × (Int × (Int × Unit)))) × (Int × Unit)) × (Unit × (Unit × Unit)))) (F24 : ((Int × (Int × (Int × (Int × Unit)))) × (Int × Unit)) → Bool × ((Bool × Unit) × (Unit × (Unit × Unit)))) (h25 : FnOK Try.prog noG 25 (fnM M25a M25o F25)) (h23 : FnOK Try.prog noG 23 (fnM M23a M23o F23)) (h22 : FnOK Try.prog noG 22 (fnM M22a M22o F22)) (h24 : FnOK Try.prog noG 24 (fnM M24a M24o F24)) : FnOK Try.prog noG 20 (fnM M20a M20o (toM (ma := M20a) (mo := M20o) (raw20 F25 F23 F22 F24))) :=
  fnM_sound (cx20 F25 F23 F22 F24 0) (SpecOK.addV (SpecOK.addV (SpecOK.addV (SpecOK.addV SpecOK.none h25) h23) h22) h24) mixed noG_ok (by kernel_rfl) (by kernel_rfl) (by kernel_rfl) (by kernel_rfl) (by kernel_rfl) (by kernel_rfl) (by kernel_rfl) (toM_run fun x => ⟨0, by have h := eq20 F25 F23 F22 F24 0; exact h⟩)

noncomputable def G20 : Unit → Bool × ((Bool × Unit) × Unit) := toM (ma := M20a) (mo := M20o) (raw20 G25 G23 G22 G24)
theorem fok20 : FnOK Try.prog noG 20 (fnM M20a M20o G20) := ok20 G25 G23 G22 G24 fok25 fok23 fok22 fok24
theorem G20_of {y : ((Bool × Unit) × Unit)} (h : t20 G25 G23 G22 G24 = some y) : G20 () = (true, y) := toM_some (ma := M20a) (mo := M20o) h

/-- drawbridgekit.Own -/
@[reducible] def M30a : Md := (.cons (.ro (.sl (.int .u8))) .nil)
@[reducible] def M30o : Md := (.cons (.ow (.int .u8)) .nil)
noncomputable def cx30 (n : Nat) : Cx := { S := noS, P := Try.prog, gl := noG, hint := [], pin := [], nin := 0, fuel := n }
def t30 (x0 : (List Int)) : Option (((List Int) × Unit) × (Unit × Unit)) :=
 (ck (fits (0 + x0.length) 1)
 (some (([] ++ x0, ()), ((), ()))))
theorem eq30 (n : Nat) (x0 : (List Int)) : runM (cx30 n) (fnOf 30) (body 30) M30a M30o (x0, ()) = t30 x0 := by kernel_rfl
def raw30 (x : ((List Int) × Unit)) : Option (((List Int) × Unit) × (Unit × Unit)) := t30 x.1
theorem ok30 : FnOK Try.prog noG 30 (fnM M30a M30o (toM (ma := M30a) (mo := M30o) (raw30))) :=
  fnM_sound (cx30 0) SpecOK.none mixed noG_ok (by kernel_rfl) (by kernel_rfl) (by kernel_rfl) (by kernel_rfl) (by kernel_rfl) (by kernel_rfl) (by kernel_rfl) (toM_run fun x => ⟨0, by have h := eq30 0 x.1; exact h⟩)

noncomputable def G30 : ((List Int) × Unit) → Bool × (((List Int) × Unit) × (Unit × Unit)) := toM (ma := M30a) (mo := M30o) (raw30)
theorem fok30 : FnOK Try.prog noG 30 (fnM M30a M30o G30) := ok30
theorem G30_of {x0 : (List Int)} {y : (((List Int) × Unit) × (Unit × Unit))} (h : t30 x0 = some y) : G30 (x0, ()) = (true, y) := toM_some (ma := M30a) (mo := M30o) h
theorem own30 (b : List Int) (h : b.length ≤ 140737488355328) : G30 (b, ()) = (true, ((b, ()), ((), ()))) := by
  refine G30_of ?_
  unfold t30
  rw [show fits (0 + b.length) 1 = true from decide_eq_true (by omega)]
  rfl


/-- slices.Clone[[]byte,byte] -/
@[reducible] def M39a : Md := (.cons (.ro (.sl (.int .u8))) .nil)
@[reducible] def M39o : Md := (.cons (.ow (.int .u8)) .nil)
noncomputable def cx39 (n : Nat) : Cx := { S := noS, P := Try.prog, gl := noG, hint := [], pin := [], nin := 0, fuel := n }
def t39 (x0 : (List Int)) : Option (((List Int) × Unit) × (Unit × Unit)) :=
 (ck (fits (0 + x0.length) 1)
 (some (([] ++ x0, ()), ((), ()))))
theorem eq39 (n : Nat) (x0 : (List Int)) : evK (cx39 n) (body 39) 1 { tm := [(0, .rs (.int .u8) x0 true false)], hp := [], nx := 0 } (finM Try.prog (fnOf 39) M39a M39o) = t39 x0 := by kernel_rfl
theorem eqN39 (n : Nat) : evK (cx39 n) (body 39) 1 { tm := [(0, .nils)], hp := [], nx := 0 } (finM Try.prog (fnOf 39) M39a M39o) = t39 [] := by kernel_rfl
def raw39 (x : ((List Int) × Unit)) : Option (((List Int) × Unit) × (Unit × Unit)) := t39 x.1
theorem ok39 : FnOK Try.prog noG 39 (fnM M39a M39o (toM (ma := M39a) (mo := M39o) (raw39))) :=
  fnM_start (cx39 0) SpecOK.none mixed noG_ok (by kernel_rfl) (by kernel_rfl) (by kernel_rfl) (by kernel_rfl) (by kernel_rfl) (by kernel_rfl) (by kernel_rfl) fun x hx => ⟨0, StartAt.nil1 (fun h => by
    obtain ⟨y, hy⟩ := toM_get (ma := M39a) (mo := M39o) hx
    rw [hy.2]; have e := eqN39 0; rw [← h] at e; exact e.trans hy.1) (by
    obtain ⟨y, hy⟩ := toM_get (ma := M39a) (mo := M39o) hx
    rw [hy.2]; exact (eq39 0 x.1).trans hy.1)⟩

noncomputable def G39 : ((List Int) × Unit) → Bool × (((List Int) × Unit) × (Unit × Unit)) := toM (ma := M39a) (mo := M39o) (raw39)
theorem fok39 : FnOK Try.prog noG 39 (fnM M39a M39o G39) := ok39
theorem G39_of {x0 : (List Int)} {y : (((List Int) × Unit) × (Unit × Unit))} (h : t39 x0 = some y) : G39 (x0, ()) = (true, y) := toM_some (ma := M39a) (mo := M39o) h
theorem clone39 (l : List Int) (h : l.length ≤ 140737488355328) : G39 (l, ()) = (true, ((l, ()), ((), ()))) := by
  refine G39_of ?_
  unfold t39
  rw [show fits (0 + l.length) 1 = true from decide_eq_true (by omega)]
  rfl


/-- octet.New -/
@[reducible] def M35a : Md := (.cons (.ro (.sl (.int .u8))) .nil)
@[reducible] def M35o : Md := (.cons (.bx (.cons (.ow (.int .u8)) (.cons (.ro (.int .i64)) (.cons (.ro .bool) .nil)))) .nil)
noncomputable def cx35 (F39 : ((List Int) × Unit) → Bool × (((List Int) × Unit) × (Unit × Unit))) (n : Nat) : Cx := { S := (addV noS 39 (fnM M39a M39o F39)), P := Try.prog, gl := noG, hint := [], pin := [], nin := 0, fuel := n }
def t35 (F39 : ((List Int) × Unit) → Bool × (((List Int) × Unit) × (Unit × Unit))) (x0 : (List Int)) : Option ((((List Int) × (Int × (Bool × Unit))) × Unit) × (Unit × Unit)) :=
 (cl (F39 (x0, ())) fun r32 =>
 (some (((r32.1.1, (0 : Int), true, ()), ()), ((), ()))))
theorem eq35 (F39 : ((List Int) × Unit) → Bool × (((List Int) × Unit) × (Unit × Unit))) (n : Nat) (x0 : (List Int)) : runM (cx35 F39 n) (fnOf 35) (body 35) M35a M35o (x0, ()) = t35 F39 x0 := by kernel_rfl
def raw35 (F39 : ((List Int) × Unit) → Bool × (((List Int) × Unit) × (Unit × Unit))) (x : ((List Int) × Unit)) : Option ((((List Int) × (Int × (Bool × Unit))) × Unit) × (Unit × Unit)) := t35 F39 x.1
theorem ok35 (F39 : ((List Int) × Unit) → Bool × (((List Int) × Unit) × (Unit × Unit))) (h39 : FnOK Try.prog noG 39 (fnM M39a M39o F39)) : FnOK Try.prog noG 35 (fnM M35a M35o (toM (ma := M35a) (mo := M35o) (raw35 F39))) :=
  fnM_sound (cx35 F39 0) (SpecOK.addV SpecOK.none h39) mixed noG_ok (by kernel_rfl) (by kernel_rfl) (by kernel_rfl) (by kernel_rfl) (by kernel_rfl) (by kernel_rfl) (by kernel_rfl) (toM_run fun x => ⟨0, by have h := eq35 F39 0 x.1; exact h⟩)

noncomputable def G35 : ((List Int) × Unit) → Bool × ((((List Int) × (Int × (Bool × Unit))) × Unit) × (Unit × Unit)) := toM (ma := M35a) (mo := M35o) (raw35 G39)
theorem fok35 : FnOK Try.prog noG 35 (fnM M35a M35o G35) := ok35 G39 fok39
theorem G35_of {x0 : (List Int)} {y : ((((List Int) × (Int × (Bool × Unit))) × Unit) × (Unit × Unit))} (h : t35 G39 x0 = some y) : G35 (x0, ()) = (true, y) := toM_some (ma := M35a) (mo := M35o) h
theorem new35 (b : List Int) (h : b.length ≤ 140737488355328) : G35 (b, ()) = (true, (((b, 0, true, ()), ()), ((), ()))) := by
  refine G35_of ?_
  unfold t35
  rw [clone39 b h, cl_true]


/-- (*octet.Reader).dead -/
@[reducible] def M40a : Md := (.cons (.bx (.cons (.ow (.int .u8)) (.cons (.ro (.int .i64)) (.cons (.ro .bool) .nil)))) .nil)
@[reducible] def M40o : Md := (.cons (.ro .bool) .nil)
noncomputable def cx40 (n : Nat) : Cx := { S := noS, P := Try.prog, gl := noG, hint := [], pin := [0], nin := 2, fuel := n }
def t40 (x0 : List Int) (x1 : Int) (x2 : Bool) : Option ((Bool × Unit) × (((List Int) × (Int × (Bool × Unit))) × Unit)) :=
 (jn (fun (y155_0 : Bool) =>
 some ((y155_0, ()), ((x0, x1, x2, ()), ()))) fun (j155 : Bool → Option ((Bool × Unit) × (((List Int) × (Int × (Bool × Unit))) × Unit))) =>
 (bif (!x2) then
 (j155 true)
 else
 (j155 (x1 != (0 : Int)))))
theorem eq40 (n : Nat) (x0 : List Int) (x1 : Int) (x2 : Bool) : runM (cx40 n) (fnOf 40) (body 40) M40a M40o ((x0, x1, x2, ()), ()) = t40 x0 x1 x2 := by kernel_rfl
def raw40 (x : (((List Int) × (Int × (Bool × Unit))) × Unit)) : Option ((Bool × Unit) × (((List Int) × (Int × (Bool × Unit))) × Unit)) := t40 x.1.1 x.1.2.1 x.1.2.2.1
theorem ok40 : FnOK Try.prog noG 40 (fnM M40a M40o (toM (ma := M40a) (mo := M40o) (raw40))) :=
  fnM_sound (cx40 0) SpecOK.none mixed noG_ok (by kernel_rfl) (by kernel_rfl) (by kernel_rfl) (by kernel_rfl) (by kernel_rfl) (by kernel_rfl) (by kernel_rfl) (toM_run fun x => ⟨0, by have h := eq40 0 x.1.1 x.1.2.1 x.1.2.2.1; exact h⟩)

noncomputable def G40 : (((List Int) × (Int × (Bool × Unit))) × Unit) → Bool × ((Bool × Unit) × (((List Int) × (Int × (Bool × Unit))) × Unit)) := toM (ma := M40a) (mo := M40o) (raw40)
theorem fok40 : FnOK Try.prog noG 40 (fnM M40a M40o G40) := ok40
theorem G40_of {x0 : List Int} {x1 : Int} {x2 : Bool} {y : ((Bool × Unit) × (((List Int) × (Int × (Bool × Unit))) × Unit))} (h : t40 x0 x1 x2 = some y) : G40 ((x0, x1, x2, ()), ()) = (true, y) := toM_some (ma := M40a) (mo := M40o) h

/-- (*octet.Reader).fail -/
@[reducible] def M41a : Md := (.cons (.bx (.cons (.ow (.int .u8)) (.cons (.ro (.int .i64)) (.cons (.ro .bool) .nil)))) (.cons (.ro (.int .i64)) .nil))
@[reducible] def M41o : Md := .nil
noncomputable def cx41 (n : Nat) : Cx := { S := noS, P := Try.prog, gl := noG, hint := [], pin := [0], nin := 2, fuel := n }
def t41 (x0 : List Int) (x1 : Int) (x2 : Bool) (x3 : Int) : Option (Unit × (((List Int) × (Int × (Bool × Unit))) × (Unit × Unit))) :=
 some ((), ((x0, x3, x2, ()), (), ()))
theorem eq41 (n : Nat) (x0 : List Int) (x1 : Int) (x2 : Bool) (x3 : Int) : runM (cx41 n) (fnOf 41) (body 41) M41a M41o ((x0, x1, x2, ()), x3, ()) = t41 x0 x1 x2 x3 := by kernel_rfl
def raw41 (x : (((List Int) × (Int × (Bool × Unit))) × (Int × Unit))) : Option (Unit × (((List Int) × (Int × (Bool × Unit))) × (Unit × Unit))) := t41 x.1.1 x.1.2.1 x.1.2.2.1 x.2.1
theorem ok41 : FnOK Try.prog noG 41 (fnM M41a M41o (toM (ma := M41a) (mo := M41o) (raw41))) :=
  fnM_sound (cx41 0) SpecOK.none mixed noG_ok (by kernel_rfl) (by kernel_rfl) (by kernel_rfl) (by kernel_rfl) (by kernel_rfl) (by kernel_rfl) (by kernel_rfl) (toM_run fun x => ⟨0, by have h := eq41 0 x.1.1 x.1.2.1 x.1.2.2.1 x.2.1; exact h⟩)

noncomputable def G41 : (((List Int) × (Int × (Bool × Unit))) × (Int × Unit)) → Bool × (Unit × (((List Int) × (Int × (Bool × Unit))) × (Unit × Unit))) := toM (ma := M41a) (mo := M41o) (raw41)
theorem fok41 : FnOK Try.prog noG 41 (fnM M41a M41o G41) := ok41
theorem G41_of {x0 : List Int} {x1 : Int} {x2 : Bool} {x3 : Int} {y : (Unit × (((List Int) × (Int × (Bool × Unit))) × (Unit × Unit)))} (h : t41 x0 x1 x2 x3 = some y) : G41 ((x0, x1, x2, ()), x3, ()) = (true, y) := toM_some (ma := M41a) (mo := M41o) h

/-- (*octet.Reader).Number -/
@[reducible] def M36a : Md := (.cons (.bx (.cons (.ow (.int .u8)) (.cons (.ro (.int .i64)) (.cons (.ro .bool) .nil)))) .nil)
@[reducible] def M36o : Md := (.cons (.ro (.int .u64)) .nil)
noncomputable def cx36 (F40 : (((List Int) × (Int × (Bool × Unit))) × Unit) → Bool × ((Bool × Unit) × (((List Int) × (Int × (Bool × Unit))) × Unit))) (F41 : (((List Int) × (Int × (Bool × Unit))) × (Int × Unit)) → Bool × (Unit × (((List Int) × (Int × (Bool × Unit))) × (Unit × Unit)))) (n : Nat) : Cx := { S := (addV (addV noS 40 (fnM M40a M40o F40)) 41 (fnM M41a M41o F41)), P := Try.prog, gl := noG, hint := [(1018, [0, 3, 4, 60, 61, 62])], pin := [0], nin := 2, fuel := n }
noncomputable def l36_1018_0' (F40 : (((List Int) × (Int × (Bool × Unit))) × Unit) → Bool × ((Bool × Unit) × (((List Int) × (Int × (Bool × Unit))) × Unit))) (F41 : (((List Int) × (Int × (Bool × Unit))) × (Int × Unit)) → Bool × (Unit × (((List Int) × (Int × (Bool × Unit))) × (Unit × Unit)))) (n k : Nat) (v0 : Int) (v1 : Int) (v2 : Nat) (v3 : Nat) (v4 : Int) (v5 : Int) (v6 : List Int) (v7 : Int) (v8 : Bool) : Option ((Int × Unit) × (((List Int) × (Int × (Bool × Unit))) × Unit)) :=
  loopAt (cx36 F40 F41 n) (body 36) (bits 1018) [] k { tm := [(0, .ptr 0 0 []), (3, .int .i64 v0), (4, .int .u64 v1), (60, .hs 2 v2 v3), (61, .int .i64 v4), (62, .int .i64 v5)], hp := [(2, some (.row (.int .u8) v6)), (0, some (.box (.cons (.hw 2) (.cons (.int .i64 v7) (.cons (.bool v8) (.nil))))))], nx := 3 } (finM Try.prog (fnOf 36) M36a M36o)
noncomputable def l36_1018_0 : ((((List Int) × (Int × (Bool × Unit))) × Unit) → Bool × ((Bool × Unit) × (((List Int) × (Int × (Bool × Unit))) × Unit))) → ((((List Int) × (Int × (Bool × Unit))) × (Int × Unit)) → Bool × (Unit × (((List Int) × (Int × (Bool × Unit))) × (Unit × Unit)))) → Nat → Nat → Int → Int → Nat → Nat → Int → Int → List Int → Int → Bool → Option ((Int × Unit) × (((List Int) × (Int × (Bool × Unit))) × Unit)) := (sealed l36_1018_0').1
theorem l36_1018_0_e : l36_1018_0' = l36_1018_0 := (sealed l36_1018_0').2.symm
theorem l36_1018_0_s' (F40 : (((List Int) × (Int × (Bool × Unit))) × Unit) → Bool × ((Bool × Unit) × (((List Int) × (Int × (Bool × Unit))) × Unit))) (F41 : (((List Int) × (Int × (Bool × Unit))) × (Int × Unit)) → Bool × (Unit × (((List Int) × (Int × (Bool × Unit))) × (Unit × Unit)))) (n k : Nat) (v0 : Int) (v1 : Int) (v2 : Nat) (v3 : Nat) (v4 : Int) (v5 : Int) (v6 : List Int) (v7 : Int) (v8 : Bool) : l36_1018_0' F40 F41 n (k + 1) v0 v1 v2 v3 v4 v5 v6 v7 v8 =
 (bif (decide (v5 < v4)) then
 (ck (rng v5 v3)
 (l36_1018_0' F40 F41 n k v0 (IntKind.u64.wrap ((BitVec.ofInt 64 (IntKind.u64.wrap (v1 * 2 ^ 8)) ||| BitVec.ofInt 64 (IntKind.u64.wrap (v6.getD (v2 + v5.toNat) (0 : Int)))).toNat : Int)) v2 v3 v4 (IntKind.i64.wrap (v5 + (1 : Int))) v6 v7 v8))
 else
 (ck (decide (0 ≤ (IntKind.i64.wrap ((1 : Int) + v0))) && decide ((IntKind.i64.wrap ((1 : Int) + v0)) ≤ ((v6.length : Nat) : Int)))
 (some ((v1, ()), (((v6.drop ((IntKind.i64.wrap ((1 : Int) + v0)).toNat)).take (v6.length - (IntKind.i64.wrap ((1 : Int) + v0)).toNat), v7, v8, ()), ()))))) := by kernel_rfl
theorem l36_1018_0_s (F40 : (((List Int) × (Int × (Bool × Unit))) × Unit) → Bool × ((Bool × Unit) × (((List Int) × (Int × (Bool × Unit))) × Unit))) (F41 : (((List Int) × (Int × (Bool × Unit))) × (Int × Unit)) → Bool × (Unit × (((List Int) × (Int × (Bool × Unit))) × (Unit × Unit)))) (n k : Nat) (v0 : Int) (v1 : Int) (v2 : Nat) (v3 : Nat) (v4 : Int) (v5 : Int) (v6 : List Int) (v7 : Int) (v8 : Bool) : l36_1018_0 F40 F41 n (k + 1) v0 v1 v2 v3 v4 v5 v6 v7 v8 =
 (bif (decide (v5 < v4)) then
 (ck (rng v5 v3)
 (l36_1018_0 F40 F41 n k v0 (IntKind.u64.wrap ((BitVec.ofInt 64 (IntKind.u64.wrap (v1 * 2 ^ 8)) ||| BitVec.ofInt 64 (IntKind.u64.wrap (v6.getD (v2 + v5.toNat) (0 : Int)))).toNat : Int)) v2 v3 v4 (IntKind.i64.wrap (v5 + (1 : Int))) v6 v7 v8))
 else
 (ck (decide (0 ≤ (IntKind.i64.wrap ((1 : Int) + v0))) && decide ((IntKind.i64.wrap ((1 : Int) + v0)) ≤ ((v6.length : Nat) : Int)))
 (some ((v1, ()), (((v6.drop ((IntKind.i64.wrap ((1 : Int) + v0)).toNat)).take (v6.length - (IntKind.i64.wrap ((1 : Int) + v0)).toNat), v7, v8, ()), ()))))) := by
  have h := l36_1018_0_s' F40 F41 n k v0 v1 v2 v3 v4 v5 v6 v7 v8
  rw [l36_1018_0_e] at h
  exact h
theorem l36_1018_0_z' (F40 : (((List Int) × (Int × (Bool × Unit))) × Unit) → Bool × ((Bool × Unit) × (((List Int) × (Int × (Bool × Unit))) × Unit))) (F41 : (((List Int) × (Int × (Bool × Unit))) × (Int × Unit)) → Bool × (Unit × (((List Int) × (Int × (Bool × Unit))) × (Unit × Unit)))) (n : Nat) (v0 : Int) (v1 : Int) (v2 : Nat) (v3 : Nat) (v4 : Int) (v5 : Int) (v6 : List Int) (v7 : Int) (v8 : Bool) : l36_1018_0' F40 F41 n 0 v0 v1 v2 v3 v4 v5 v6 v7 v8 =
 none := by kernel_rfl
theorem l36_1018_0_z (F40 : (((List Int) × (Int × (Bool × Unit))) × Unit) → Bool × ((Bool × Unit) × (((List Int) × (Int × (Bool × Unit))) × Unit))) (F41 : (((List Int) × (Int × (Bool × Unit))) × (Int × Unit)) → Bool × (Unit × (((List Int) × (Int × (Bool × Unit))) × (Unit × Unit)))) (n : Nat) (v0 : Int) (v1 : Int) (v2 : Nat) (v3 : Nat) (v4 : Int) (v5 : Int) (v6 : List Int) (v7 : Int) (v8 : Bool) : l36_1018_0 F40 F41 n 0 v0 v1 v2 v3 v4 v5 v6 v7 v8 =
 none := by
  have h := l36_1018_0_z' F40 F41 n v0 v1 v2 v3 v4 v5 v6 v7 v8
  rw [l36_1018_0_e] at h
  exact h
theorem eq36' (F40 : (((List Int) × (Int × (Bool × Unit))) × Unit) → Bool × ((Bool × Unit) × (((List Int) × (Int × (Bool × Unit))) × Unit))) (F41 : (((List Int) × (Int × (Bool × Unit))) × (Int × Unit)) → Bool × (Unit × (((List Int) × (Int × (Bool × Unit))) × (Unit × Unit)))) (n : Nat) (x0 : List Int) (x1 : Int) (x2 : Bool) : runM (cx36 F40 F41 n) (fnOf 36) (body 36) M36a M36o ((x0, x1, x2, ()), ()) =
 (cl (F40 ((x0, x1, x2, ()), ())) fun r39 =>
 (bif r39.1.1 then
 (some (((0 : Int), ()), ((r39.2.1.1, r39.2.1.2.1, r39.2.1.2.2.1, ()), ())))
 else
 (bif ((r39.2.1.1.length : Int) == (0 : Int)) then
 (cl (F41 ((r39.2.1.1, r39.2.1.2.1, r39.2.1.2.2.1, ()), (5 : Int), ())) fun r40 =>
 (some (((0 : Int), ()), ((r40.2.1.1, r40.2.1.2.1, r40.2.1.2.2.1, ()), ()))))
 else
 (ck (rng (0 : Int) r39.2.1.1.length)
 (bif (decide ((IntKind.i64.wrap (r39.2.1.1.getD 0 (0 : Int))) > (8 : Int))) then
 (cl (F41 ((r39.2.1.1, r39.2.1.2.1, r39.2.1.2.2.1, ()), (4 : Int), ())) fun r41 =>
 (some (((0 : Int), ()), ((r41.2.1.1, r41.2.1.2.1, r41.2.1.2.2.1, ()), ()))))
 else
 (bif (decide ((r39.2.1.1.length : Int) < (IntKind.i64.wrap ((1 : Int) + (IntKind.i64.wrap (r39.2.1.1.getD 0 (0 : Int))))))) then
 (cl (F41 ((r39.2.1.1, r39.2.1.2.1, r39.2.1.2.2.1, ()), (5 : Int), ())) fun r42 =>
 (some (((0 : Int), ()), ((r42.2.1.1, r42.2.1.2.1, r42.2.1.2.2.1, ()), ()))))
 else
 (jn (fun (y197_0 : Bool) =>
 (bif y197_0 then
 (cl (F41 ((r39.2.1.1, r39.2.1.2.1, r39.2.1.2.2.1, ()), (4 : Int), ())) fun r43 =>
 (some (((0 : Int), ()), ((r43.2.1.1, r43.2.1.2.1, r43.2.1.2.2.1, ()), ()))))
 else
 (ck ((decide (0 ≤ (IntKind.i64.wrap ((1 : Int) + (IntKind.i64.wrap (r39.2.1.1.getD 0 (0 : Int)))))) && decide ((IntKind.i64.wrap ((1 : Int) + (IntKind.i64.wrap (r39.2.1.1.getD 0 (0 : Int))))) ≤ ((r39.2.1.1.length : Nat) : Int))) && (decide (0 ≤ (1 : Int)) && decide ((1 : Int) ≤ (IntKind.i64.wrap ((1 : Int) + (IntKind.i64.wrap (r39.2.1.1.getD 0 (0 : Int))))))))
 (l36_1018_0' F40 F41 n n (IntKind.i64.wrap (r39.2.1.1.getD 0 (0 : Int))) (0 : Int) 1 ((IntKind.i64.wrap ((1 : Int) + (IntKind.i64.wrap (r39.2.1.1.getD 0 (0 : Int))))).toNat - 1) ((((IntKind.i64.wrap ((1 : Int) + (IntKind.i64.wrap (r39.2.1.1.getD 0 (0 : Int))))).toNat - 1) : Nat) : Int) (0 : Int) r39.2.1.1 r39.2.1.2.1 r39.2.1.2.2.1)))) fun (j197 : Bool → Option ((Int × Unit) × (((List Int) × (Int × (Bool × Unit))) × Unit))) =>
 (bif (decide ((IntKind.i64.wrap (r39.2.1.1.getD 0 (0 : Int))) > (0 : Int))) then
 (ck (rng (1 : Int) r39.2.1.1.length)
 (j197 ((r39.2.1.1.getD 1 (0 : Int)) == (0 : Int))))
 else
 (j197 false))))))))) := by kernel_rfl
theorem eq36 (F40 : (((List Int) × (Int × (Bool × Unit))) × Unit) → Bool × ((Bool × Unit) × (((List Int) × (Int × (Bool × Unit))) × Unit))) (F41 : (((List Int) × (Int × (Bool × Unit))) × (Int × Unit)) → Bool × (Unit × (((List Int) × (Int × (Bool × Unit))) × (Unit × Unit)))) (n : Nat) (x0 : List Int) (x1 : Int) (x2 : Bool) : runM (cx36 F40 F41 n) (fnOf 36) (body 36) M36a M36o ((x0, x1, x2, ()), ()) =
 (cl (F40 ((x0, x1, x2, ()), ())) fun r39 =>
 (bif r39.1.1 then
 (some (((0 : Int), ()), ((r39.2.1.1, r39.2.1.2.1, r39.2.1.2.2.1, ()), ())))
 else
 (bif ((r39.2.1.1.length : Int) == (0 : Int)) then
 (cl (F41 ((r39.2.1.1, r39.2.1.2.1, r39.2.1.2.2.1, ()), (5 : Int), ())) fun r40 =>
 (some (((0 : Int), ()), ((r40.2.1.1, r40.2.1.2.1, r40.2.1.2.2.1, ()), ()))))
 else
 (ck (rng (0 : Int) r39.2.1.1.length)
 (bif (decide ((IntKind.i64.wrap (r39.2.1.1.getD 0 (0 : Int))) > (8 : Int))) then
 (cl (F41 ((r39.2.1.1, r39.2.1.2.1, r39.2.1.2.2.1, ()), (4 : Int), ())) fun r41 =>
 (some (((0 : Int), ()), ((r41.2.1.1, r41.2.1.2.1, r41.2.1.2.2.1, ()), ()))))
 else
 (bif (decide ((r39.2.1.1.length : Int) < (IntKind.i64.wrap ((1 : Int) + (IntKind.i64.wrap (r39.2.1.1.getD 0 (0 : Int))))))) then
 (cl (F41 ((r39.2.1.1, r39.2.1.2.1, r39.2.1.2.2.1, ()), (5 : Int), ())) fun r42 =>
 (some (((0 : Int), ()), ((r42.2.1.1, r42.2.1.2.1, r42.2.1.2.2.1, ()), ()))))
 else
 (jn (fun (y197_0 : Bool) =>
 (bif y197_0 then
 (cl (F41 ((r39.2.1.1, r39.2.1.2.1, r39.2.1.2.2.1, ()), (4 : Int), ())) fun r43 =>
 (some (((0 : Int), ()), ((r43.2.1.1, r43.2.1.2.1, r43.2.1.2.2.1, ()), ()))))
 else
 (ck ((decide (0 ≤ (IntKind.i64.wrap ((1 : Int) + (IntKind.i64.wrap (r39.2.1.1.getD 0 (0 : Int)))))) && decide ((IntKind.i64.wrap ((1 : Int) + (IntKind.i64.wrap (r39.2.1.1.getD 0 (0 : Int))))) ≤ ((r39.2.1.1.length : Nat) : Int))) && (decide (0 ≤ (1 : Int)) && decide ((1 : Int) ≤ (IntKind.i64.wrap ((1 : Int) + (IntKind.i64.wrap (r39.2.1.1.getD 0 (0 : Int))))))))
 (l36_1018_0 F40 F41 n n (IntKind.i64.wrap (r39.2.1.1.getD 0 (0 : Int))) (0 : Int) 1 ((IntKind.i64.wrap ((1 : Int) + (IntKind.i64.wrap (r39.2.1.1.getD 0 (0 : Int))))).toNat - 1) ((((IntKind.i64.wrap ((1 : Int) + (IntKind.i64.wrap (r39.2.1.1.getD 0 (0 : Int))))).toNat - 1) : Nat) : Int) (0 : Int) r39.2.1.1 r39.2.1.2.1 r39.2.1.2.2.1)))) fun (j197 : Bool → Option ((Int × Unit) × (((List Int) × (Int × (Bool × Unit))) × Unit))) =>
 (bif (decide ((IntKind.i64.wrap (r39.2.1.1.getD 0 (0 : Int))) > (0 : Int))) then
 (ck (rng (1 : Int) r39.2.1.1.length)
 (j197 ((r39.2.1.1.getD 1 (0 : Int)) == (0 : Int))))
 else
 (j197 false))))))))) := by
  have h := eq36' F40 F41 n x0 x1 x2
  rw [l36_1018_0_e] at h
  exact h
theorem ok36 (F40 : (((List Int) × (Int × (Bool × Unit))) × Unit) → Bool × ((Bool × Unit) × (((List Int) × (Int × (Bool × Unit))) × Unit))) (F41 : (((List Int) × (Int × (Bool × Unit))) × (Int × Unit)) → Bool × (Unit × (((List Int) × (Int × (Bool × Unit))) × (Unit × Unit)))) (h40 : FnOK Try.prog noG 40 (fnM M40a M40o F40)) (h41 : FnOK Try.prog noG 41 (fnM M41a M41o F41)) (f : (((List Int) × (Int × (Bool × Unit))) × Unit) → Bool × ((Int × Unit) × (((List Int) × (Int × (Bool × Unit))) × Unit))) (hrun : ∀ x, (f x).1 = true → ∃ n, runM (cx36 F40 F41 n) (fnOf 36) (body 36) M36a M36o x = some (f x).2) : FnOK Try.prog noG 36 (fnM M36a M36o f) :=
  fnM_sound (cx36 F40 F41 0) (SpecOK.addV (SpecOK.addV SpecOK.none h40) h41) mixed noG_ok (by kernel_rfl) (by kernel_rfl) (by kernel_rfl) (by kernel_rfl) (by kernel_rfl) (by kernel_rfl) (by kernel_rfl) (fun x h => by obtain ⟨n, hn⟩ := hrun x h; exact ⟨n + 0, hn⟩)

theorem dead40 (b : List Int) (e : Int) (m : Bool) : G40 ((b, e, m, ()), ()) = (true, ((!m || e != 0, ()), ((b, e, m, ()), ()))) := by
  refine G40_of ?_
  unfold t40
  cases m <;> simp [jn]
theorem fail41 (b : List Int) (e : Int) (m : Bool) (e' : Int) : G41 ((b, e, m, ()), e', ()) = (true, ((), ((b, e', m, ()), (), ()))) := G41_of rfl
def G36 (x : (List Int × (Int × (Bool × Unit))) × Unit) : Bool × ((Int × Unit) × ((List Int × (Int × (Bool × Unit))) × Unit)) :=
  (okB x.1.1 && decide (x.1.1.length < 4611686018427387904), if x.1.2.2.1 = true ∧ x.1.2.1 = 0 then (((rdN x.1.1).1, ()), (((rdN x.1.1).2.2, (rdN x.1.1).2.1, true, ()), ())) else ((0, ()), (x.1, ())))
theorem lp36 (n c : Nat) (t : List Int) (hc : c ≤ t.length) (hc8 : c ≤ 8) (ht : okB t = true) (ht2 : t.length < 4611686018427387904) (a e : Int) (m : Bool) : ∀ (k i v : Nat), i ≤ c → c - i < k → v < 256 ^ i →
    l36_1018_0 G40 G41 n k c v 1 c c i (a :: t) e m = some ((unF v ((t.drop i).take (c - i)), ()), ((t.drop c, e, m, ()), ())) := by
  intro k
  induction k with
  | zero => intro i v h1 h2; omega
  | succ k ih =>
    intro i v h1 h2 h3
    rw [l36_1018_0_s]
    by_cases hi : i < c
    · have hg := okB_get ht i
      have hp : (256 : Nat) ^ (i + 1) ≤ 256 ^ 8 := Nat.pow_le_pow_right (by omega) (by omega)
      have hq : (256 : Nat) ^ i ≤ 256 ^ 7 := Nat.pow_le_pow_right (by omega) (by omega)
      have e8 : (256 : Nat) ^ 7 = 2 ^ 56 := by decide
      have hcons : ((t.drop i).take (c - i)) = t.getD i 0 :: ((t.drop (i + 1)).take (c - (i + 1))) := by
        rw [List.drop_eq_getElem_cons (by omega), show c - i = (c - (i + 1)) + 1 by omega, List.take_succ_cons, List.getD_eq_getElem?_getD, List.getElem?_eq_getElem (by omega)]
        rfl
      rw [decide_eq_true (show (i : Int) < c by omega), show rng (i : Int) c = true from rng_ok (by omega) (by omega)]
      simp only [cond_true, ck_true]
      rw [Int.toNat_natCast, Nat.add_comm 1 i, List.getD_cons_succ, wrap_i64 (show -9223372036854775808 ≤ (i : Int) + 1 by omega) (by omega)]
      rw [hcons, unF_cons]
      generalize t.getD i 0 = d at hg
      obtain ⟨d, rfl⟩ : ∃ q : Nat, d = q := ⟨d.toNat, by omega⟩
      rw [or_byte (by omega) (by omega)]
      have := ih (i + 1) (v * 256 + d) (by omega) (by omega) (by rw [Nat.pow_succ]; omega)
      exact this
    · obtain rfl : i = c := by omega
      rw [decide_eq_false (by omega), wrap_i64 (show -9223372036854775808 ≤ 1 + (i : Int) by omega) (by omega), decide_eq_true (show 0 ≤ 1 + (i : Int) by omega), decide_eq_true (show 1 + (i : Int) ≤ (((a :: t).length : Nat) : Int) by rw [List.length_cons]; omega)]
      simp only [cond_false, ck_true, Bool.and_true, Nat.sub_self, List.take_zero]
      rw [show (1 + (i : Int)).toNat = i + 1 by omega, List.drop_succ_cons, List.length_cons, List.take_of_length_le (by simp)]
      rfl
theorem run36 (x : (List Int × (Int × (Bool × Unit))) × Unit) (h : (G36 x).1 = true) : ∃ n, runM (cx36 G40 G41 n) (fnOf 36) (body 36) M36a M36o x = some (G36 x).2 := by
  obtain ⟨⟨b, e, m, ⟨⟩⟩, ⟨⟩⟩ := x
  simp only [G36, Bool.and_eq_true, decide_eq_true_eq] at h ⊢
  obtain ⟨h1, h2⟩ := h
  refine ⟨20, ?_⟩
  rw [eq36, dead40, cl_true]
  by_cases hl : m = true ∧ e = 0
  case neg =>
    rw [if_neg hl]
    have : (!m || e != 0) = true := by
      cases m <;> simp at hl ⊢; exact hl
    rw [this]; rfl
  obtain ⟨rfl, rfl⟩ := hl
  rw [if_pos ⟨rfl, rfl⟩]
  cases b with
  | nil => simp [fail41, cl_true, rdN]; rfl
  | cons a t =>
    obtain ⟨⟨a1, a2⟩, ht⟩ := okB_cons.1 h1
    have h3 : t.length + 1 < 4611686018427387904 := by simpa using h2
    rw [rdN_cons]
    simp only [List.getD_cons_zero]
    rw [wrap_i64 (show -9223372036854775808 ≤ a by omega) (by omega), wrap_i64 (show -9223372036854775808 ≤ 1 + a by omega) (by omega)]
    have c0 : ¬ (((a :: t).length : Int) = 0) := by rw [List.length_cons]; omega
    have r0 : rng 0 (a :: t).length = true := rng_ok (by omega) (by rw [List.length_cons]; omega)
    by_cases c1 : 8 < a
    · simp only [show (((a :: t).length : Int) == 0) = false by simpa using c0, cond_false, r0, ck_true, decide_eq_true (show a > 8 by omega), cond_true, if_pos c1, fail41, cl_true]
      rfl
    by_cases c2 : (t.length : Int) < a
    · simp only [show (((a :: t).length : Int) == 0) = false by simpa using c0, cond_false, r0, ck_true, decide_eq_false (show ¬ (a > 8) by omega), decide_eq_true (show ((a :: t).length : Int) < 1 + a by rw [List.length_cons]; omega), cond_true, if_neg c1, if_pos c2, fail41, cl_true]
      rfl
    obtain ⟨c, rfl⟩ : ∃ q : Nat, a = q := ⟨a.toNat, by omega⟩
    have hfin := lp36 20 c t (by omega) (by omega) ht (by omega) c 0 true 20 0 0 (by omega) (by omega) (by simp)
    have e1 : (1 + (c : Int)).toNat - 1 = c := by omega
    by_cases c3 : 0 < c
    · have r1 : rng 1 ((c : Int) :: t).length = true := rng_ok (by omega) (by rw [List.length_cons]; omega)
      have e2 : ((c : Int) :: t).getD 1 0 = t.getD 0 0 := by simp
      by_cases c4 : t.getD 0 0 = 0
      · rw [if_neg c1, if_neg c2, if_pos (show 0 < (c : Int) ∧ t.getD 0 0 = 0 from ⟨by omega, c4⟩)]
        simp only [show ((((c : Int) :: t).length : Int) == 0) = false by simpa using c0, cond_false, r0, ck_true, jn, decide_eq_false (show ¬ ((c : Int) > 8) by omega), decide_eq_false (show ¬ ((((c : Int) :: t).length : Int) < 1 + c) by simp; omega), decide_eq_true (show (c : Int) > 0 by omega), cond_true, r1, e2, c4]
        rw [fail41, cl_true]
        rfl
      · rw [if_neg c1, if_neg c2, if_neg (show ¬ (0 < (c : Int) ∧ t.getD 0 0 = 0) from fun hh => c4 hh.2)]
        simp only [show ((((c : Int) :: t).length : Int) == 0) = false by simpa using c0, cond_false, r0, ck_true, jn, decide_eq_false (show ¬ ((c : Int) > 8) by omega), decide_eq_false (show ¬ ((((c : Int) :: t).length : Int) < 1 + c) by simp; omega), decide_eq_true (show (c : Int) > 0 by omega), cond_true, r1, e2, show (t.getD 0 0 == 0) = false by simpa using c4]
        rw [decide_eq_true (show 0 ≤ 1 + (c : Int) by omega), decide_eq_true (show 1 + (c : Int) ≤ (((((c : Int) :: t).length : Nat)) : Int) by simp; omega), decide_eq_true (show (0 : Int) ≤ 1 by omega), decide_eq_true (show (1 : Int) ≤ 1 + (c : Int) by omega), e1]
        exact hfin
    · obtain rfl : c = 0 := by omega
      rw [if_neg c1, if_neg c2, if_neg (by omega)]
      simp only [show (((((0 : Nat) : Int) :: t).length : Int) == 0) = false by simpa using c0, cond_false, r0, ck_true, jn, decide_eq_false (show ¬ (((0 : Nat) : Int) > 8) by omega), decide_eq_false (show ¬ (((((0 : Nat) : Int) :: t).length : Int) < 1 + ((0 : Nat) : Int)) by simp; omega), decide_eq_false (show ¬ (((0 : Nat) : Int) > 0) by omega)]
      rw [decide_eq_true (show 0 ≤ 1 + ((0 : Nat) : Int) by omega), decide_eq_true (show 1 + ((0 : Nat) : Int) ≤ ((((((0 : Nat) : Int) :: t).length : Nat)) : Int) by simp; omega), decide_eq_true (show (0 : Int) ≤ 1 by omega), decide_eq_true (show (1 : Int) ≤ 1 + ((0 : Nat) : Int) by omega), e1]
      exact hfin
theorem st36 (b : List Int) (e : Int) (h : okB b = true) (h2 : b.length < 4611686018427387904) : G36 ((b, e, true, ()), ()) = (true, (((st (b, e)).1, ()), (((st (b, e)).2.1, (st (b, e)).2.2, true, ()), ()))) := by
  simp only [G36, st]
  by_cases he : e = 0
  · simp [he, h, h2]
  · simp [he, h, h2]

theorem fok36 : FnOK Try.prog noG 36 (fnM M36a M36o G36) := ok36 G40 G41 fok40 fok41 G36 run36

/-- (*octet.Reader).Err -/
@[reducible] def M42a : Md := (.cons (.bx (.cons (.ow (.int .u8)) (.cons (.ro (.int .i64)) (.cons (.ro .bool) .nil)))) .nil)
@[reducible] def M42o : Md := (.cons (.ro (.int .i64)) .nil)
noncomputable def cx42 (n : Nat) : Cx := { S := noS, P := Try.prog, gl := noG, hint := [], pin := [0], nin := 2, fuel := n }
def t42 (x0 : List Int) (x1 : Int) (x2 : Bool) : Option ((Int × Unit) × (((List Int) × (Int × (Bool × Unit))) × Unit)) :=
 (bif (!x2) then
 (some (((1 : Int), ()), ((x0, x1, x2, ()), ())))
 else
 (some ((x1, ()), ((x0, x1, x2, ()), ()))))
theorem eq42 (n : Nat) (x0 : List Int) (x1 : Int) (x2 : Bool) : runM (cx42 n) (fnOf 42) (body 42) M42a M42o ((x0, x1, x2, ()), ()) = t42 x0 x1 x2 := by kernel_rfl
def raw42 (x : (((List Int) × (Int × (Bool × Unit))) × Unit)) : Option ((Int × Unit) × (((List Int) × (Int × (Bool × Unit))) × Unit)) := t42 x.1.1 x.1.2.1 x.1.2.2.1
theorem ok42 : FnOK Try.prog noG 42 (fnM M42a M42o (toM (ma := M42a) (mo := M42o) (raw42))) :=
  fnM_sound (cx42 0) SpecOK.none mixed noG_ok (by kernel_rfl) (by kernel_rfl) (by kernel_rfl) (by kernel_rfl) (by kernel_rfl) (by kernel_rfl) (by kernel_rfl) (toM_run fun x => ⟨0, by have h := eq42 0 x.1.1 x.1.2.1 x.1.2.2.1; exact h⟩)

noncomputable def G42 : (((List Int) × (Int × (Bool × Unit))) × Unit) → Bool × ((Int × Unit) × (((List Int) × (Int × (Bool × Unit))) × Unit)) := toM (ma := M42a) (mo := M42o) (raw42)
theorem fok42 : FnOK Try.prog noG 42 (fnM M42a M42o G42) := ok42
theorem G42_of {x0 : List Int} {x1 : Int} {x2 : Bool} {y : ((Int × Unit) × (((List Int) × (Int × (Bool × Unit))) × Unit))} (h : t42 x0 x1 x2 = some y) : G42 ((x0, x1, x2, ()), ()) = (true, y) := toM_some (ma := M42a) (mo := M42o) h

/-- (*octet.Reader).End -/
@[reducible] def M37a : Md := (.cons (.bx (.cons (.ow (.int .u8)) (.cons (.ro (.int .i64)) (.cons (.ro .bool) .nil)))) .nil)
@[reducible] def M37o : Md := (.cons (.ro (.int .i64)) .nil)
noncomputable def cx37 (F41 : (((List Int) × (Int × (Bool × Unit))) × (Int × Unit)) → Bool × (Unit × (((List Int) × (Int × (Bool × Unit))) × (Unit × Unit)))) (F42 : (((List Int) × (Int × (Bool × Unit))) × Unit) → Bool × ((Int × Unit) × (((List Int) × (Int × (Bool × Unit))) × Unit))) (n : Nat) : Cx := { S := (addV (addV noS 41 (fnM M41a M41o F41)) 42 (fnM M42a M42o F42)), P := Try.prog, gl := noG, hint := [], pin := [0], nin := 2, fuel := n }
def t37 (F41 : (((List Int) × (Int × (Bool × Unit))) × (Int × Unit)) → Bool × (Unit × (((List Int) × (Int × (Bool × Unit))) × (Unit × Unit)))) (F42 : (((List Int) × (Int × (Bool × Unit))) × Unit) → Bool × ((Int × Unit) × (((List Int) × (Int × (Bool × Unit))) × Unit))) (x0 : List Int) (x1 : Int) (x2 : Bool) : Option ((Int × Unit) × (((List Int) × (Int × (Bool × Unit))) × Unit)) :=
 (cl (F42 ((x0, x1, x2, ()), ())) fun r50 =>
 (bif (r50.1.1 != (0 : Int)) then
 (some ((r50.1.1, ()), ((r50.2.1.1, r50.2.1.2.1, r50.2.1.2.2.1, ()), ())))
 else
 (jn (fun (y236_0 : List Int) (y236_1 : Int) (y236_2 : Bool) =>
 (some ((y236_1, ()), ((y236_0, y236_1, y236_2, ()), ())))) fun (j236 : List Int → Int → Bool → Option ((Int × Unit) × (((List Int) × (Int × (Bool × Unit))) × Unit))) =>
 (bif (decide ((r50.2.1.1.length : Int) > (0 : Int))) then
 (cl (F41 ((r50.2.1.1, r50.2.1.2.1, r50.2.1.2.2.1, ()), (4 : Int), ())) fun r51 =>
 (j236 r51.2.1.1 r51.2.1.2.1 r51.2.1.2.2.1))
 else
 (j236 r50.2.1.1 r50.2.1.2.1 r50.2.1.2.2.1)))))
theorem eq37 (F41 : (((List Int) × (Int × (Bool × Unit))) × (Int × Unit)) → Bool × (Unit × (((List Int) × (Int × (Bool × Unit))) × (Unit × Unit)))) (F42 : (((List Int) × (Int × (Bool × Unit))) × Unit) → Bool × ((Int × Unit) × (((List Int) × (Int × (Bool × Unit))) × Unit))) (n : Nat) (x0 : List Int) (x1 : Int) (x2 : Bool) : runM (cx37 F41 F42 n) (fnOf 37) (body 37) M37a M37o ((x0, x1, x2, ()), ()) = t37 F41 F42 x0 x1 x2 := by kernel_rfl
def raw37 (F41 : (((List Int) × (Int × (Bool × Unit))) × (Int × Unit)) → Bool × (Unit × (((List Int) × (Int × (Bool × Unit))) × (Unit × Unit)))) (F42 : (((List Int) × (Int × (Bool × Unit))) × Unit) → Bool × ((Int × Unit) × (((List Int) × (Int × (Bool × Unit))) × Unit))) (x : (((List Int) × (Int × (Bool × Unit))) × Unit)) : Option ((Int × Unit) × (((List Int) × (Int × (Bool × Unit))) × Unit)) := t37 F41 F42 x.1.1 x.1.2.1 x.1.2.2.1
theorem ok37 (F41 : (((List Int) × (Int × (Bool × Unit))) × (Int × Unit)) → Bool × (Unit × (((List Int) × (Int × (Bool × Unit))) × (Unit × Unit)))) (F42 : (((List Int) × (Int × (Bool × Unit))) × Unit) → Bool × ((Int × Unit) × (((List Int) × (Int × (Bool × Unit))) × Unit))) (h41 : FnOK Try.prog noG 41 (fnM M41a M41o F41)) (h42 : FnOK Try.prog noG 42 (fnM M42a M42o F42)) : FnOK Try.prog noG 37 (fnM M37a M37o (toM (ma := M37a) (mo := M37o) (raw37 F41 F42))) :=
  fnM_sound (cx37 F41 F42 0) (SpecOK.addV (SpecOK.addV SpecOK.none h41) h42) mixed noG_ok (by kernel_rfl) (by kernel_rfl) (by kernel_rfl) (by kernel_rfl) (by kernel_rfl) (by kernel_rfl) (by kernel_rfl) (toM_run fun x => ⟨0, by have h := eq37 F41 F42 0 x.1.1 x.1.2.1 x.1.2.2.1; exact h⟩)

noncomputable def G37 : (((List Int) × (Int × (Bool × Unit))) × Unit) → Bool × ((Int × Unit) × (((List Int) × (Int × (Bool × Unit))) × Unit)) := toM (ma := M37a) (mo := M37o) (raw37 G41 G42)
theorem fok37 : FnOK Try.prog noG 37 (fnM M37a M37o G37) := ok37 G41 G42 fok41 fok42
theorem G37_of {x0 : List Int} {x1 : Int} {x2 : Bool} {y : ((Int × Unit) × (((List Int) × (Int × (Bool × Unit))) × Unit))} (h : t37 G41 G42 x0 x1 x2 = some y) : G37 ((x0, x1, x2, ()), ()) = (true, y) := toM_some (ma := M37a) (mo := M37o) h
theorem end37 (b : List Int) (e : Int) : G37 ((b, e, true, ()), ()) = (true, ((if e = 0 ∧ b ≠ [] then 4 else e, ()), ((b, if e = 0 ∧ b ≠ [] then 4 else e, true, ()), ()))) := by
  have he : G42 ((b, e, true, ()), ()) = (true, ((e, ()), ((b, e, true, ()), ()))) := G42_of rfl
  have hf : ∀ e', G41 ((b, e, true, ()), e', ()) = (true, ((), ((b, e', true, ()), (), ()))) := fun e' => G41_of rfl
  refine G37_of ?_
  unfold t37
  rw [he, cl_true]
  by_cases h0 : e = 0
  · subst h0
    cases b with
    | nil => simp [jn]
    | cons a t => simp [jn, hf, cl_true, Bool.cond_eq_ite, show ((0 : Int) < (t.length : Int) + 1) by omega]
  · simp [h0, jn, Bool.cond_eq_ite]


/-- window.Read -/
@[reducible] def M29a : Md := (.cons (.ro (.sl (.int .u8))) .nil)
@[reducible] def M29o : Md := (.cons (.ro (.cons (.int .u64) (.cons (.int .u64) (.cons (.int .u64) (.cons (.int .u64) .nil))))) (.cons (.ro (.int .i64)) .nil))
noncomputable def cx29 (F27 : ((Int × (Int × (Int × (Int × Unit)))) × Unit) → Bool × ((Int × Unit) × (Unit × Unit))) (F35 : ((List Int) × Unit) → Bool × ((((List Int) × (Int × (Bool × Unit))) × Unit) × (Unit × Unit))) (F36 : (((List Int) × (Int × (Bool × Unit))) × Unit) → Bool × ((Int × Unit) × (((List Int) × (Int × (Bool × Unit))) × Unit))) (F37 : (((List Int) × (Int × (Bool × Unit))) × Unit) → Bool × ((Int × Unit) × (((List Int) × (Int × (Bool × Unit))) × Unit))) (n : Nat) : Cx := { S := (addV (addV (addV (addV noS 27 (fnM M27a M27o F27)) 35 (fnM M35a M35o F35)) 36 (fnM M36a M36o F36)) 37 (fnM M37a M37o F37)), P := Try.prog, gl := noG, hint := [], pin := [], nin := 0, fuel := n }
def t29 (F27 : ((Int × (Int × (Int × (Int × Unit)))) × Unit) → Bool × ((Int × Unit) × (Unit × Unit))) (F35 : ((List Int) × Unit) → Bool × ((((List Int) × (Int × (Bool × Unit))) × Unit) × (Unit × Unit))) (F36 : (((List Int) × (Int × (Bool × Unit))) × Unit) → Bool × ((Int × Unit) × (((List Int) × (Int × (Bool × Unit))) × Unit))) (F37 : (((List Int) × (Int × (Bool × Unit))) × Unit) → Bool × ((Int × Unit) × (((List Int) × (Int × (Bool × Unit))) × Unit))) (x0 : (List Int)) : Option (((Int × (Int × (Int × (Int × Unit)))) × (Int × Unit)) × (Unit × Unit)) :=
 (cl (F35 (x0, ())) fun r54 =>
 (cl (F36 ((r54.1.1.1, r54.1.1.2.1, r54.1.1.2.2.1, ()), ())) fun r55 =>
 (cl (F36 ((r55.2.1.1, r55.2.1.2.1, r55.2.1.2.2.1, ()), ())) fun r56 =>
 (cl (F36 ((r56.2.1.1, r56.2.1.2.1, r56.2.1.2.2.1, ()), ())) fun r57 =>
 (cl (F36 ((r57.2.1.1, r57.2.1.2.1, r57.2.1.2.2.1, ()), ())) fun r58 =>
 (jn (fun (y245_0 : Bool) =>
 (bif y245_0 then
 (some ((((0 : Int), (0 : Int), (0 : Int), (0 : Int), ()), (4 : Int), ()), ((), ())))
 else
 (some (((r55.1.1, r56.1.1, r57.1.1, r58.1.1, ()), (0 : Int), ()), ((), ()))))) fun (j245 : Bool → Option (((Int × (Int × (Int × (Int × Unit)))) × (Int × Unit)) × (Unit × Unit))) =>
 (cl (F37 ((r58.2.1.1, r58.2.1.2.1, r58.2.1.2.2.1, ()), ())) fun r59 =>
 (bif (r59.1.1 != (0 : Int)) then
 (j245 true)
 else
 (cl (F27 ((r55.1.1, r56.1.1, r57.1.1, r58.1.1, ()), ())) fun r60 =>
 (j245 (r60.1.1 != (0 : Int))))))))))))
theorem eq29 (F27 : ((Int × (Int × (Int × (Int × Unit)))) × Unit) → Bool × ((Int × Unit) × (Unit × Unit))) (F35 : ((List Int) × Unit) → Bool × ((((List Int) × (Int × (Bool × Unit))) × Unit) × (Unit × Unit))) (F36 : (((List Int) × (Int × (Bool × Unit))) × Unit) → Bool × ((Int × Unit) × (((List Int) × (Int × (Bool × Unit))) × Unit))) (F37 : (((List Int) × (Int × (Bool × Unit))) × Unit) → Bool × ((Int × Unit) × (((List Int) × (Int × (Bool × Unit))) × Unit))) (n : Nat) (x0 : (List Int)) : runM (cx29 F27 F35 F36 F37 n) (fnOf 29) (body 29) M29a M29o (x0, ()) = t29 F27 F35 F36 F37 x0 := by kernel_rfl
def raw29 (F27 : ((Int × (Int × (Int × (Int × Unit)))) × Unit) → Bool × ((Int × Unit) × (Unit × Unit))) (F35 : ((List Int) × Unit) → Bool × ((((List Int) × (Int × (Bool × Unit))) × Unit) × (Unit × Unit))) (F36 : (((List Int) × (Int × (Bool × Unit))) × Unit) → Bool × ((Int × Unit) × (((List Int) × (Int × (Bool × Unit))) × Unit))) (F37 : (((List Int) × (Int × (Bool × Unit))) × Unit) → Bool × ((Int × Unit) × (((List Int) × (Int × (Bool × Unit))) × Unit))) (x : ((List Int) × Unit)) : Option (((Int × (Int × (Int × (Int × Unit)))) × (Int × Unit)) × (Unit × Unit)) := t29 F27 F35 F36 F37 x.1
theorem ok29 (F27 : ((Int × (Int × (Int × (Int × Unit)))) × Unit) → Bool × ((Int × Unit) × (Unit × Unit))) (F35 : ((List Int) × Unit) → Bool × ((((List Int) × (Int × (Bool × Unit))) × Unit) × (Unit × Unit))) (F36 : (((List Int) × (Int × (Bool × Unit))) × Unit) → Bool × ((Int × Unit) × (((List Int) × (Int × (Bool × Unit))) × Unit))) (F37 : (((List Int) × (Int × (Bool × Unit))) × Unit) → Bool × ((Int × Unit) × (((List Int) × (Int × (Bool × Unit))) × Unit))) (h27 : FnOK Try.prog noG 27 (fnM M27a M27o F27)) (h35 : FnOK Try.prog noG 35 (fnM M35a M35o F35)) (h36 : FnOK Try.prog noG 36 (fnM M36a M36o F36)) (h37 : FnOK Try.prog noG 37 (fnM M37a M37o F37)) : FnOK Try.prog noG 29 (fnM M29a M29o (toM (ma := M29a) (mo := M29o) (raw29 F27 F35 F36 F37))) :=
  fnM_sound (cx29 F27 F35 F36 F37 0) (SpecOK.addV (SpecOK.addV (SpecOK.addV (SpecOK.addV SpecOK.none h27) h35) h36) h37) mixed noG_ok (by kernel_rfl) (by kernel_rfl) (by kernel_rfl) (by kernel_rfl) (by kernel_rfl) (by kernel_rfl) (by kernel_rfl) (toM_run fun x => ⟨0, by have h := eq29 F27 F35 F36 F37 0 x.1; exact h⟩)

noncomputable def G29 : ((List Int) × Unit) → Bool × (((Int × (Int × (Int × (Int × Unit)))) × (Int × Unit)) × (Unit × Unit)) := toM (ma := M29a) (mo := M29o) (raw29 G27 G35 G36 G37)
theorem fok29 : FnOK Try.prog noG 29 (fnM M29a M29o G29) := ok29 G27 G35 G36 G37 fok27 fok35 fok36 fok37
theorem G29_of {x0 : (List Int)} {y : (((Int × (Int × (Int × (Int × Unit)))) × (Int × Unit)) × (Unit × Unit))} (h : t29 G27 G35 G36 G37 x0 = some y) : G29 (x0, ()) = (true, y) := toM_some (ma := M29a) (mo := M29o) h

/-- octet.Number -/
@[reducible] def M38a : Md := (.cons (.ro (.sl (.int .u8))) (.cons (.ro (.int .u64)) .nil))
@[reducible] def M38o : Md := (.cons (.ow (.int .u8)) .nil)
noncomputable def cx38 (F39 : ((List Int) × Unit) → Bool × (((List Int) × Unit) × (Unit × Unit))) (n : Nat) : Cx := { S := (addV noS 39 (fnM M39a M39o F39)), P := Try.prog, gl := noG, hint := [(122, [0, 1, 5, 6]), (506, [0, 1, 7])], pin := [], nin := 0, fuel := n }
noncomputable def l38_122_0' (F39 : ((List Int) × Unit) → Bool × (((List Int) × Unit) × (Unit × Unit))) (n k : Nat) (v0 : Int) (v1 : Int) (v2 : Int) (v3 : List Int) : Option (((List Int) × Unit) × (Unit × (Unit × Unit))) :=
  loopAt (cx38 F39 n) (body 38) (bits 122) [] k { tm := [(0, .hw 0), (1, .int .u64 v0), (5, .int .i64 v1), (6, .int .u64 v2)], hp := [(0, some (.row (.int .u8) v3))], nx := 1 } (finM Try.prog (fnOf 38) M38a M38o)
noncomputable def l38_122_0 : (((List Int) × Unit) → Bool × (((List Int) × Unit) × (Unit × Unit))) → Nat → Nat → Int → Int → Int → List Int → Option (((List Int) × Unit) × (Unit × (Unit × Unit))) := (sealed l38_122_0').1
theorem l38_122_0_e : l38_122_0' = l38_122_0 := (sealed l38_122_0').2.symm
noncomputable def l38_506_1' (F39 : ((List Int) × Unit) → Bool × (((List Int) × Unit) × (Unit × Unit))) (n k : Nat) (v0 : Int) (v1 : Int) (v2 : List Int) : Option (((List Int) × Unit) × (Unit × (Unit × Unit))) :=
  loopAt (cx38 F39 n) (body 38) (bits 506) [] k { tm := [(0, .hw 0), (1, .int .u64 v0), (7, .int .i64 v1)], hp := [(0, some (.row (.int .u8) v2))], nx := 1 } (finM Try.prog (fnOf 38) M38a M38o)
noncomputable def l38_506_1 : (((List Int) × Unit) → Bool × (((List Int) × Unit) × (Unit × Unit))) → Nat → Nat → Int → Int → List Int → Option (((List Int) × Unit) × (Unit × (Unit × Unit))) := (sealed l38_506_1').1
theorem l38_506_1_e : l38_506_1' = l38_506_1 := (sealed l38_506_1').2.symm
theorem l38_122_0_s' (F39 : ((List Int) × Unit) → Bool × (((List Int) × Unit) × (Unit × Unit))) (n k : Nat) (v0 : Int) (v1 : Int) (v2 : Int) (v3 : List Int) : l38_122_0' F39 n (k + 1) v0 v1 v2 v3 =
 (bif (decide (v2 > (0 : Int))) then
 (l38_122_0' F39 n k v0 (IntKind.i64.wrap (v1 + (1 : Int))) (v2.fdiv (2 ^ 8)) v3)
 else
 (ck (fits (v3.length + 1) 1)
 (l38_506_1' F39 n n v0 (IntKind.i64.wrap (v1 - (1 : Int))) (v3 ++ [(IntKind.u8.wrap v1)])))) := by kernel_rfl
theorem l38_122_0_s (F39 : ((List Int) × Unit) → Bool × (((List Int) × Unit) × (Unit × Unit))) (n k : Nat) (v0 : Int) (v1 : Int) (v2 : Int) (v3 : List Int) : l38_122_0 F39 n (k + 1) v0 v1 v2 v3 =
 (bif (decide (v2 > (0 : Int))) then
 (l38_122_0 F39 n k v0 (IntKind.i64.wrap (v1 + (1 : Int))) (v2.fdiv (2 ^ 8)) v3)
 else
 (ck (fits (v3.length + 1) 1)
 (l38_506_1 F39 n n v0 (IntKind.i64.wrap (v1 - (1 : Int))) (v3 ++ [(IntKind.u8.wrap v1)])))) := by
  have h := l38_122_0_s' F39 n k v0 v1 v2 v3
  rw [l38_122_0_e, l38_506_1_e] at h
  exact h
theorem l38_122_0_z' (F39 : ((List Int) × Unit) → Bool × (((List Int) × Unit) × (Unit × Unit))) (n : Nat) (v0 : Int) (v1 : Int) (v2 : Int) (v3 : List Int) : l38_122_0' F39 n 0 v0 v1 v2 v3 =
 none := by kernel_rfl
theorem l38_122_0_z (F39 : ((List Int) × Unit) → Bool × (((List Int) × Unit) × (Unit × Unit))) (n : Nat) (v0 : Int) (v1 : Int) (v2 : Int) (v3 : List Int) : l38_122_0 F39 n 0 v0 v1 v2 v3 =
 none := by
  have h := l38_122_0_z' F39 n v0 v1 v2 v3
  rw [l38_122_0_e] at h
  exact h
theorem l38_506_1_s' (F39 : ((List Int) × Unit) → Bool × (((List Int) × Unit) × (Unit × Unit))) (n k : Nat) (v0 : Int) (v1 : Int) (v2 : List Int) : l38_506_1' F39 n (k + 1) v0 v1 v2 =
 (bif (decide (v1 ≥ (0 : Int))) then
 (ck (decide (0 ≤ (IntKind.u64.wrap ((8 : Int) * (IntKind.u64.wrap v1)))))
 (ck (fits (v2.length + 1) 1)
 (l38_506_1' F39 n k v0 (IntKind.i64.wrap (v1 - (1 : Int))) (v2 ++ [(IntKind.u8.wrap (v0.fdiv (2 ^ (min (IntKind.u64.wrap ((8 : Int) * (IntKind.u64.wrap v1))).toNat 64))))]))))
 else
 (some ((v2, ()), ((), (), ())))) := by kernel_rfl
theorem l38_506_1_s (F39 : ((List Int) × Unit) → Bool × (((List Int) × Unit) × (Unit × Unit))) (n k : Nat) (v0 : Int) (v1 : Int) (v2 : List Int) : l38_506_1 F39 n (k + 1) v0 v1 v2 =
 (bif (decide (v1 ≥ (0 : Int))) then
 (ck (decide (0 ≤ (IntKind.u64.wrap ((8 : Int) * (IntKind.u64.wrap v1)))))
 (ck (fits (v2.length + 1) 1)
 (l38_506_1 F39 n k v0 (IntKind.i64.wrap (v1 - (1 : Int))) (v2 ++ [(IntKind.u8.wrap (v0.fdiv (2 ^ (min (IntKind.u64.wrap ((8 : Int) * (IntKind.u64.wrap v1))).toNat 64))))]))))
 else
 (some ((v2, ()), ((), (), ())))) := by
  have h := l38_506_1_s' F39 n k v0 v1 v2
  rw [l38_506_1_e] at h
  exact h
theorem l38_506_1_z' (F39 : ((List Int) × Unit) → Bool × (((List Int) × Unit) × (Unit × Unit))) (n : Nat) (v0 : Int) (v1 : Int) (v2 : List Int) : l38_506_1' F39 n 0 v0 v1 v2 =
 none := by kernel_rfl
theorem l38_506_1_z (F39 : ((List Int) × Unit) → Bool × (((List Int) × Unit) × (Unit × Unit))) (n : Nat) (v0 : Int) (v1 : Int) (v2 : List Int) : l38_506_1 F39 n 0 v0 v1 v2 =
 none := by
  have h := l38_506_1_z' F39 n v0 v1 v2
  rw [l38_506_1_e] at h
  exact h
theorem eq38' (F39 : ((List Int) × Unit) → Bool × (((List Int) × Unit) × (Unit × Unit))) (n : Nat) (x0 : (List Int)) (x1 : Int) : runM (cx38 F39 n) (fnOf 38) (body 38) M38a M38o (x0, x1, ()) =
 (cl (F39 (x0, ())) fun r64 =>
 (l38_122_0' F39 n n x1 (0 : Int) x1 r64.1.1)) := by kernel_rfl
theorem eq38 (F39 : ((List Int) × Unit) → Bool × (((List Int) × Unit) × (Unit × Unit))) (n : Nat) (x0 : (List Int)) (x1 : Int) : runM (cx38 F39 n) (fnOf 38) (body 38) M38a M38o (x0, x1, ()) =
 (cl (F39 (x0, ())) fun r64 =>
 (l38_122_0 F39 n n x1 (0 : Int) x1 r64.1.1)) := by
  have h := eq38' F39 n x0 x1
  rw [l38_122_0_e] at h
  exact h
theorem ok38 (F39 : ((List Int) × Unit) → Bool × (((List Int) × Unit) × (Unit × Unit))) (h39 : FnOK Try.prog noG 39 (fnM M39a M39o F39)) (f : ((List Int) × (Int × Unit)) → Bool × (((List Int) × Unit) × (Unit × (Unit × Unit)))) (hrun : ∀ x, (f x).1 = true → ∃ n, runM (cx38 F39 n) (fnOf 38) (body 38) M38a M38o x = some (f x).2) : FnOK Try.prog noG 38 (fnM M38a M38o f) :=
  fnM_sound (cx38 F39 0) (SpecOK.addV SpecOK.none h39) mixed noG_ok (by kernel_rfl) (by kernel_rfl) (by kernel_rfl) (by kernel_rfl) (by kernel_rfl) (by kernel_rfl) (by kernel_rfl) (fun x h => by obtain ⟨n, hn⟩ := hrun x h; exact ⟨n + 0, hn⟩)

def G38 (x : List Int × (Int × Unit)) : Bool × ((List Int × Unit) × (Unit × (Unit × Unit))) :=
  (decide (0 ≤ x.2.1) && decide (x.2.1 < 18446744073709551616) && decide (x.1.length + 9 ≤ 140737488355328), ((x.1 ++ numB x.2.1, ()), ((), (), ())))
theorem lb38 (n x : Nat) : ∀ (c k : Nat) (acc : List Int), c ≤ 8 → c < k → acc.length + c ≤ 140737488355328 → l38_506_1 G39 n k x ((c : Int) - 1) acc = some ((acc ++ be c x, ()), ((), (), ())) := by
  intro c
  induction c with
  | zero =>
    intro k acc h1 h2 h3
    obtain ⟨k, rfl⟩ : ∃ m, k = m + 1 := ⟨k - 1, by omega⟩
    rw [l38_506_1_s, decide_eq_false (by omega)]
    simp [be]
  | succ c ih =>
    intro k acc h1 h2 h3
    obtain ⟨k, rfl⟩ : ∃ m, k = m + 1 := ⟨k - 1, by omega⟩
    rw [l38_506_1_s, show ((c + 1 : Nat) : Int) - 1 = (c : Int) by omega, decide_eq_true (show (c : Int) ≥ 0 by omega)]
    rw [wrap_i64 (show -9223372036854775808 ≤ (c : Int) - 1 by omega) (by omega), wrap_u64 (show 0 ≤ (c : Int) by omega) (by omega), wrap_u64 (show 0 ≤ 8 * (c : Int) by omega) (by omega), decide_eq_true (show 0 ≤ 8 * (c : Int) by omega), show fits (acc.length + 1) 1 = true from decide_eq_true (by omega)]
    simp only [cond_true, ck_true]
    rw [ih k _ (by omega) (by omega) (by simp; omega), wrap_u8_mod, show (8 * (c : Int)).toNat = 8 * c by omega, Nat.min_eq_left (by omega), Int.fdiv_eq_ediv_of_nonneg _ (Int.pow_nonneg (by omega))]
    have e : (2 : Int) ^ (8 * c) = ((256 ^ c : Nat) : Int) := by
      rw [show (256 : Nat) = 2 ^ 8 from rfl, ← Nat.pow_mul]; simp
    rw [e, show (x : Int) / ((256 ^ c : Nat) : Int) % 256 = ((x / 256 ^ c % 256 : Nat) : Int) by simp]
    simp [be]
theorem la38 (n x : Nat) (hn : 8 < n) : ∀ (m k v j : Nat) (acc : List Int), v < 256 ^ m → m < k → j + m ≤ 8 → acc.length + 9 ≤ 140737488355328 → l38_122_0 G39 n k x j v acc = some ((acc ++ ((j + nlf m v : Nat) : Int) :: be (j + nlf m v) x, ()), ((), (), ())) := by
  have fin : ∀ (k j : Nat) (acc : List Int), j ≤ 8 → acc.length + 9 ≤ 140737488355328 → l38_122_0 G39 n (k + 1) x j 0 acc = some ((acc ++ ((j : Nat) : Int) :: be j x, ()), ((), (), ())) := by
    intro k j acc h1 h2
    rw [l38_122_0_s, decide_eq_false (by omega)]
    rw [wrap_i64 (show -9223372036854775808 ≤ (j : Int) - 1 by omega) (by omega), wrap_u8 (show 0 ≤ (j : Int) by omega) (by omega), show fits (acc.length + 1) 1 = true from decide_eq_true (by omega)]
    simp only [cond_false, ck_true]
    rw [lb38 n x j n _ (by omega) (by omega) (by simp; omega)]
    simp
  intro m
  induction m with
  | zero =>
    intro k v j acc h1 h2 h3 h4
    obtain ⟨k, rfl⟩ : ∃ m, k = m + 1 := ⟨k - 1, by omega⟩
    obtain rfl : v = 0 := by simpa using h1
    exact fin k j acc (by omega) h4
  | succ m ih =>
    intro k v j acc h1 h2 h3 h4
    obtain ⟨k, rfl⟩ : ∃ m, k = m + 1 := ⟨k - 1, by omega⟩
    by_cases hv : v = 0
    · subst hv
      rw [show nlf (m + 1) 0 = 0 from rfl]
      exact fin k j acc (by omega) h4
    · rw [l38_122_0_s, decide_eq_true (by omega)]
      have e1 : (v : Int).fdiv (2 ^ 8) = ((v / 256 : Nat) : Int) := by
        rw [Int.fdiv_eq_ediv_of_nonneg _ (by decide)]; simp
      rw [e1, wrap_i64 (show -9223372036854775808 ≤ (j : Int) + 1 by omega) (by omega), show (j : Int) + 1 = ((j + 1 : Nat) : Int) by omega]
      simp only [cond_true]
      rw [ih k (v / 256) (j + 1) acc (by rw [Nat.pow_succ] at h1; omega) (by omega) (by omega) h4, nlf, if_neg hv, show j + 1 + nlf m (v / 256) = j + (nlf m (v / 256) + 1) by omega]
theorem run38 (x : List Int × (Int × Unit)) (h : (G38 x).1 = true) : ∃ n, runM (cx38 G39 n) (fnOf 38) (body 38) M38a M38o x = some (G38 x).2 := by
  obtain ⟨b, v, ⟨⟩⟩ := x
  simp only [G38, Bool.and_eq_true, decide_eq_true_eq] at h
  obtain ⟨⟨h1, h2⟩, h3⟩ := h
  obtain ⟨v, rfl⟩ : ∃ m : Nat, v = m := ⟨v.toNat, by omega⟩
  refine ⟨20, ?_⟩
  rw [eq38, clone39 b (by omega), cl_true]
  have := la38 20 v (by omega) 8 20 v 0 b (by omega) (by omega) (by omega) h3
  simp only [Nat.zero_add] at this
  exact this

theorem fok38 : FnOK Try.prog noG 38 (fnM M38a M38o G38) := ok38 G39 fok39 G38 run38

/-- window.Bytes -/
@[reducible] def M31a : Md := (.cons (.ro (.cons (.int .u64) (.cons (.int .u64) (.cons (.int .u64) (.cons (.int .u64) .nil))))) .nil)
@[reducible] def M31o : Md := (.cons (.ro (.sl (.int .u8))) (.cons (.ro (.int .i64)) .nil))
noncomputable def cx31 (F27 : ((Int × (Int × (Int × (Int × Unit)))) × Unit) → Bool × ((Int × Unit) × (Unit × Unit))) (F38 : ((List Int) × (Int × Unit)) → Bool × (((List Int) × Unit) × (Unit × (Unit × Unit)))) (n : Nat) : Cx := { S := (addV (addV noS 27 (fnM M27a M27o F27)) 38 (fnM M38a M38o F38)), P := Try.prog, gl := noG, hint := [(122, [5, 21, 22])], pin := [], nin := 0, fuel := n }
noncomputable def l31_122_0' (F27 : ((Int × (Int × (Int × (Int × Unit)))) × Unit) → Bool × ((Int × Unit) × (Unit × Unit))) (F38 : ((List Int) × (Int × Unit)) → Bool × (((List Int) × Unit) × (Unit × (Unit × Unit)))) (n k : Nat) (v0 : List Int) (v1 : Int) : Option (((List Int) × (Int × Unit)) × (Unit × Unit)) :=
  loopAt (cx31 F27 F38 n) (body 31) (bits 122) [] k { tm := [(5, .nils), (21, .arr 4 (.int .u64) v0), (22, .int .i64 v1)], hp := [], nx := 0 } (finM Try.prog (fnOf 31) M31a M31o)
noncomputable def l31_122_0 : (((Int × (Int × (Int × (Int × Unit)))) × Unit) → Bool × ((Int × Unit) × (Unit × Unit))) → (((List Int) × (Int × Unit)) → Bool × (((List Int) × Unit) × (Unit × (Unit × Unit)))) → Nat → Nat → List Int → Int → Option (((List Int) × (Int × Unit)) × (Unit × Unit)) := (sealed l31_122_0').1
theorem l31_122_0_e : l31_122_0' = l31_122_0 := (sealed l31_122_0').2.symm
noncomputable def l31_122_1' (F27 : ((Int × (Int × (Int × (Int × Unit)))) × Unit) → Bool × ((Int × Unit) × (Unit × Unit))) (F38 : ((List Int) × (Int × Unit)) → Bool × (((List Int) × Unit) × (Unit × (Unit × Unit)))) (n k : Nat) (v0 : List Int) (v1 : Int) (v2 : List Int) : Option (((List Int) × (Int × Unit)) × (Unit × Unit)) :=
  loopAt (cx31 F27 F38 n) (body 31) (bits 122) [] k { tm := [(5, .hw 0), (21, .arr 4 (.int .u64) v0), (22, .int .i64 v1)], hp := [(0, some (.row (.int .u8) v2))], nx := 1 } (finM Try.prog (fnOf 31) M31a M31o)
noncomputable def l31_122_1 : (((Int × (Int × (Int × (Int × Unit)))) × Unit) → Bool × ((Int × Unit) × (Unit × Unit))) → (((List Int) × (Int × Unit)) → Bool × (((List Int) × Unit) × (Unit × (Unit × Unit)))) → Nat → Nat → List Int → Int → List Int → Option (((List Int) × (Int × Unit)) × (Unit × Unit)) := (sealed l31_122_1').1
theorem l31_122_1_e : l31_122_1' = l31_122_1 := (sealed l31_122_1').2.symm
theorem l31_122_0_s' (F27 : ((Int × (Int × (Int × (Int × Unit)))) × Unit) → Bool × ((Int × Unit) × (Unit × Unit))) (F38 : ((List Int) × (Int × Unit)) → Bool × (((List Int) × Unit) × (Unit × (Unit × Unit)))) (n k : Nat) (v0 : List Int) (v1 : Int) : l31_122_0' F27 F38 n (k + 1) v0 v1 =
 (bif (decide (v1 < (4 : Int))) then
 (ck (rng v1 4)
 (cl (F38 ([], (v0.getD v1.toNat (0 : Int)), ())) fun r68 =>
 (l31_122_1' F27 F38 n k v0 (IntKind.i64.wrap (v1 + (1 : Int))) r68.1.1)))
 else
 (some (([], (0 : Int), ()), ((), ())))) := by kernel_rfl
theorem l31_122_0_s (F27 : ((Int × (Int × (Int × (Int × Unit)))) × Unit) → Bool × ((Int × Unit) × (Unit × Unit))) (F38 : ((List Int) × (Int × Unit)) → Bool × (((List Int) × Unit) × (Unit × (Unit × Unit)))) (n k : Nat) (v0 : List Int) (v1 : Int) : l31_122_0 F27 F38 n (k + 1) v0 v1 =
 (bif (decide (v1 < (4 : Int))) then
 (ck (rng v1 4)
 (cl (F38 ([], (v0.getD v1.toNat (0 : Int)), ())) fun r68 =>
 (l31_122_1 F27 F38 n k v0 (IntKind.i64.wrap (v1 + (1 : Int))) r68.1.1)))
 else
 (some (([], (0 : Int), ()), ((), ())))) := by
  have h := l31_122_0_s' F27 F38 n k v0 v1
  rw [l31_122_0_e, l31_122_1_e] at h
  exact h
theorem l31_122_0_z' (F27 : ((Int × (Int × (Int × (Int × Unit)))) × Unit) → Bool × ((Int × Unit) × (Unit × Unit))) (F38 : ((List Int) × (Int × Unit)) → Bool × (((List Int) × Unit) × (Unit × (Unit × Unit)))) (n : Nat) (v0 : List Int) (v1 : Int) : l31_122_0' F27 F38 n 0 v0 v1 =
 none := by kernel_rfl
theorem l31_122_0_z (F27 : ((Int × (Int × (Int × (Int × Unit)))) × Unit) → Bool × ((Int × Unit) × (Unit × Unit))) (F38 : ((List Int) × (Int × Unit)) → Bool × (((List Int) × Unit) × (Unit × (Unit × Unit)))) (n : Nat) (v0 : List Int) (v1 : Int) : l31_122_0 F27 F38 n 0 v0 v1 =
 none := by
  have h := l31_122_0_z' F27 F38 n v0 v1
  rw [l31_122_0_e] at h
  exact h
theorem l31_122_1_s' (F27 : ((Int × (Int × (Int × (Int × Unit)))) × Unit) → Bool × ((Int × Unit) × (Unit × Unit))) (F38 : ((List Int) × (Int × Unit)) → Bool × (((List Int) × Unit) × (Unit × (Unit × Unit)))) (n k : Nat) (v0 : List Int) (v1 : Int) (v2 : List Int) : l31_122_1' F27 F38 n (k + 1) v0 v1 v2 =
 (bif (decide (v1 < (4 : Int))) then
 (ck (rng v1 4)
 (cl (F38 (v2, (v0.getD v1.toNat (0 : Int)), ())) fun r69 =>
 (l31_122_1' F27 F38 n k v0 (IntKind.i64.wrap (v1 + (1 : Int))) r69.1.1)))
 else
 (some ((v2, (0 : Int), ()), ((), ())))) := by kernel_rfl
theorem l31_122_1_s (F27 : ((Int × (Int × (Int × (Int × Unit)))) × Unit) → Bool × ((Int × Unit) × (Unit × Unit))) (F38 : ((List Int) × (Int × Unit)) → Bool × (((List Int) × Unit) × (Unit × (Unit × Unit)))) (n k : Nat) (v0 : List Int) (v1 : Int) (v2 : List Int) : l31_122_1 F27 F38 n (k + 1) v0 v1 v2 =
 (bif (decide (v1 < (4 : Int))) then
 (ck (rng v1 4)
 (cl (F38 (v2, (v0.getD v1.toNat (0 : Int)), ())) fun r69 =>
 (l31_122_1 F27 F38 n k v0 (IntKind.i64.wrap (v1 + (1 : Int))) r69.1.1)))
 else
 (some ((v2, (0 : Int), ()), ((), ())))) := by
  have h := l31_122_1_s' F27 F38 n k v0 v1 v2
  rw [l31_122_1_e] at h
  exact h
theorem l31_122_1_z' (F27 : ((Int × (Int × (Int × (Int × Unit)))) × Unit) → Bool × ((Int × Unit) × (Unit × Unit))) (F38 : ((List Int) × (Int × Unit)) → Bool × (((List Int) × Unit) × (Unit × (Unit × Unit)))) (n : Nat) (v0 : List Int) (v1 : Int) (v2 : List Int) : l31_122_1' F27 F38 n 0 v0 v1 v2 =
 none := by kernel_rfl
theorem l31_122_1_z (F27 : ((Int × (Int × (Int × (Int × Unit)))) × Unit) → Bool × ((Int × Unit) × (Unit × Unit))) (F38 : ((List Int) × (Int × Unit)) → Bool × (((List Int) × Unit) × (Unit × (Unit × Unit)))) (n : Nat) (v0 : List Int) (v1 : Int) (v2 : List Int) : l31_122_1 F27 F38 n 0 v0 v1 v2 =
 none := by
  have h := l31_122_1_z' F27 F38 n v0 v1 v2
  rw [l31_122_1_e] at h
  exact h
theorem eq31' (F27 : ((Int × (Int × (Int × (Int × Unit)))) × Unit) → Bool × ((Int × Unit) × (Unit × Unit))) (F38 : ((List Int) × (Int × Unit)) → Bool × (((List Int) × Unit) × (Unit × (Unit × Unit)))) (n : Nat) (x0 : Int) (x1 : Int) (x2 : Int) (x3 : Int) : runM (cx31 F27 F38 n) (fnOf 31) (body 31) M31a M31o ((x0, x1, x2, x3, ()), ()) =
 (cl (F27 ((x0, x1, x2, x3, ()), ())) fun r67 =>
 (bif (r67.1.1 != (0 : Int)) then
 (some (([], r67.1.1, ()), ((), ())))
 else
 (l31_122_0' F27 F38 n n (((((List.replicate 4 (0 : Int)).set 0 x0).set 1 x1).set 2 x2).set 3 x3) (0 : Int)))) := by kernel_rfl
theorem eq31 (F27 : ((Int × (Int × (Int × (Int × Unit)))) × Unit) → Bool × ((Int × Unit) × (Unit × Unit))) (F38 : ((List Int) × (Int × Unit)) → Bool × (((List Int) × Unit) × (Unit × (Unit × Unit)))) (n : Nat) (x0 : Int) (x1 : Int) (x2 : Int) (x3 : Int) : runM (cx31 F27 F38 n) (fnOf 31) (body 31) M31a M31o ((x0, x1, x2, x3, ()), ()) =
 (cl (F27 ((x0, x1, x2, x3, ()), ())) fun r67 =>
 (bif (r67.1.1 != (0 : Int)) then
 (some (([], r67.1.1, ()), ((), ())))
 else
 (l31_122_0 F27 F38 n n (((((List.replicate 4 (0 : Int)).set 0 x0).set 1 x1).set 2 x2).set 3 x3) (0 : Int)))) := by
  have h := eq31' F27 F38 n x0 x1 x2 x3
  rw [l31_122_0_e] at h
  exact h
theorem ok31 (F27 : ((Int × (Int × (Int × (Int × Unit)))) × Unit) → Bool × ((Int × Unit) × (Unit × Unit))) (F38 : ((List Int) × (Int × Unit)) → Bool × (((List Int) × Unit) × (Unit × (Unit × Unit)))) (h27 : FnOK Try.prog noG 27 (fnM M27a M27o F27)) (h38 : FnOK Try.prog noG 38 (fnM M38a M38o F38)) (f : ((Int × (Int × (Int × (Int × Unit)))) × Unit) → Bool × (((List Int) × (Int × Unit)) × (Unit × Unit))) (hrun : ∀ x, (f x).1 = true → ∃ n, runM (cx31 F27 F38 n) (fnOf 31) (body 31) M31a M31o x = some (f x).2) : FnOK Try.prog noG 31 (fnM M31a M31o f) :=
  fnM_sound (cx31 F27 F38 0) (SpecOK.addV (SpecOK.addV SpecOK.none h27) h38) mixed noG_ok (by kernel_rfl) (by kernel_rfl) (by kernel_rfl) (by kernel_rfl) (by kernel_rfl) (by kernel_rfl) (by kernel_rfl) (fun x h => by obtain ⟨n, hn⟩ := hrun x h; exact ⟨n + 0, hn⟩)

noncomputable def G31 (x : (Int × (Int × (Int × (Int × Unit)))) × Unit) : Bool × ((List Int × (Int × Unit)) × (Unit × Unit)) :=
  ((G27 x).1 && (decide (0 ≤ x.1.1) && decide (x.1.1 < 18446744073709551616)) && (decide (0 ≤ x.1.2.1) && decide (x.1.2.1 < 18446744073709551616)) && (decide (0 ≤ x.1.2.2.1) && decide (x.1.2.2.1 < 18446744073709551616)) && (decide (0 ≤ x.1.2.2.2.1) && decide (x.1.2.2.2.1 < 18446744073709551616)),
    (if (G27 x).2.1.1 = 0 then (numB x.1.1 ++ numB x.1.2.1 ++ numB x.1.2.2.1 ++ numB x.1.2.2.2.1, 0, ()) else ([], (G27 x).2.1.1, ())), ((), ()))
theorem number38 (b : List Int) (v : Int) (h : b.length + 9 ≤ 140737488355328) (h0 : 0 ≤ v) (h1 : v < 18446744073709551616) : G38 (b, v, ()) = (true, ((b ++ numB v, ()), ((), (), ()))) := by
  simp [G38, h, h0, h1]
theorem run31 (x : (Int × (Int × (Int × (Int × Unit)))) × Unit) (h : (G31 x).1 = true) : ∃ n, runM (cx31 G27 G38 n) (fnOf 31) (body 31) M31a M31o x = some (G31 x).2 := by
  obtain ⟨⟨a, b, c, d, ⟨⟩⟩, ⟨⟩⟩ := x
  simp only [G31, Bool.and_eq_true, decide_eq_true_eq] at h ⊢
  obtain ⟨⟨⟨⟨h1, a1, a2⟩, b1, b2⟩, c1, c2⟩, d1, d2⟩ := h
  refine ⟨20, ?_⟩
  rw [eq31]
  have hg : G27 ((a, b, c, d, ()), ()) = (true, ((G27 ((a, b, c, d, ()), ())).2.1.1, ()), (), ()) := by rw [← h1]
  generalize (G27 ((a, b, c, d, ()), ())).2.1.1 = e at hg
  have hg' : G27 ((a, b, c, d, PUnit.unit), PUnit.unit) = (true, (e, ()), (), ()) := hg
  rw [hg, cl_true]
  by_cases he : e = 0
  case neg => rw [show (e != 0) = true by simpa using he, if_neg he]; rfl
  subst he
  rw [if_pos rfl]
  have la := numB_len_le a
  have lb := numB_len_le b
  have lc := numB_len_le c
  simp only [bne_self_eq_false, cond_false]
  rw [l31_122_0_s, show (((((List.replicate 4 (0 : Int)).set 0 a).set 1 b).set 2 c).set 3 d) = [a, b, c, d] from rfl]
  simp only [show decide ((0 : Int) < 4) = true from rfl, cond_true, show rng 0 4 = true from rfl, ck_true]
  show cl (G38 ([], a, ())) _ = _
  rw [number38 _ _ (by simp) a1 a2, cl_true, show IntKind.i64.wrap ((0 : Int) + 1) = 1 from rfl, l31_122_1_s]
  simp only [show decide ((1 : Int) < 4) = true from rfl, cond_true, show rng 1 4 = true from rfl, ck_true]
  show cl (G38 (_, b, ())) _ = _
  rw [number38 _ _ (by simp; omega) b1 b2, cl_true, show IntKind.i64.wrap ((1 : Int) + 1) = 2 from rfl, l31_122_1_s]
  simp only [show decide ((2 : Int) < 4) = true from rfl, cond_true, show rng 2 4 = true from rfl, ck_true]
  show cl (G38 (_, c, ())) _ = _
  rw [number38 _ _ (by simp; omega) c1 c2, cl_true, show IntKind.i64.wrap ((2 : Int) + 1) = 3 from rfl, l31_122_1_s]
  simp only [show decide ((3 : Int) < 4) = true from rfl, cond_true, show rng 3 4 = true from rfl, ck_true]
  show cl (G38 (_, d, ())) _ = _
  rw [number38 _ _ (by simp; omega) d1 d2, cl_true, show IntKind.i64.wrap ((3 : Int) + 1) = 4 from rfl, l31_122_1_s]
  rfl

theorem fok31 : FnOK Try.prog noG 31 (fnM M31a M31o G31) := ok31 G27 G38 fok27 fok38 G31 run31

/-- drawbridgelaw07.WindowBack -/
@[reducible] def K10a : Kd := (.cons (.cons (.int .u64) (.cons (.int .u64) (.cons (.int .u64) (.cons (.int .u64) .nil)))) (.cons (.sl (.int .u8)) .nil))
@[reducible] def K10o : Kd := .cons .bool .nil
noncomputable def cx10 (F27 : ((Int × (Int × (Int × (Int × Unit)))) × Unit) → Bool × ((Int × Unit) × (Unit × Unit))) (F20 : Unit → Bool × ((Bool × Unit) × Unit)) (F30 : ((List Int) × Unit) → Bool × (((List Int) × Unit) × (Unit × Unit))) (F29 : ((List Int) × Unit) → Bool × (((Int × (Int × (Int × (Int × Unit)))) × (Int × Unit)) × (Unit × Unit))) (F31 : ((Int × (Int × (Int × (Int × Unit)))) × Unit) → Bool × (((List Int) × (Int × Unit)) × (Unit × Unit))) (n : Nat) : Cx := { S := (addV (addV (addV (addV (addV noS 27 (fnM M27a M27o F27)) 20 (fnM M20a M20o F20)) 30 (fnM M30a M30o F30)) 29 (fnM M29a M29o F29)) 31 (fnM M31a M31o F31)), P := Try.prog, gl := noG, hint := [], pin := [], nin := 0, fuel := n }
def t10 (F27 : ((Int × (Int × (Int × (Int × Unit)))) × Unit) → Bool × ((Int × Unit) × (Unit × Unit))) (F20 : Unit → Bool × ((Bool × Unit) × Unit)) (F30 : ((List Int) × Unit) → Bool × (((List Int) × Unit) × (Unit × Unit))) (F29 : ((List Int) × Unit) → Bool × (((Int × (Int × (Int × (Int × Unit)))) × (Int × Unit)) × (Unit × Unit))) (F31 : ((Int × (Int × (Int × (Int × Unit)))) × Unit) → Bool × (((List Int) × (Int × Unit)) × (Unit × Unit))) (x0 : Int) (x1 : Int) (x2 : Int) (x3 : Int) (x4 : (List Int)) : Option (Bool × Unit) :=
 (cl (F20 ()) fun r29 =>
 (bif (!r29.1.1) then
 (some (false, ()))
 else
 (bif (decide ((x4.length : Int) > (100 : Int))) then
 (some (true, ()))
 else
 (cl (F30 (x4, ())) fun r30 =>
 (cl (F29 (r30.1.1, ())) fun r61 =>
 (jn ((cl (F31 ((x0, x1, x2, x3, ()), ())) fun r71 =>
 (bif (r71.1.2.1 != (0 : Int)) then
 (cl (F27 ((x0, x1, x2, x3, ()), ())) fun r72 =>
 (some ((r72.1.1 == r71.1.2.1), ())))
 else
 (cl (F29 (r71.1.1, ())) fun r73 =>
 (bif (r73.1.2.1 == (0 : Int)) then
 (some (((r73.1.1.1 == x0) && ((r73.1.1.2.1 == x1) && ((r73.1.1.2.2.1 == x2) && ((r73.1.1.2.2.2.1 == x3) && true)))), ()))
 else
 (some (false, ()))))))) fun (j248 : Option (Bool × Unit)) =>
 (bif (r61.1.2.1 == (0 : Int)) then
 (cl (F31 ((r61.1.1.1, r61.1.1.2.1, r61.1.1.2.2.1, r61.1.1.2.2.2.1, ()), ())) fun r70 =>
 (jn (fun (y317_0 : Bool) =>
 (bif y317_0 then
 (some (false, ()))
 else
 j248)) fun (j317 : Bool → Option (Bool × Unit)) =>
 (bif (r70.1.2.1 != (0 : Int)) then
 (j317 true)
 else
 (j317 (!((bstr r70.1.1) == (bstr x4)))))))
 else
 j248)))))))
theorem eq10 (F27 : ((Int × (Int × (Int × (Int × Unit)))) × Unit) → Bool × ((Int × Unit) × (Unit × Unit))) (F20 : Unit → Bool × ((Bool × Unit) × Unit)) (F30 : ((List Int) × Unit) → Bool × (((List Int) × Unit) × (Unit × Unit))) (F29 : ((List Int) × Unit) → Bool × (((Int × (Int × (Int × (Int × Unit)))) × (Int × Unit)) × (Unit × Unit))) (F31 : ((Int × (Int × (Int × (Int × Unit)))) × Unit) → Bool × (((List Int) × (Int × Unit)) × (Unit × Unit))) (n : Nat) (x0 : Int) (x1 : Int) (x2 : Int) (x3 : Int) (x4 : (List Int)) : runD (cx10 F27 F20 F30 F29 F31 n) (fnOf 10) (body 10) K10a K10o ((x0, x1, x2, x3, ()), x4, ()) = t10 F27 F20 F30 F29 F31 x0 x1 x2 x3 x4 := by kernel_rfl

theorem called10 {w : World} {vs : List Value} {x : K10a.T} (hrun : ∀ x, K10a.ok x → ∃ n, runD (cx10 G27 G20 G30 G29 G31 n) (fnOf 10) (body 10) K10a K10o x = some (true, ())) (h : KVs (fun b => b < w.heap.size) w K10a x vs) : Calls Try.prog 10 vs.toArray w fun e w' => e = .returned (.bool true) ∧ Go.RowKit.Below w.heap.size w w' :=
  law_ok (fun n => cx10 G27 G20 G30 G29 G31 n) (fun _ => (SpecOK.addV (SpecOK.addV (SpecOK.addV (SpecOK.addV (SpecOK.addV SpecOK.none fok27) fok20) fok30) fok29) fok31)) (fun _ => mixed) (fun _ => noG_ok) (fun _ => rfl) (by kernel_rfl) (by kernel_rfl) (by kernel_rfl) (by kernel_rfl) hrun (fun _ _ _ h => by cases h) h

end Go.Proofs.Ytloohkifibfdiaa.Ae
