/- Functions of the program, each as the evaluator reads it: a tree of cases, and a function for each loop. Printed by gen2.py. -/
import Derived.Test.YtbeamkhigbhogaaAe31
import Derived.Test.YtbeamkhigbhogaaProg
set_option linter.unusedVariables false
set_option maxRecDepth 100000
namespace Go.Proofs.Ytbeamkhigbhogaa.Ae
open Go
noncomputable def body (f : Nat) : Code := ((Try.prog.funcs[f]?).bind (·.body)).getD .skip
noncomputable def fnOf (f : Nat) : Func := (Try.prog.funcs[f]?).getD default
theorem mixed : (Try.prog).follows .mixedOrders = true := by kernel_rfl

/-- lease.Check -/
@[reducible] def M15a : Md := (.cons (.ro (.cons (.int .u64) (.cons (.int .u64) .nil))) .nil)
@[reducible] def M15o : Md := (.cons (.ro (.int .i64)) .nil)
noncomputable def cx15 (n : Nat) : Cx := { S := noS, P := Try.prog, gl := noG, hint := [], pin := [], nin := 0, fuel := n }
def t15 (x0 : Int) (x1 : Int) : Option ((Int × Unit) × (Unit × Unit)) :=
 (jn (fun (y16_0 : Bool) =>
 (bif y16_0 then
 some (((2 : Int), ()), ((), ()))
 else
 some (((0 : Int), ()), ((), ())))) fun (j16 : Bool → Option ((Int × Unit) × (Unit × Unit))) =>
 (bif (decide (x1 > (1152921504606846976 : Int))) then
 (j16 true)
 else
 (bif (decide (x0 < (1 : Int))) then
 (j16 true)
 else
 (j16 (decide (x0 > (IntKind.u64.wrap (x1 + (1 : Int)))))))))
theorem eq15 (n : Nat) (x0 : Int) (x1 : Int) : runM (cx15 n) (fnOf 15) (body 15) M15a M15o ((x0, x1, ()), ()) = t15 x0 x1 := by kernel_rfl
def raw15 (x : ((Int × (Int × Unit)) × Unit)) : Option ((Int × Unit) × (Unit × Unit)) := t15 x.1.1 x.1.2.1
theorem ok15 : FnOK Try.prog noG 15 (fnM M15a M15o (toM (ma := M15a) (mo := M15o) (raw15))) :=
  fnM_sound (cx15 0) SpecOK.none mixed noG_ok (by kernel_rfl) (by kernel_rfl) (by kernel_rfl) (by kernel_rfl) (by kernel_rfl) (by kernel_rfl) (by kernel_rfl) (toM_run fun x => ⟨0, by have h := eq15 0 x.1.1 x.1.2.1; exact h⟩)

noncomputable def G15 : ((Int × (Int × Unit)) × Unit) → Bool × ((Int × Unit) × (Unit × Unit)) := toM (ma := M15a) (mo := M15o) (raw15)
theorem fok15 : FnOK Try.prog noG 15 (fnM M15a M15o G15) := ok15
theorem G15_of {x0 : Int} {x1 : Int} {y : ((Int × Unit) × (Unit × Unit))} (h : t15 x0 x1 = some y) : G15 ((x0, x1, ()), ()) = (true, y) := toM_some (ma := M15a) (mo := M15o) h

/-- lease.Lease -/
@[reducible] def M8a : Md := (.cons (.ro (.cons (.int .u64) (.cons (.int .u64) .nil))) (.cons (.ro (.int .u64)) .nil))
@[reducible] def M8o : Md := (.cons (.ro (.cons (.int .u64) (.cons (.int .u64) .nil))) (.cons (.ro (.int .i64)) .nil))
noncomputable def cx8 (F15 : ((Int × (Int × Unit)) × Unit) → Bool × ((Int × Unit) × (Unit × Unit))) (n : Nat) : Cx := { S := (addV noS 15 (fnM M15a M15o F15)), P := Try.prog, gl := noG, hint := [], pin := [], nin := 0, fuel := n }
def t8 (F15 : ((Int × (Int × Unit)) × Unit) → Bool × ((Int × Unit) × (Unit × Unit))) (x0 : Int) (x1 : Int) (x2 : Int) : Option (((Int × (Int × Unit)) × (Int × Unit)) × (Unit × (Unit × Unit))) :=
 (cl (F15 ((x0, x1, ()), ())) fun r2 =>
 (bif (r2.1.1 != (0 : Int)) then
 some ((((0 : Int), (0 : Int), ()), r2.1.1, ()), ((), (), ()))
 else
 (bif (x2 == (0 : Int)) then
 some ((((0 : Int), (0 : Int), ()), (2 : Int), ()), ((), (), ()))
 else
 (bif (x1 == (1152921504606846976 : Int)) then
 some ((((0 : Int), (0 : Int), ()), (9 : Int), ()), ((), (), ()))
 else
 some (((x0, (IntKind.u64.wrap (x1 + (if (IntKind.u64.wrap ((1152921504606846976 : Int) - x1)) < x2 then (IntKind.u64.wrap ((1152921504606846976 : Int) - x1)) else x2))), ()), (0 : Int), ()), ((), (), ()))))))
theorem eq8 (F15 : ((Int × (Int × Unit)) × Unit) → Bool × ((Int × Unit) × (Unit × Unit))) (n : Nat) (x0 : Int) (x1 : Int) (x2 : Int) : runM (cx8 F15 n) (fnOf 8) (body 8) M8a M8o ((x0, x1, ()), x2, ()) = t8 F15 x0 x1 x2 := by kernel_rfl
def raw8 (F15 : ((Int × (Int × Unit)) × Unit) → Bool × ((Int × Unit) × (Unit × Unit))) (x : ((Int × (Int × Unit)) × (Int × Unit))) : Option (((Int × (Int × Unit)) × (Int × Unit)) × (Unit × (Unit × Unit))) := t8 F15 x.1.1 x.1.2.1 x.2.1
theorem ok8 (F15 : ((Int × (Int × Unit)) × Unit) → Bool × ((Int × Unit) × (Unit × Unit))) (h15 : FnOK Try.prog noG 15 (fnM M15a M15o F15)) : FnOK Try.prog noG 8 (fnM M8a M8o (toM (ma := M8a) (mo := M8o) (raw8 F15))) :=
  fnM_sound (cx8 F15 0) (SpecOK.addV SpecOK.none h15) mixed noG_ok (by kernel_rfl) (by kernel_rfl) (by kernel_rfl) (by kernel_rfl) (by kernel_rfl) (by kernel_rfl) (by kernel_rfl) (toM_run fun x => ⟨0, by have h := eq8 F15 0 x.1.1 x.1.2.1 x.2.1; exact h⟩)

noncomputable def G8 : ((Int × (Int × Unit)) × (Int × Unit)) → Bool × (((Int × (Int × Unit)) × (Int × Unit)) × (Unit × (Unit × Unit))) := toM (ma := M8a) (mo := M8o) (raw8 G15)
theorem fok8 : FnOK Try.prog noG 8 (fnM M8a M8o G8) := ok8 G15 fok15
theorem G8_of {x0 : Int} {x1 : Int} {x2 : Int} {y : (((Int × (Int × Unit)) × (Int × Unit)) × (Unit × (Unit × Unit)))} (h : t8 G15 x0 x1 x2 = some y) : G8 ((x0, x1, ()), x2, ()) = (true, y) := toM_some (ma := M8a) (mo := M8o) h

/-- lease.New -/
@[reducible] def M9a : Md := .nil
@[reducible] def M9o : Md := (.cons (.ro (.cons (.int .u64) (.cons (.int .u64) .nil))) .nil)
noncomputable def cx9 (n : Nat) : Cx := { S := noS, P := Try.prog, gl := noG, hint := [], pin := [], nin := 0, fuel := n }
def t9 : Option (((Int × (Int × Unit)) × Unit) × Unit) :=
 some ((((1 : Int), (0 : Int), ()), ()), ())
theorem eq9 (n : Nat) : runM (cx9 n) (fnOf 9) (body 9) M9a M9o () = t9 := by kernel_rfl
def raw9 (x : Unit) : Option (((Int × (Int × Unit)) × Unit) × Unit) := t9
theorem ok9 : FnOK Try.prog noG 9 (fnM M9a M9o (toM (ma := M9a) (mo := M9o) (raw9))) :=
  fnM_sound (cx9 0) SpecOK.none mixed noG_ok (by kernel_rfl) (by kernel_rfl) (by kernel_rfl) (by kernel_rfl) (by kernel_rfl) (by kernel_rfl) (by kernel_rfl) (toM_run fun x => ⟨0, by have h := eq9 0; exact h⟩)

noncomputable def G9 : Unit → Bool × (((Int × (Int × Unit)) × Unit) × Unit) := toM (ma := M9a) (mo := M9o) (raw9)
theorem fok9 : FnOK Try.prog noG 9 (fnM M9a M9o G9) := ok9
theorem G9_of {y : (((Int × (Int × Unit)) × Unit) × Unit)} (h : t9 = some y) : G9 () = (true, y) := toM_some (ma := M9a) (mo := M9o) h

/-- lease.Take -/
@[reducible] def M10a : Md := (.cons (.ro (.cons (.int .u64) (.cons (.int .u64) .nil))) .nil)
@[reducible] def M10o : Md := (.cons (.ro (.int .u64)) (.cons (.ro (.cons (.int .u64) (.cons (.int .u64) .nil))) (.cons (.ro (.int .i64)) .nil)))
noncomputable def cx10 (F15 : ((Int × (Int × Unit)) × Unit) → Bool × ((Int × Unit) × (Unit × Unit))) (n : Nat) : Cx := { S := (addV noS 15 (fnM M15a M15o F15)), P := Try.prog, gl := noG, hint := [], pin := [], nin := 0, fuel := n }
def t10 (F15 : ((Int × (Int × Unit)) × Unit) → Bool × ((Int × Unit) × (Unit × Unit))) (x0 : Int) (x1 : Int) : Option ((Int × ((Int × (Int × Unit)) × (Int × Unit))) × (Unit × Unit)) :=
 (cl (F15 ((x0, x1, ()), ())) fun r7 =>
 (bif (r7.1.1 != (0 : Int)) then
 some (((0 : Int), ((0 : Int), (0 : Int), ()), r7.1.1, ()), ((), ()))
 else
 (bif (decide (x0 > x1)) then
 some (((0 : Int), ((0 : Int), (0 : Int), ()), (6 : Int), ()), ((), ()))
 else
 some ((x0, ((IntKind.u64.wrap (x0 + (1 : Int))), x1, ()), (0 : Int), ()), ((), ())))))
theorem eq10 (F15 : ((Int × (Int × Unit)) × Unit) → Bool × ((Int × Unit) × (Unit × Unit))) (n : Nat) (x0 : Int) (x1 : Int) : runM (cx10 F15 n) (fnOf 10) (body 10) M10a M10o ((x0, x1, ()), ()) = t10 F15 x0 x1 := by kernel_rfl
def raw10 (F15 : ((Int × (Int × Unit)) × Unit) → Bool × ((Int × Unit) × (Unit × Unit))) (x : ((Int × (Int × Unit)) × Unit)) : Option ((Int × ((Int × (Int × Unit)) × (Int × Unit))) × (Unit × Unit)) := t10 F15 x.1.1 x.1.2.1
theorem ok10 (F15 : ((Int × (Int × Unit)) × Unit) → Bool × ((Int × Unit) × (Unit × Unit))) (h15 : FnOK Try.prog noG 15 (fnM M15a M15o F15)) : FnOK Try.prog noG 10 (fnM M10a M10o (toM (ma := M10a) (mo := M10o) (raw10 F15))) :=
  fnM_sound (cx10 F15 0) (SpecOK.addV SpecOK.none h15) mixed noG_ok (by kernel_rfl) (by kernel_rfl) (by kernel_rfl) (by kernel_rfl) (by kernel_rfl) (by kernel_rfl) (by kernel_rfl) (toM_run fun x => ⟨0, by have h := eq10 F15 0 x.1.1 x.1.2.1; exact h⟩)

noncomputable def G10 : ((Int × (Int × Unit)) × Unit) → Bool × ((Int × ((Int × (Int × Unit)) × (Int × Unit))) × (Unit × Unit)) := toM (ma := M10a) (mo := M10o) (raw10 G15)
theorem fok10 : FnOK Try.prog noG 10 (fnM M10a M10o G10) := ok10 G15 fok15
theorem G10_of {x0 : Int} {x1 : Int} {y : ((Int × ((Int × (Int × Unit)) × (Int × Unit))) × (Unit × Unit))} (h : t10 G15 x0 x1 = some y) : G10 ((x0, x1, ()), ()) = (true, y) := toM_some (ma := M10a) (mo := M10o) h

/-- lease.Recover -/
@[reducible] def M14a : Md := (.cons (.ro (.cons (.int .u64) (.cons (.int .u64) .nil))) .nil)
@[reducible] def M14o : Md := (.cons (.ro (.cons (.int .u64) (.cons (.int .u64) .nil))) (.cons (.ro (.int .i64)) .nil))
noncomputable def cx14 (F15 : ((Int × (Int × Unit)) × Unit) → Bool × ((Int × Unit) × (Unit × Unit))) (n : Nat) : Cx := { S := (addV noS 15 (fnM M15a M15o F15)), P := Try.prog, gl := noG, hint := [], pin := [], nin := 0, fuel := n }
def t14 (F15 : ((Int × (Int × Unit)) × Unit) → Bool × ((Int × Unit) × (Unit × Unit))) (x0 : Int) (x1 : Int) : Option (((Int × (Int × Unit)) × (Int × Unit)) × (Unit × Unit)) :=
 (cl (F15 ((x0, x1, ()), ())) fun r14 =>
 (bif (r14.1.1 != (0 : Int)) then
 some ((((0 : Int), (0 : Int), ()), r14.1.1, ()), ((), ()))
 else
 some ((((IntKind.u64.wrap (x1 + (1 : Int))), x1, ()), (0 : Int), ()), ((), ()))))
theorem eq14 (F15 : ((Int × (Int × Unit)) × Unit) → Bool × ((Int × Unit) × (Unit × Unit))) (n : Nat) (x0 : Int) (x1 : Int) : runM (cx14 F15 n) (fnOf 14) (body 14) M14a M14o ((x0, x1, ()), ()) = t14 F15 x0 x1 := by kernel_rfl
def raw14 (F15 : ((Int × (Int × Unit)) × Unit) → Bool × ((Int × Unit) × (Unit × Unit))) (x : ((Int × (Int × Unit)) × Unit)) : Option (((Int × (Int × Unit)) × (Int × Unit)) × (Unit × Unit)) := t14 F15 x.1.1 x.1.2.1
theorem ok14 (F15 : ((Int × (Int × Unit)) × Unit) → Bool × ((Int × Unit) × (Unit × Unit))) (h15 : FnOK Try.prog noG 15 (fnM M15a M15o F15)) : FnOK Try.prog noG 14 (fnM M14a M14o (toM (ma := M14a) (mo := M14o) (raw14 F15))) :=
  fnM_sound (cx14 F15 0) (SpecOK.addV SpecOK.none h15) mixed noG_ok (by kernel_rfl) (by kernel_rfl) (by kernel_rfl) (by kernel_rfl) (by kernel_rfl) (by kernel_rfl) (by kernel_rfl) (toM_run fun x => ⟨0, by have h := eq14 F15 0 x.1.1 x.1.2.1; exact h⟩)

noncomputable def G14 : ((Int × (Int × Unit)) × Unit) → Bool × (((Int × (Int × Unit)) × (Int × Unit)) × (Unit × Unit)) := toM (ma := M14a) (mo := M14o) (raw14 G15)
theorem fok14 : FnOK Try.prog noG 14 (fnM M14a M14o G14) := ok14 G15 fok15
theorem G14_of {x0 : Int} {x1 : Int} {y : (((Int × (Int × Unit)) × (Int × Unit)) × (Unit × Unit))} (h : t14 G15 x0 x1 = some y) : G14 ((x0, x1, ()), ()) = (true, y) := toM_some (ma := M14a) (mo := M14o) h

/-- lease.Nonce -/
@[reducible] def M26a : Md := (.cons (.ro (.int .u32)) (.cons (.ro (.int .u64)) .nil))
@[reducible] def M26o : Md := (.cons (.ro (.arr 12 (.int .u8))) .nil)
noncomputable def cx26 (n : Nat) : Cx := { S := noS, P := Try.prog, gl := noG, hint := [(26, [0, 1, 4, 7]), (58, [1, 4, 19])], pin := [], nin := 0, fuel := (n + 9) }
def t26 (x0 : Int) (x1 : Int) : Option (((List Int) × Unit) × (Unit × (Unit × Unit))) :=
 some ((((((((((((((List.replicate 12 (0 : Int)).set 0 (IntKind.u8.wrap (x0.fdiv (2 ^ 24)))).set 1 (IntKind.u8.wrap (x0.fdiv (2 ^ 16)))).set 2 (IntKind.u8.wrap (x0.fdiv (2 ^ 8)))).set 3 (IntKind.u8.wrap (x0.fdiv (2 ^ 0)))).set 4 (IntKind.u8.wrap (x1.fdiv (2 ^ 56)))).set 5 (IntKind.u8.wrap (x1.fdiv (2 ^ 48)))).set 6 (IntKind.u8.wrap (x1.fdiv (2 ^ 40)))).set 7 (IntKind.u8.wrap (x1.fdiv (2 ^ 32)))).set 8 (IntKind.u8.wrap (x1.fdiv (2 ^ 24)))).set 9 (IntKind.u8.wrap (x1.fdiv (2 ^ 16)))).set 10 (IntKind.u8.wrap (x1.fdiv (2 ^ 8)))).set 11 (IntKind.u8.wrap (x1.fdiv (2 ^ 0))), ()), ((), (), ()))
theorem eq26 (n : Nat) (x0 : Int) (x1 : Int) : runM (cx26 n) (fnOf 26) (body 26) M26a M26o (x0, x1, ()) = t26 x0 x1 := by kernel_rfl
def raw26 (x : (Int × (Int × Unit))) : Option (((List Int) × Unit) × (Unit × (Unit × Unit))) := t26 x.1 x.2.1
theorem ok26 : FnOK Try.prog noG 26 (fnM M26a M26o (toM (ma := M26a) (mo := M26o) (raw26))) :=
  fnM_sound (cx26 0) SpecOK.none mixed noG_ok (by kernel_rfl) (by kernel_rfl) (by kernel_rfl) (by kernel_rfl) (by kernel_rfl) (by kernel_rfl) (by kernel_rfl) (toM_run fun x => ⟨9, by have h := eq26 0 x.1 x.2.1; exact h⟩)

noncomputable def G26 : (Int × (Int × Unit)) → Bool × (((List Int) × Unit) × (Unit × (Unit × Unit))) := toM (ma := M26a) (mo := M26o) (raw26)
theorem fok26 : FnOK Try.prog noG 26 (fnM M26a M26o G26) := ok26
theorem G26_of {x0 : Int} {x1 : Int} {y : (((List Int) × Unit) × (Unit × (Unit × Unit)))} (h : t26 x0 x1 = some y) : G26 (x0, x1, ()) = (true, y) := toM_some (ma := M26a) (mo := M26o) h

/-- drawbridgelaw06.lives -/
@[reducible] def M11a : Md := .nil
@[reducible] def M11o : Md := (.cons (.ro .bool) .nil)
noncomputable def cx11 (F8 : ((Int × (Int × Unit)) × (Int × Unit)) → Bool × (((Int × (Int × Unit)) × (Int × Unit)) × (Unit × (Unit × Unit)))) (F9 : Unit → Bool × (((Int × (Int × Unit)) × Unit) × Unit)) (F10 : ((Int × (Int × Unit)) × Unit) → Bool × ((Int × ((Int × (Int × Unit)) × (Int × Unit))) × (Unit × Unit))) (F14 : ((Int × (Int × Unit)) × Unit) → Bool × (((Int × (Int × Unit)) × (Int × Unit)) × (Unit × Unit))) (F26 : (Int × (Int × Unit)) → Bool × (((List Int) × Unit) × (Unit × (Unit × Unit)))) (n : Nat) : Cx := { S := (addV (addV (addV (addV (addV noS 8 (fnM M8a M8o F8)) 9 (fnM M9a M9o F9)) 10 (fnM M10a M10o F10)) 14 (fnM M14a M14o F14)) 26 (fnM M26a M26o F26)), P := Try.prog, gl := noG, hint := [], pin := [], nin := 0, fuel := n }
def t11 (F8 : ((Int × (Int × Unit)) × (Int × Unit)) → Bool × (((Int × (Int × Unit)) × (Int × Unit)) × (Unit × (Unit × Unit)))) (F9 : Unit → Bool × (((Int × (Int × Unit)) × Unit) × Unit)) (F10 : ((Int × (Int × Unit)) × Unit) → Bool × ((Int × ((Int × (Int × Unit)) × (Int × Unit))) × (Unit × Unit))) (F14 : ((Int × (Int × Unit)) × Unit) → Bool × (((Int × (Int × Unit)) × (Int × Unit)) × (Unit × Unit))) (F26 : (Int × (Int × Unit)) → Bool × (((List Int) × Unit) × (Unit × (Unit × Unit)))) : Option ((Bool × Unit) × Unit) :=
 (cl (F9 ()) fun r18 =>
 (cl (F8 ((r18.1.1.1, r18.1.1.2.1, ()), (3 : Int), ())) fun r19 =>
 (cl (F10 ((r19.1.1.1, r19.1.1.2.1, ()), ())) fun r20 =>
 (cl (F10 ((r20.1.2.1.1, r20.1.2.1.2.1, ()), ())) fun r21 =>
 (cl (F14 ((r21.1.2.1.1, r21.1.2.1.2.1, ()), ())) fun r22 =>
 (cl (F10 ((r22.1.1.1, r22.1.1.2.1, ()), ())) fun r23 =>
 (bif (r19.1.2.1 == (0 : Int)) then
 (bif (r20.1.2.2.1 == (0 : Int)) then
 (bif (r21.1.2.2.1 == (0 : Int)) then
 (bif (r20.1.1 == (1 : Int)) then
 (bif (r21.1.1 == (2 : Int)) then
 (bif (r22.1.2.1 == (0 : Int)) then
 (bif (r22.1.1.1 == (4 : Int)) then
 (bif (r23.1.2.2.1 == (6 : Int)) then
 (cl (F26 ((1 : Int), (2 : Int), ())) fun r24 =>
 some ((((r24.1.1 : List Int) == ((List.replicate 12 (0 : Int)).set 3 (1 : Int)).set 11 (2 : Int)), ()), ()))
 else
 some ((false, ()), ()))
 else
 some ((false, ()), ()))
 else
 some ((false, ()), ()))
 else
 some ((false, ()), ()))
 else
 some ((false, ()), ()))
 else
 some ((false, ()), ()))
 else
 some ((false, ()), ()))
 else
 some ((false, ()), ()))))))))
theorem eq11 (F8 : ((Int × (Int × Unit)) × (Int × Unit)) → Bool × (((Int × (Int × Unit)) × (Int × Unit)) × (Unit × (Unit × Unit)))) (F9 : Unit → Bool × (((Int × (Int × Unit)) × Unit) × Unit)) (F10 : ((Int × (Int × Unit)) × Unit) → Bool × ((Int × ((Int × (Int × Unit)) × (Int × Unit))) × (Unit × Unit))) (F14 : ((Int × (Int × Unit)) × Unit) → Bool × (((Int × (Int × Unit)) × (Int × Unit)) × (Unit × Unit))) (F26 : (Int × (Int × Unit)) → Bool × (((List Int) × Unit) × (Unit × (Unit × Unit)))) (n : Nat) : runM (cx11 F8 F9 F10 F14 F26 n) (fnOf 11) (body 11) M11a M11o () = t11 F8 F9 F10 F14 F26 := by kernel_rfl
def raw11 (F8 : ((Int × (Int × Unit)) × (Int × Unit)) → Bool × (((Int × (Int × Unit)) × (Int × Unit)) × (Unit × (Unit × Unit)))) (F9 : Unit → Bool × (((Int × (Int × Unit)) × Unit) × Unit)) (F10 : ((Int × (Int × Unit)) × Unit) → Bool × ((Int × ((Int × (Int × Unit)) × (Int × Unit))) × (Unit × Unit))) (F14 : ((Int × (Int × Unit)) × Unit) → Bool × (((Int × (Int × Unit)) × (Int × Unit)) × (Unit × Unit))) (F26 : (Int × (Int × Unit)) → Bool × (((List Int) × Unit) × (Unit × (Unit × Unit)))) (x : Unit) : Option ((Bool × Unit) × Unit) := t11 F8 F9 F10 F14 F26
theorem ok11 (F8 : ((Int × (Int × Unit)) × (Int × Unit)) → Bool × (((Int × (Int × Unit)) × (Int × Unit)) × (Unit × (Unit × Unit)))) (F9 : Unit → Bool × (((Int × (Int × Unit)) × Unit) × Unit)) (F10 : ((Int × (Int × Unit)) × Unit) → Bool × ((Int × ((Int × (Int × Unit)) × (Int × Unit))) × (Unit × Unit))) (F14 : ((Int × (Int × Unit)) × Unit) → Bool × (((Int × (Int × Unit)) × (Int × Unit)) × (Unit × Unit))) (F26 : (Int × (Int × Unit)) → Bool × (((List Int) × Unit) × (Unit × (Unit × Unit)))) (h8 : FnOK Try.prog noG 8 (fnM M8a M8o F8)) (h9 : FnOK Try.prog noG 9 (fnM M9a M9o F9)) (h10 : FnOK Try.prog noG 10 (fnM M10a M10o F10)) (h14 : FnOK Try.prog noG 14 (fnM M14a M14o F14)) (h26 : FnOK Try.prog noG 26 (fnM M26a M26o F26)) : FnOK Try.prog noG 11 (fnM M11a M11o (toM (ma := M11a) (mo := M11o) (raw11 F8 F9 F10 F14 F26))) :=
  fnM_sound (cx11 F8 F9 F10 F14 F26 0) (SpecOK.addV (SpecOK.addV (SpecOK.addV (SpecOK.addV (SpecOK.addV SpecOK.none h8) h9) h10) h14) h26) mixed noG_ok (by kernel_rfl) (by kernel_rfl) (by kernel_rfl) (by kernel_rfl) (by kernel_rfl) (by kernel_rfl) (by kernel_rfl) (toM_run fun x => ⟨0, by have h := eq11 F8 F9 F10 F14 F26 0; exact h⟩)

noncomputable def G11 : Unit → Bool × ((Bool × Unit) × Unit) := toM (ma := M11a) (mo := M11o) (raw11 G8 G9 G10 G14 G26)
theorem fok11 : FnOK Try.prog noG 11 (fnM M11a M11o G11) := ok11 G8 G9 G10 G14 G26 fok8 fok9 fok10 fok14 fok26
theorem G11_of {y : ((Bool × Unit) × Unit)} (h : t11 G8 G9 G10 G14 G26 = some y) : G11 () = (true, y) := toM_some (ma := M11a) (mo := M11o) h

/-- lease.Left -/
@[reducible] def M12a : Md := (.cons (.ro (.cons (.int .u64) (.cons (.int .u64) .nil))) .nil)
@[reducible] def M12o : Md := (.cons (.ro (.int .u64)) .nil)
noncomputable def cx12 (F15 : ((Int × (Int × Unit)) × Unit) → Bool × ((Int × Unit) × (Unit × Unit))) (n : Nat) : Cx := { S := (addV noS 15 (fnM M15a M15o F15)), P := Try.prog, gl := noG, hint := [], pin := [], nin := 0, fuel := n }
def t12 (F15 : ((Int × (Int × Unit)) × Unit) → Bool × ((Int × Unit) × (Unit × Unit))) (x0 : Int) (x1 : Int) : Option ((Int × Unit) × (Unit × Unit)) :=
 (cl (F15 ((x0, x1, ()), ())) fun r28 =>
 (bif (r28.1.1 != (0 : Int)) then
 some (((0 : Int), ()), ((), ()))
 else
 some (((IntKind.u64.wrap ((IntKind.u64.wrap (x1 + (1 : Int))) - x0)), ()), ((), ()))))
theorem eq12 (F15 : ((Int × (Int × Unit)) × Unit) → Bool × ((Int × Unit) × (Unit × Unit))) (n : Nat) (x0 : Int) (x1 : Int) : runM (cx12 F15 n) (fnOf 12) (body 12) M12a M12o ((x0, x1, ()), ()) = t12 F15 x0 x1 := by kernel_rfl
def raw12 (F15 : ((Int × (Int × Unit)) × Unit) → Bool × ((Int × Unit) × (Unit × Unit))) (x : ((Int × (Int × Unit)) × Unit)) : Option ((Int × Unit) × (Unit × Unit)) := t12 F15 x.1.1 x.1.2.1
theorem ok12 (F15 : ((Int × (Int × Unit)) × Unit) → Bool × ((Int × Unit) × (Unit × Unit))) (h15 : FnOK Try.prog noG 15 (fnM M15a M15o F15)) : FnOK Try.prog noG 12 (fnM M12a M12o (toM (ma := M12a) (mo := M12o) (raw12 F15))) :=
  fnM_sound (cx12 F15 0) (SpecOK.addV SpecOK.none h15) mixed noG_ok (by kernel_rfl) (by kernel_rfl) (by kernel_rfl) (by kernel_rfl) (by kernel_rfl) (by kernel_rfl) (by kernel_rfl) (toM_run fun x => ⟨0, by have h := eq12 F15 0 x.1.1 x.1.2.1; exact h⟩)

noncomputable def G12 : ((Int × (Int × Unit)) × Unit) → Bool × ((Int × Unit) × (Unit × Unit)) := toM (ma := M12a) (mo := M12o) (raw12 G15)
theorem fok12 : FnOK Try.prog noG 12 (fnM M12a M12o G12) := ok12 G15 fok15
theorem G12_of {x0 : Int} {x1 : Int} {y : ((Int × Unit) × (Unit × Unit))} (h : t12 G15 x0 x1 = some y) : G12 ((x0, x1, ()), ()) = (true, y) := toM_some (ma := M12a) (mo := M12o) h

/-- drawbridgelaw06.LeaseNames -/
@[reducible] def K3a : Kd := .nil
@[reducible] def K3o : Kd := .cons .bool .nil
noncomputable def cx3 (F8 : ((Int × (Int × Unit)) × (Int × Unit)) → Bool × (((Int × (Int × Unit)) × (Int × Unit)) × (Unit × (Unit × Unit)))) (F9 : Unit → Bool × (((Int × (Int × Unit)) × Unit) × Unit)) (F10 : ((Int × (Int × Unit)) × Unit) → Bool × ((Int × ((Int × (Int × Unit)) × (Int × Unit))) × (Unit × Unit))) (F11 : Unit → Bool × ((Bool × Unit) × Unit)) (F12 : ((Int × (Int × Unit)) × Unit) → Bool × ((Int × Unit) × (Unit × Unit))) (n : Nat) : Cx := { S := (addV (addV (addV (addV (addV noS 8 (fnM M8a M8o F8)) 9 (fnM M9a M9o F9)) 10 (fnM M10a M10o F10)) 11 (fnM M11a M11o F11)) 12 (fnM M12a M12o F12)), P := Try.prog, gl := noG, hint := [], pin := [], nin := 0, fuel := n }
def t3 (F8 : ((Int × (Int × Unit)) × (Int × Unit)) → Bool × (((Int × (Int × Unit)) × (Int × Unit)) × (Unit × (Unit × Unit)))) (F9 : Unit → Bool × (((Int × (Int × Unit)) × Unit) × Unit)) (F10 : ((Int × (Int × Unit)) × Unit) → Bool × ((Int × ((Int × (Int × Unit)) × (Int × Unit))) × (Unit × Unit))) (F11 : Unit → Bool × ((Bool × Unit) × Unit)) (F12 : ((Int × (Int × Unit)) × Unit) → Bool × ((Int × Unit) × (Unit × Unit))) : Option (Bool × Unit) :=
 (cl (F8 (((1 : Int), (1152921504606846976 : Int), ()), (1 : Int), ())) fun r3 =>
 (cl (F9 ()) fun r4 =>
 (cl (F8 ((r4.1.1.1, r4.1.1.2.1, ()), (0 : Int), ())) fun r5 =>
 (cl (F10 (((0 : Int), (0 : Int), ()), ())) fun r8 =>
 (cl (F11 ()) fun r25 =>
 (bif r25.1.1 then
 (bif (r3.1.2.1 == (9 : Int)) then
 (bif (r5.1.2.1 == (2 : Int)) then
 (bif (r8.1.2.2.1 == (2 : Int)) then
 (cl (F9 ()) fun r26 =>
 (cl (F12 ((r26.1.1.1, r26.1.1.2.1, ()), ())) fun r29 =>
 (bif (r29.1.1 == (0 : Int)) then
 some (true, ())
 else
 some (false, ()))))
 else
 some (false, ()))
 else
 some (false, ()))
 else
 some (false, ()))
 else
 some (false, ())))))))
theorem eq3 (F8 : ((Int × (Int × Unit)) × (Int × Unit)) → Bool × (((Int × (Int × Unit)) × (Int × Unit)) × (Unit × (Unit × Unit)))) (F9 : Unit → Bool × (((Int × (Int × Unit)) × Unit) × Unit)) (F10 : ((Int × (Int × Unit)) × Unit) → Bool × ((Int × ((Int × (Int × Unit)) × (Int × Unit))) × (Unit × Unit))) (F11 : Unit → Bool × ((Bool × Unit) × Unit)) (F12 : ((Int × (Int × Unit)) × Unit) → Bool × ((Int × Unit) × (Unit × Unit))) (n : Nat) : runD (cx3 F8 F9 F10 F11 F12 n) (fnOf 3) (body 3) K3a K3o () = t3 F8 F9 F10 F11 F12 := by kernel_rfl

theorem called3 {w : World} {vs : List Value} {x : K3a.T} (hrun : ∀ x, K3a.ok x → ∃ n, runD (cx3 G8 G9 G10 G11 G12 n) (fnOf 3) (body 3) K3a K3o x = some (true, ())) (h : KVs (fun b => b < w.heap.size) w K3a x vs) : Calls Try.prog 3 vs.toArray w fun e w' => e = .returned (.bool true) ∧ Go.RowKit.Below w.heap.size w w' :=
  law_ok (fun n => cx3 G8 G9 G10 G11 G12 n) (fun _ => (SpecOK.addV (SpecOK.addV (SpecOK.addV (SpecOK.addV (SpecOK.addV SpecOK.none fok8) fok9) fok10) fok11) fok12)) (fun _ => mixed) (fun _ => noG_ok) (fun _ => rfl) (by kernel_rfl) (by kernel_rfl) (by kernel_rfl) (by kernel_rfl) hrun (fun _ _ _ h => by cases h) h

/-- drawbridgekit.Pick -/
@[reducible] def M13a : Md := (.cons (.ro (.int .i64)) (.cons (.ro (.int .i64)) .nil))
@[reducible] def M13o : Md := (.cons (.ro (.int .i64)) .nil)
noncomputable def cx13 (n : Nat) : Cx := { S := noS, P := Try.prog, gl := noG, hint := [], pin := [], nin := 0, fuel := n }
def t13 (x0 : Int) (x1 : Int) : Option ((Int × Unit) × (Unit × (Unit × Unit))) :=
 (bif (decide (x1 < (1 : Int))) then
 some (((0 : Int), ()), ((), (), ()))
 else
 (ck (x1 != 0)
 (jn (fun (y253_0 : Int) =>
 some ((y253_0, ()), ((), (), ()))) fun (j253 : Int → Option ((Int × Unit) × (Unit × (Unit × Unit)))) =>
 (bif (decide ((Int.tmod x0 x1) < (0 : Int))) then
 (j253 (IntKind.i64.wrap ((Int.tmod x0 x1) + x1)))
 else
 (j253 (Int.tmod x0 x1))))))
theorem eq13 (n : Nat) (x0 : Int) (x1 : Int) : runM (cx13 n) (fnOf 13) (body 13) M13a M13o (x0, x1, ()) = t13 x0 x1 := by kernel_rfl
def raw13 (x : (Int × (Int × Unit))) : Option ((Int × Unit) × (Unit × (Unit × Unit))) := t13 x.1 x.2.1
theorem ok13 : FnOK Try.prog noG 13 (fnM M13a M13o (toM (ma := M13a) (mo := M13o) (raw13))) :=
  fnM_sound (cx13 0) SpecOK.none mixed noG_ok (by kernel_rfl) (by kernel_rfl) (by kernel_rfl) (by kernel_rfl) (by kernel_rfl) (by kernel_rfl) (by kernel_rfl) (toM_run fun x => ⟨0, by have h := eq13 0 x.1 x.2.1; exact h⟩)

noncomputable def G13 : (Int × (Int × Unit)) → Bool × ((Int × Unit) × (Unit × (Unit × Unit))) := toM (ma := M13a) (mo := M13o) (raw13)
theorem fok13 : FnOK Try.prog noG 13 (fnM M13a M13o G13) := ok13
theorem G13_of {x0 : Int} {x1 : Int} {y : ((Int × Unit) × (Unit × (Unit × Unit)))} (h : t13 x0 x1 = some y) : G13 (x0, x1, ()) = (true, y) := toM_some (ma := M13a) (mo := M13o) h

/-- drawbridgelaw06.LeaseOnce -/
@[reducible] def K4a : Kd := (.cons (.sl (.cons (.int .i64) (.cons (.int .u64) .nil))) .nil)
@[reducible] def K4o : Kd := .cons .bool .nil
noncomputable def cx4 (F15 : ((Int × (Int × Unit)) × Unit) → Bool × ((Int × Unit) × (Unit × Unit))) (F8 : ((Int × (Int × Unit)) × (Int × Unit)) → Bool × (((Int × (Int × Unit)) × (Int × Unit)) × (Unit × (Unit × Unit)))) (F9 : Unit → Bool × (((Int × (Int × Unit)) × Unit) × Unit)) (F10 : ((Int × (Int × Unit)) × Unit) → Bool × ((Int × ((Int × (Int × Unit)) × (Int × Unit))) × (Unit × Unit))) (F14 : ((Int × (Int × Unit)) × Unit) → Bool × (((Int × (Int × Unit)) × (Int × Unit)) × (Unit × Unit))) (F11 : Unit → Bool × ((Bool × Unit) × Unit)) (F12 : ((Int × (Int × Unit)) × Unit) → Bool × ((Int × Unit) × (Unit × Unit))) (F13 : (Int × (Int × Unit)) → Bool × ((Int × Unit) × (Unit × (Unit × Unit)))) (n : Nat) : Cx := { S := (addV (addV (addV (addV (addV (addV (addV (addV noS 15 (fnM M15a M15o F15)) 8 (fnM M8a M8o F8)) 9 (fnM M9a M9o F9)) 10 (fnM M10a M10o F10)) 14 (fnM M14a M14o F14)) 11 (fnM M11a M11o F11)) 12 (fnM M12a M12o F12)) 13 (fnM M13a M13o F13)), P := Try.prog, gl := noG, hint := [(506, [0, 3, 4, 5])], pin := [], nin := 0, fuel := n }
noncomputable def l4_506_0' (F15 : ((Int × (Int × Unit)) × Unit) → Bool × ((Int × Unit) × (Unit × Unit))) (F8 : ((Int × (Int × Unit)) × (Int × Unit)) → Bool × (((Int × (Int × Unit)) × (Int × Unit)) × (Unit × (Unit × Unit)))) (F9 : Unit → Bool × (((Int × (Int × Unit)) × Unit) × Unit)) (F10 : ((Int × (Int × Unit)) × Unit) → Bool × ((Int × ((Int × (Int × Unit)) × (Int × Unit))) × (Unit × Unit))) (F14 : ((Int × (Int × Unit)) × Unit) → Bool × (((Int × (Int × Unit)) × (Int × Unit)) × (Unit × Unit))) (F11 : Unit → Bool × ((Bool × Unit) × Unit)) (F12 : ((Int × (Int × Unit)) × Unit) → Bool × ((Int × Unit) × (Unit × Unit))) (F13 : (Int × (Int × Unit)) → Bool × ((Int × Unit) × (Unit × (Unit × Unit)))) (n k : Nat) (v0 : List (Int × (Int × Unit))) (v1 : Int) (v2 : Int) (v3 : Int) (v4 : Int) : Option (Bool × Unit) :=
  loopAt (cx4 F15 F8 F9 F10 F14 F11 F12 F13 n) (body 4) (bits 506) [] k { tm := [(0, .rs (.cons (.int .i64) (.cons (.int .u64) .nil)) v0 false false), (3, .ptr 0 0 []), (4, .int .u64 v1), (5, .int .i64 v2)], hp := [(0, some (.box (.cons (.int .u64 v3) (.cons (.int .u64 v4) (.nil)))))], nx := 1 } (finish Try.prog (fnOf 4) K4o)
noncomputable def l4_506_0 : (((Int × (Int × Unit)) × Unit) → Bool × ((Int × Unit) × (Unit × Unit))) → (((Int × (Int × Unit)) × (Int × Unit)) → Bool × (((Int × (Int × Unit)) × (Int × Unit)) × (Unit × (Unit × Unit)))) → (Unit → Bool × (((Int × (Int × Unit)) × Unit) × Unit)) → (((Int × (Int × Unit)) × Unit) → Bool × ((Int × ((Int × (Int × Unit)) × (Int × Unit))) × (Unit × Unit))) → (((Int × (Int × Unit)) × Unit) → Bool × (((Int × (Int × Unit)) × (Int × Unit)) × (Unit × Unit))) → (Unit → Bool × ((Bool × Unit) × Unit)) → (((Int × (Int × Unit)) × Unit) → Bool × ((Int × Unit) × (Unit × Unit))) → ((Int × (Int × Unit)) → Bool × ((Int × Unit) × (Unit × (Unit × Unit)))) → Nat → Nat → List (Int × (Int × Unit)) → Int → Int → Int → Int → Option (Bool × Unit) := (sealed l4_506_0').1
theorem l4_506_0_e : l4_506_0' = l4_506_0 := (sealed l4_506_0').2.symm
theorem l4_506_0_s' (F15 : ((Int × (Int × Unit)) × Unit) → Bool × ((Int × Unit) × (Unit × Unit))) (F8 : ((Int × (Int × Unit)) × (Int × Unit)) → Bool × (((Int × (Int × Unit)) × (Int × Unit)) × (Unit × (Unit × Unit)))) (F9 : Unit → Bool × (((Int × (Int × Unit)) × Unit) × Unit)) (F10 : ((Int × (Int × Unit)) × Unit) → Bool × ((Int × ((Int × (Int × Unit)) × (Int × Unit))) × (Unit × Unit))) (F14 : ((Int × (Int × Unit)) × Unit) → Bool × (((Int × (Int × Unit)) × (Int × Unit)) × (Unit × Unit))) (F11 : Unit → Bool × ((Bool × Unit) × Unit)) (F12 : ((Int × (Int × Unit)) × Unit) → Bool × ((Int × Unit) × (Unit × Unit))) (F13 : (Int × (Int × Unit)) → Bool × ((Int × Unit) × (Unit × (Unit × Unit)))) (n k : Nat) (v0 : List (Int × (Int × Unit))) (v1 : Int) (v2 : Int) (v3 : Int) (v4 : Int) : l4_506_0' F15 F8 F9 F10 F14 F11 F12 F13 n (k + 1) v0 v1 v2 v3 v4 =
 (bif (decide (v2 < (v0.length : Int))) then
 (jn (fun (y235_0 : Int) (y235_1 : Int) (y235_2 : Int) =>
 (l4_506_0' F15 F8 F9 F10 F14 F11 F12 F13 n k v0 y235_0 (IntKind.i64.wrap (v2 + (1 : Int))) y235_1 y235_2)) fun (j235 : Int → Int → Int → Option (Bool × Unit)) =>
 (jn (fun (y236_0 : Int) (y236_1 : Int) (y236_2 : Int) =>
 (cl (F15 ((y236_1, y236_2, ()), ())) fun r40 =>
 (bif (r40.1.1 != (0 : Int)) then
 some (false, ())
 else
 (j235 y236_0 y236_1 y236_2)))) fun (j236 : Int → Int → Int → Option (Bool × Unit)) =>
 (ck (rng v2 v0.length)
 (cl (F13 ((v0.getD v2.toNat ((0 : Int), (0 : Int), ())).1, (6 : Int), ())) fun r32 =>
 (bif (r32.1.1 == (3 : Int)) then
 (ck (rng v2 v0.length)
 (cl (F8 ((v3, v4, ()), ((v0.getD v2.toNat ((0 : Int), (0 : Int), ())).2).1, ())) fun r33 =>
 (jn (fun (y259_0 : Bool) =>
 (bif y259_0 then
 some (false, ())
 else
 (bif (r33.1.2.1 == (0 : Int)) then
 (jn (fun (y263_0 : Bool) =>
 (bif y263_0 then
 some (false, ())
 else
 (j236 v1 r33.1.1.1 r33.1.1.2.1))) fun (j263 : Bool → Option (Bool × Unit)) =>
 (bif (r33.1.1.1 != v3) then
 (j263 true)
 else
 (bif (decide (r33.1.1.2.1 ≤ v4)) then
 (j263 true)
 else
 (ck (rng v2 v0.length)
 (j263 (decide ((IntKind.u64.wrap (r33.1.1.2.1 - v4)) > ((v0.getD v2.toNat ((0 : Int), (0 : Int), ())).2).1)))))))
 else
 (j236 v1 v3 v4)))) fun (j259 : Bool → Option (Bool × Unit)) =>
 (ck (rng v2 v0.length)
 (bif (decide (((v0.getD v2.toNat ((0 : Int), (0 : Int), ())).2).1 > (0 : Int))) then
 (j259 (!((r33.1.2.1 == (0 : Int)) == (decide (v4 < (1152921504606846976 : Int))))))
 else
 (j259 (!((r33.1.2.1 == (0 : Int)) == false))))))))
 else
 (jn (fun (y265_0 : Bool) =>
 (bif y265_0 then
 (jn (fun (y267_0 : Int) =>
 (cl (F14 ((y267_0, v4, ()), ())) fun r35 =>
 (jn (fun (y271_0 : Bool) =>
 (bif y271_0 then
 some (false, ())
 else
 (j236 v1 r35.1.1.1 r35.1.1.2.1))) fun (j271 : Bool → Option (Bool × Unit)) =>
 (bif (r35.1.2.1 != (0 : Int)) then
 (j271 true)
 else
 (bif (r35.1.1.2.1 != v4) then
 (j271 true)
 else
 (cl (F12 ((r35.1.1.1, r35.1.1.2.1, ()), ())) fun r36 =>
 (j271 (r36.1.1 != (0 : Int))))))))) fun (j267 : Int → Option (Bool × Unit)) =>
 (ck (rng v2 v0.length)
 (cl (F13 ((v0.getD v2.toNat ((0 : Int), (0 : Int), ())).1, (6 : Int), ())) fun r34 =>
 (bif (r34.1.1 == (5 : Int)) then
 (ck (rng v2 v0.length)
 (ck ((IntKind.u64.wrap (v4 + (1 : Int))) != 0)
 (j267 (IntKind.u64.wrap ((1 : Int) + (Int.tmod ((v0.getD v2.toNat ((0 : Int), (0 : Int), ())).2).1 (IntKind.u64.wrap (v4 + (1 : Int)))))))))
 else
 (j267 v3)))))
 else
 (cl (F12 ((v3, v4, ()), ())) fun r37 =>
 (cl (F10 ((v3, v4, ()), ())) fun r38 =>
 (bif (!((r38.1.2.2.1 == (0 : Int)) == (decide (r37.1.1 > (0 : Int))))) then
 some (false, ())
 else
 (bif (r38.1.2.2.1 != (0 : Int)) then
 (j235 v1 v3 v4)
 else
 (jn (fun (y281_0 : Bool) =>
 (bif y281_0 then
 some (false, ())
 else
 (j236 r38.1.1 r38.1.2.1.1 r38.1.2.1.2.1))) fun (j281 : Bool → Option (Bool × Unit)) =>
 (bif (decide (r38.1.1 ≤ v1)) then
 (j281 true)
 else
 (bif (decide (r38.1.1 > v4)) then
 (j281 true)
 else
 (cl (F12 ((r38.1.2.1.1, r38.1.2.1.2.1, ()), ())) fun r39 =>
 (bif (r39.1.1 != (IntKind.u64.wrap (r37.1.1 - (1 : Int)))) then
 (j281 true)
 else
 (j281 (r38.1.2.1.2.1 != v4))))))))))))) fun (j265 : Bool → Option (Bool × Unit)) =>
 (bif (r32.1.1 == (4 : Int)) then
 (j265 (r32.1.1 == (4 : Int)))
 else
 (j265 (r32.1.1 == (5 : Int))))))))))
 else
 some (true, ())) := by kernel_rfl
theorem l4_506_0_s (F15 : ((Int × (Int × Unit)) × Unit) → Bool × ((Int × Unit) × (Unit × Unit))) (F8 : ((Int × (Int × Unit)) × (Int × Unit)) → Bool × (((Int × (Int × Unit)) × (Int × Unit)) × (Unit × (Unit × Unit)))) (F9 : Unit → Bool × (((Int × (Int × Unit)) × Unit) × Unit)) (F10 : ((Int × (Int × Unit)) × Unit) → Bool × ((Int × ((Int × (Int × Unit)) × (Int × Unit))) × (Unit × Unit))) (F14 : ((Int × (Int × Unit)) × Unit) → Bool × (((Int × (Int × Unit)) × (Int × Unit)) × (Unit × Unit))) (F11 : Unit → Bool × ((Bool × Unit) × Unit)) (F12 : ((Int × (Int × Unit)) × Unit) → Bool × ((Int × Unit) × (Unit × Unit))) (F13 : (Int × (Int × Unit)) → Bool × ((Int × Unit) × (Unit × (Unit × Unit)))) (n k : Nat) (v0 : List (Int × (Int × Unit))) (v1 : Int) (v2 : Int) (v3 : Int) (v4 : Int) : l4_506_0 F15 F8 F9 F10 F14 F11 F12 F13 n (k + 1) v0 v1 v2 v3 v4 =
 (bif (decide (v2 < (v0.length : Int))) then
 (jn (fun (y235_0 : Int) (y235_1 : Int) (y235_2 : Int) =>
 (l4_506_0 F15 F8 F9 F10 F14 F11 F12 F13 n k v0 y235_0 (IntKind.i64.wrap (v2 + (1 : Int))) y235_1 y235_2)) fun (j235 : Int → Int → Int → Option (Bool × Unit)) =>
 (jn (fun (y236_0 : Int) (y236_1 : Int) (y236_2 : Int) =>
 (cl (F15 ((y236_1, y236_2, ()), ())) fun r40 =>
 (bif (r40.1.1 != (0 : Int)) then
 some (false, ())
 else
 (j235 y236_0 y236_1 y236_2)))) fun (j236 : Int → Int → Int → Option (Bool × Unit)) =>
 (ck (rng v2 v0.length)
 (cl (F13 ((v0.getD v2.toNat ((0 : Int), (0 : Int), ())).1, (6 : Int), ())) fun r32 =>
 (bif (r32.1.1 == (3 : Int)) then
 (ck (rng v2 v0.length)
 (cl (F8 ((v3, v4, ()), ((v0.getD v2.toNat ((0 : Int), (0 : Int), ())).2).1, ())) fun r33 =>
 (jn (fun (y259_0 : Bool) =>
 (bif y259_0 then
 some (false, ())
 else
 (bif (r33.1.2.1 == (0 : Int)) then
 (jn (fun (y263_0 : Bool) =>
 (bif y263_0 then
 some (false, ())
 else
 (j236 v1 r33.1.1.1 r33.1.1.2.1))) fun (j263 : Bool → Option (Bool × Unit)) =>
 (bif (r33.1.1.1 != v3) then
 (j263 true)
 else
 (bif (decide (r33.1.1.2.1 ≤ v4)) then
 (j263 true)
 else
 (ck (rng v2 v0.length)
 (j263 (decide ((IntKind.u64.wrap (r33.1.1.2.1 - v4)) > ((v0.getD v2.toNat ((0 : Int), (0 : Int), ())).2).1)))))))
 else
 (j236 v1 v3 v4)))) fun (j259 : Bool → Option (Bool × Unit)) =>
 (ck (rng v2 v0.length)
 (bif (decide (((v0.getD v2.toNat ((0 : Int), (0 : Int), ())).2).1 > (0 : Int))) then
 (j259 (!((r33.1.2.1 == (0 : Int)) == (decide (v4 < (1152921504606846976 : Int))))))
 else
 (j259 (!((r33.1.2.1 == (0 : Int)) == false))))))))
 else
 (jn (fun (y265_0 : Bool) =>
 (bif y265_0 then
 (jn (fun (y267_0 : Int) =>
 (cl (F14 ((y267_0, v4, ()), ())) fun r35 =>
 (jn (fun (y271_0 : Bool) =>
 (bif y271_0 then
 some (false, ())
 else
 (j236 v1 r35.1.1.1 r35.1.1.2.1))) fun (j271 : Bool → Option (Bool × Unit)) =>
 (bif (r35.1.2.1 != (0 : Int)) then
 (j271 true)
 else
 (bif (r35.1.1.2.1 != v4) then
 (j271 true)
 else
 (cl (F12 ((r35.1.1.1, r35.1.1.2.1, ()), ())) fun r36 =>
 (j271 (r36.1.1 != (0 : Int))))))))) fun (j267 : Int → Option (Bool × Unit)) =>
 (ck (rng v2 v0.length)
 (cl (F13 ((v0.getD v2.toNat ((0 : Int), (0 : Int), ())).1, (6 : Int), ())) fun r34 =>
 (bif (r34.1.1 == (5 : Int)) then
 (ck (rng v2 v0.length)
 (ck ((IntKind.u64.wrap (v4 + (1 : Int))) != 0)
 (j267 (IntKind.u64.wrap ((1 : Int) + (Int.tmod ((v0.getD v2.toNat ((0 : Int), (0 : Int), ())).2).1 (IntKind.u64.wrap (v4 + (1 : Int)))))))))
 else
 (j267 v3)))))
 else
 (cl (F12 ((v3, v4, ()), ())) fun r37 =>
 (cl (F10 ((v3, v4, ()), ())) fun r38 =>
 (bif (!((r38.1.2.2.1 == (0 : Int)) == (decide (r37.1.1 > (0 : Int))))) then
 some (false, ())
 else
 (bif (r38.1.2.2.1 != (0 : Int)) then
 (j235 v1 v3 v4)
 else
 (jn (fun (y281_0 : Bool) =>
 (bif y281_0 then
 some (false, ())
 else
 (j236 r38.1.1 r38.1.2.1.1 r38.1.2.1.2.1))) fun (j281 : Bool → Option (Bool × Unit)) =>
 (bif (decide (r38.1.1 ≤ v1)) then
 (j281 true)
 else
 (bif (decide (r38.1.1 > v4)) then
 (j281 true)
 else
 (cl (F12 ((r38.1.2.1.1, r38.1.2.1.2.1, ()), ())) fun r39 =>
 (bif (r39.1.1 != (IntKind.u64.wrap (r37.1.1 - (1 : Int)))) then
 (j281 true)
 else
 (j281 (r38.1.2.1.2.1 != v4))))))))))))) fun (j265 : Bool → Option (Bool × Unit)) =>
 (bif (r32.1.1 == (4 : Int)) then
 (j265 (r32.1.1 == (4 : Int)))
 else
 (j265 (r32.1.1 == (5 : Int))))))))))
 else
 some (true, ())) := by
  have h := l4_506_0_s' F15 F8 F9 F10 F14 F11 F12 F13 n k v0 v1 v2 v3 v4
  rw [l4_506_0_e] at h
  exact h
theorem l4_506_0_z' (F15 : ((Int × (Int × Unit)) × Unit) → Bool × ((Int × Unit) × (Unit × Unit))) (F8 : ((Int × (Int × Unit)) × (Int × Unit)) → Bool × (((Int × (Int × Unit)) × (Int × Unit)) × (Unit × (Unit × Unit)))) (F9 : Unit → Bool × (((Int × (Int × Unit)) × Unit) × Unit)) (F10 : ((Int × (Int × Unit)) × Unit) → Bool × ((Int × ((Int × (Int × Unit)) × (Int × Unit))) × (Unit × Unit))) (F14 : ((Int × (Int × Unit)) × Unit) → Bool × (((Int × (Int × Unit)) × (Int × Unit)) × (Unit × Unit))) (F11 : Unit → Bool × ((Bool × Unit) × Unit)) (F12 : ((Int × (Int × Unit)) × Unit) → Bool × ((Int × Unit) × (Unit × Unit))) (F13 : (Int × (Int × Unit)) → Bool × ((Int × Unit) × (Unit × (Unit × Unit)))) (n : Nat) (v0 : List (Int × (Int × Unit))) (v1 : Int) (v2 : Int) (v3 : Int) (v4 : Int) : l4_506_0' F15 F8 F9 F10 F14 F11 F12 F13 n 0 v0 v1 v2 v3 v4 =
 none := by kernel_rfl
theorem l4_506_0_z (F15 : ((Int × (Int × Unit)) × Unit) → Bool × ((Int × Unit) × (Unit × Unit))) (F8 : ((Int × (Int × Unit)) × (Int × Unit)) → Bool × (((Int × (Int × Unit)) × (Int × Unit)) × (Unit × (Unit × Unit)))) (F9 : Unit → Bool × (((Int × (Int × Unit)) × Unit) × Unit)) (F10 : ((Int × (Int × Unit)) × Unit) → Bool × ((Int × ((Int × (Int × Unit)) × (Int × Unit))) × (Unit × Unit))) (F14 : ((Int × (Int × Unit)) × Unit) → Bool × (((Int × (Int × Unit)) × (Int × Unit)) × (Unit × Unit))) (F11 : Unit → Bool × ((Bool × Unit) × Unit)) (F12 : ((Int × (Int × Unit)) × Unit) → Bool × ((Int × Unit) × (Unit × Unit))) (F13 : (Int × (Int × Unit)) → Bool × ((Int × Unit) × (Unit × (Unit × Unit)))) (n : Nat) (v0 : List (Int × (Int × Unit))) (v1 : Int) (v2 : Int) (v3 : Int) (v4 : Int) : l4_506_0 F15 F8 F9 F10 F14 F11 F12 F13 n 0 v0 v1 v2 v3 v4 =
 none := by
  have h := l4_506_0_z' F15 F8 F9 F10 F14 F11 F12 F13 n v0 v1 v2 v3 v4
  rw [l4_506_0_e] at h
  exact h
theorem eq4' (F15 : ((Int × (Int × Unit)) × Unit) → Bool × ((Int × Unit) × (Unit × Unit))) (F8 : ((Int × (Int × Unit)) × (Int × Unit)) → Bool × (((Int × (Int × Unit)) × (Int × Unit)) × (Unit × (Unit × Unit)))) (F9 : Unit → Bool × (((Int × (Int × Unit)) × Unit) × Unit)) (F10 : ((Int × (Int × Unit)) × Unit) → Bool × ((Int × ((Int × (Int × Unit)) × (Int × Unit))) × (Unit × Unit))) (F14 : ((Int × (Int × Unit)) × Unit) → Bool × (((Int × (Int × Unit)) × (Int × Unit)) × (Unit × Unit))) (F11 : Unit → Bool × ((Bool × Unit) × Unit)) (F12 : ((Int × (Int × Unit)) × Unit) → Bool × ((Int × Unit) × (Unit × Unit))) (F13 : (Int × (Int × Unit)) → Bool × ((Int × Unit) × (Unit × (Unit × Unit)))) (n : Nat) (x0 : (List (Int × (Int × Unit)))) : runD (cx4 F15 F8 F9 F10 F14 F11 F12 F13 n) (fnOf 4) (body 4) K4a K4o (x0, ()) =
 (cl (F11 ()) fun r30 =>
 (bif (!r30.1.1) then
 some (false, ())
 else
 (bif (decide ((x0.length : Int) > (100 : Int))) then
 some (true, ())
 else
 (cl (F9 ()) fun r31 =>
 (l4_506_0' F15 F8 F9 F10 F14 F11 F12 F13 n n x0 (0 : Int) (0 : Int) r31.1.1.1 r31.1.1.2.1))))) := by kernel_rfl
theorem eq4 (F15 : ((Int × (Int × Unit)) × Unit) → Bool × ((Int × Unit) × (Unit × Unit))) (F8 : ((Int × (Int × Unit)) × (Int × Unit)) → Bool × (((Int × (Int × Unit)) × (Int × Unit)) × (Unit × (Unit × Unit)))) (F9 : Unit → Bool × (((Int × (Int × Unit)) × Unit) × Unit)) (F10 : ((Int × (Int × Unit)) × Unit) → Bool × ((Int × ((Int × (Int × Unit)) × (Int × Unit))) × (Unit × Unit))) (F14 : ((Int × (Int × Unit)) × Unit) → Bool × (((Int × (Int × Unit)) × (Int × Unit)) × (Unit × Unit))) (F11 : Unit → Bool × ((Bool × Unit) × Unit)) (F12 : ((Int × (Int × Unit)) × Unit) → Bool × ((Int × Unit) × (Unit × Unit))) (F13 : (Int × (Int × Unit)) → Bool × ((Int × Unit) × (Unit × (Unit × Unit)))) (n : Nat) (x0 : (List (Int × (Int × Unit)))) : runD (cx4 F15 F8 F9 F10 F14 F11 F12 F13 n) (fnOf 4) (body 4) K4a K4o (x0, ()) =
 (cl (F11 ()) fun r30 =>
 (bif (!r30.1.1) then
 some (false, ())
 else
 (bif (decide ((x0.length : Int) > (100 : Int))) then
 some (true, ())
 else
 (cl (F9 ()) fun r31 =>
 (l4_506_0 F15 F8 F9 F10 F14 F11 F12 F13 n n x0 (0 : Int) (0 : Int) r31.1.1.1 r31.1.1.2.1))))) := by
  have h := eq4' F15 F8 F9 F10 F14 F11 F12 F13 n x0
  rw [l4_506_0_e] at h
  exact h

theorem called4 {w : World} {vs : List Value} {x : K4a.T} (hrun : ∀ x, K4a.ok x → ∃ n, runD (cx4 G15 G8 G9 G10 G14 G11 G12 G13 n) (fnOf 4) (body 4) K4a K4o x = some (true, ())) (h : KVs (fun b => b < w.heap.size) w K4a x vs) : Calls Try.prog 4 vs.toArray w fun e w' => e = .returned (.bool true) ∧ Go.RowKit.Below w.heap.size w w' :=
  law_ok (fun n => cx4 G15 G8 G9 G10 G14 G11 G12 G13 n) (fun _ => (SpecOK.addV (SpecOK.addV (SpecOK.addV (SpecOK.addV (SpecOK.addV (SpecOK.addV (SpecOK.addV (SpecOK.addV SpecOK.none fok15) fok8) fok9) fok10) fok14) fok11) fok12) fok13)) (fun _ => mixed) (fun _ => noG_ok) (fun _ => rfl) (by kernel_rfl) (by kernel_rfl) (by kernel_rfl) (by kernel_rfl) hrun (fun _ _ _ h => by cases h) h

/-- drawbridgelaw06.LeaseAdds -/
@[reducible] def K5a : Kd := (.cons (.cons (.int .u64) (.cons (.int .u64) .nil)) (.cons (.int .u64) (.cons (.int .u64) (.cons (.int .i64) .nil))))
@[reducible] def K5o : Kd := .cons .bool .nil
noncomputable def cx5 (F15 : ((Int × (Int × Unit)) × Unit) → Bool × ((Int × Unit) × (Unit × Unit))) (F8 : ((Int × (Int × Unit)) × (Int × Unit)) → Bool × (((Int × (Int × Unit)) × (Int × Unit)) × (Unit × (Unit × Unit)))) (F9 : Unit → Bool × (((Int × (Int × Unit)) × Unit) × Unit)) (F10 : ((Int × (Int × Unit)) × Unit) → Bool × ((Int × ((Int × (Int × Unit)) × (Int × Unit))) × (Unit × Unit))) (F11 : Unit → Bool × ((Bool × Unit) × Unit)) (F12 : ((Int × (Int × Unit)) × Unit) → Bool × ((Int × Unit) × (Unit × Unit))) (F13 : (Int × (Int × Unit)) → Bool × ((Int × Unit) × (Unit × (Unit × Unit)))) (n : Nat) : Cx := { S := (addV (addV (addV (addV (addV (addV (addV noS 15 (fnM M15a M15o F15)) 8 (fnM M8a M8o F8)) 9 (fnM M9a M9o F9)) 10 (fnM M10a M10o F10)) 11 (fnM M11a M11o F11)) 12 (fnM M12a M12o F12)) 13 (fnM M13a M13o F13)), P := Try.prog, gl := noG, hint := [(8186, [3, 15, 16])], pin := [], nin := 0, fuel := n }
noncomputable def l5_8186_0' (F15 : ((Int × (Int × Unit)) × Unit) → Bool × ((Int × Unit) × (Unit × Unit))) (F8 : ((Int × (Int × Unit)) × (Int × Unit)) → Bool × (((Int × (Int × Unit)) × (Int × Unit)) × (Unit × (Unit × Unit)))) (F9 : Unit → Bool × (((Int × (Int × Unit)) × Unit) × Unit)) (F10 : ((Int × (Int × Unit)) × Unit) → Bool × ((Int × ((Int × (Int × Unit)) × (Int × Unit))) × (Unit × Unit))) (F11 : Unit → Bool × ((Bool × Unit) × Unit)) (F12 : ((Int × (Int × Unit)) × Unit) → Bool × ((Int × Unit) × (Unit × Unit))) (F13 : (Int × (Int × Unit)) → Bool × ((Int × Unit) × (Unit × (Unit × Unit)))) (n k : Nat) (v0 : Int) (v1 : Int) (v2 : Int) (v3 : Int) : Option (Bool × Unit) :=
  loopAt (cx5 F15 F8 F9 F10 F11 F12 F13 n) (body 5) (bits 8186) [] k { tm := [(3, .int .i64 v0), (15, .ptr 0 0 []), (16, .int .i64 v1)], hp := [(0, some (.box (.cons (.int .u64 v2) (.cons (.int .u64 v3) (.nil)))))], nx := 1 } (finish Try.prog (fnOf 5) K5o)
noncomputable def l5_8186_0 : (((Int × (Int × Unit)) × Unit) → Bool × ((Int × Unit) × (Unit × Unit))) → (((Int × (Int × Unit)) × (Int × Unit)) → Bool × (((Int × (Int × Unit)) × (Int × Unit)) × (Unit × (Unit × Unit)))) → (Unit → Bool × (((Int × (Int × Unit)) × Unit) × Unit)) → (((Int × (Int × Unit)) × Unit) → Bool × ((Int × ((Int × (Int × Unit)) × (Int × Unit))) × (Unit × Unit))) → (Unit → Bool × ((Bool × Unit) × Unit)) → (((Int × (Int × Unit)) × Unit) → Bool × ((Int × Unit) × (Unit × Unit))) → ((Int × (Int × Unit)) → Bool × ((Int × Unit) × (Unit × (Unit × Unit)))) → Nat → Nat → Int → Int → Int → Int → Option (Bool × Unit) := (sealed l5_8186_0').1
theorem l5_8186_0_e : l5_8186_0' = l5_8186_0 := (sealed l5_8186_0').2.symm
theorem l5_8186_0_s' (F15 : ((Int × (Int × Unit)) × Unit) → Bool × ((Int × Unit) × (Unit × Unit))) (F8 : ((Int × (Int × Unit)) × (Int × Unit)) → Bool × (((Int × (Int × Unit)) × (Int × Unit)) × (Unit × (Unit × Unit)))) (F9 : Unit → Bool × (((Int × (Int × Unit)) × Unit) × Unit)) (F10 : ((Int × (Int × Unit)) × Unit) → Bool × ((Int × ((Int × (Int × Unit)) × (Int × Unit))) × (Unit × Unit))) (F11 : Unit → Bool × ((Bool × Unit) × Unit)) (F12 : ((Int × (Int × Unit)) × Unit) → Bool × ((Int × Unit) × (Unit × Unit))) (F13 : (Int × (Int × Unit)) → Bool × ((Int × Unit) × (Unit × (Unit × Unit)))) (n k : Nat) (v0 : Int) (v1 : Int) (v2 : Int) (v3 : Int) : l5_8186_0' F15 F8 F9 F10 F11 F12 F13 n (k + 1) v0 v1 v2 v3 =
 (bif (decide (v1 ≤ v0)) then
 (cl (F10 ((v2, v3, ()), ())) fun r50 =>
 (jn (fun (y312_0 : Bool) =>
 (bif y312_0 then
 some (false, ())
 else
 (l5_8186_0' F15 F8 F9 F10 F11 F12 F13 n k v0 (IntKind.i64.wrap (v1 + (1 : Int))) r50.1.2.1.1 r50.1.2.1.2.1))) fun (j312 : Bool → Option (Bool × Unit)) =>
 (bif (r50.1.2.2.1 != (0 : Int)) then
 (j312 true)
 else
 (bif (r50.1.1 != (IntKind.u64.wrap v1)) then
 (j312 true)
 else
 (cl (F12 ((r50.1.2.1.1, r50.1.2.1.2.1, ()), ())) fun r51 =>
 (j312 (r51.1.1 != (IntKind.u64.wrap (IntKind.i64.wrap (v0 - v1))))))))))
 else
 (cl (F10 ((v2, v3, ()), ())) fun r49 =>
 some ((r49.1.2.2.1 == (6 : Int)), ()))) := by kernel_rfl
theorem l5_8186_0_s (F15 : ((Int × (Int × Unit)) × Unit) → Bool × ((Int × Unit) × (Unit × Unit))) (F8 : ((Int × (Int × Unit)) × (Int × Unit)) → Bool × (((Int × (Int × Unit)) × (Int × Unit)) × (Unit × (Unit × Unit)))) (F9 : Unit → Bool × (((Int × (Int × Unit)) × Unit) × Unit)) (F10 : ((Int × (Int × Unit)) × Unit) → Bool × ((Int × ((Int × (Int × Unit)) × (Int × Unit))) × (Unit × Unit))) (F11 : Unit → Bool × ((Bool × Unit) × Unit)) (F12 : ((Int × (Int × Unit)) × Unit) → Bool × ((Int × Unit) × (Unit × Unit))) (F13 : (Int × (Int × Unit)) → Bool × ((Int × Unit) × (Unit × (Unit × Unit)))) (n k : Nat) (v0 : Int) (v1 : Int) (v2 : Int) (v3 : Int) : l5_8186_0 F15 F8 F9 F10 F11 F12 F13 n (k + 1) v0 v1 v2 v3 =
 (bif (decide (v1 ≤ v0)) then
 (cl (F10 ((v2, v3, ()), ())) fun r50 =>
 (jn (fun (y312_0 : Bool) =>
 (bif y312_0 then
 some (false, ())
 else
 (l5_8186_0 F15 F8 F9 F10 F11 F12 F13 n k v0 (IntKind.i64.wrap (v1 + (1 : Int))) r50.1.2.1.1 r50.1.2.1.2.1))) fun (j312 : Bool → Option (Bool × Unit)) =>
 (bif (r50.1.2.2.1 != (0 : Int)) then
 (j312 true)
 else
 (bif (r50.1.1 != (IntKind.u64.wrap v1)) then
 (j312 true)
 else
 (cl (F12 ((r50.1.2.1.1, r50.1.2.1.2.1, ()), ())) fun r51 =>
 (j312 (r51.1.1 != (IntKind.u64.wrap (IntKind.i64.wrap (v0 - v1))))))))))
 else
 (cl (F10 ((v2, v3, ()), ())) fun r49 =>
 some ((r49.1.2.2.1 == (6 : Int)), ()))) := by
  have h := l5_8186_0_s' F15 F8 F9 F10 F11 F12 F13 n k v0 v1 v2 v3
  rw [l5_8186_0_e] at h
  exact h
theorem l5_8186_0_z' (F15 : ((Int × (Int × Unit)) × Unit) → Bool × ((Int × Unit) × (Unit × Unit))) (F8 : ((Int × (Int × Unit)) × (Int × Unit)) → Bool × (((Int × (Int × Unit)) × (Int × Unit)) × (Unit × (Unit × Unit)))) (F9 : Unit → Bool × (((Int × (Int × Unit)) × Unit) × Unit)) (F10 : ((Int × (Int × Unit)) × Unit) → Bool × ((Int × ((Int × (Int × Unit)) × (Int × Unit))) × (Unit × Unit))) (F11 : Unit → Bool × ((Bool × Unit) × Unit)) (F12 : ((Int × (Int × Unit)) × Unit) → Bool × ((Int × Unit) × (Unit × Unit))) (F13 : (Int × (Int × Unit)) → Bool × ((Int × Unit) × (Unit × (Unit × Unit)))) (n : Nat) (v0 : Int) (v1 : Int) (v2 : Int) (v3 : Int) : l5_8186_0' F15 F8 F9 F10 F11 F12 F13 n 0 v0 v1 v2 v3 =
 none := by kernel_rfl
theorem l5_8186_0_z (F15 : ((Int × (Int × Unit)) × Unit) → Bool × ((Int × Unit) × (Unit × Unit))) (F8 : ((Int × (Int × Unit)) × (Int × Unit)) → Bool × (((Int × (Int × Unit)) × (Int × Unit)) × (Unit × (Unit × Unit)))) (F9 : Unit → Bool × (((Int × (Int × Unit)) × Unit) × Unit)) (F10 : ((Int × (Int × Unit)) × Unit) → Bool × ((Int × ((Int × (Int × Unit)) × (Int × Unit))) × (Unit × Unit))) (F11 : Unit → Bool × ((Bool × Unit) × Unit)) (F12 : ((Int × (Int × Unit)) × Unit) → Bool × ((Int × Unit) × (Unit × Unit))) (F13 : (Int × (Int × Unit)) → Bool × ((Int × Unit) × (Unit × (Unit × Unit)))) (n : Nat) (v0 : Int) (v1 : Int) (v2 : Int) (v3 : Int) : l5_8186_0 F15 F8 F9 F10 F11 F12 F13 n 0 v0 v1 v2 v3 =
 none := by
  have h := l5_8186_0_z' F15 F8 F9 F10 F11 F12 F13 n v0 v1 v2 v3
  rw [l5_8186_0_e] at h
  exact h
theorem eq5' (F15 : ((Int × (Int × Unit)) × Unit) → Bool × ((Int × Unit) × (Unit × Unit))) (F8 : ((Int × (Int × Unit)) × (Int × Unit)) → Bool × (((Int × (Int × Unit)) × (Int × Unit)) × (Unit × (Unit × Unit)))) (F9 : Unit → Bool × (((Int × (Int × Unit)) × Unit) × Unit)) (F10 : ((Int × (Int × Unit)) × Unit) → Bool × ((Int × ((Int × (Int × Unit)) × (Int × Unit))) × (Unit × Unit))) (F11 : Unit → Bool × ((Bool × Unit) × Unit)) (F12 : ((Int × (Int × Unit)) × Unit) → Bool × ((Int × Unit) × (Unit × Unit))) (F13 : (Int × (Int × Unit)) → Bool × ((Int × Unit) × (Unit × (Unit × Unit)))) (n : Nat) (x0 : Int) (x1 : Int) (x2 : Int) (x3 : Int) (x4 : Int) : runD (cx5 F15 F8 F9 F10 F11 F12 F13 n) (fnOf 5) (body 5) K5a K5o ((x0, x1, ()), x2, x3, x4, ()) =
 (cl (F11 ()) fun r41 =>
 (bif (!r41.1.1) then
 some (false, ())
 else
 (cl (F13 (x4, (200 : Int), ())) fun r42 =>
 (cl (F8 ((x0, x1, ()), (IntKind.u64.wrap ((1 : Int) + (Int.tmod x2 (576460752303423488 : Int)))), ())) fun r43 =>
 (cl (F8 ((x0, x1, ()), (IntKind.u64.wrap ((IntKind.u64.wrap ((1 : Int) + (Int.tmod x2 (576460752303423488 : Int)))) + (IntKind.u64.wrap ((1 : Int) + (Int.tmod x3 (576460752303423488 : Int)))))), ())) fun r44 =>
 (jn ((cl (F9 ()) fun r47 =>
 (jn (fun (y301_0 : Int) (y301_1 : Int) =>
 (l5_8186_0' F15 F8 F9 F10 F11 F12 F13 n n r42.1.1 (1 : Int) y301_0 y301_1)) fun (j301 : Int → Int → Option (Bool × Unit)) =>
 (bif (decide (r42.1.1 > (0 : Int))) then
 (cl (F8 ((r47.1.1.1, r47.1.1.2.1, ()), (IntKind.u64.wrap r42.1.1), ())) fun r48 =>
 (j301 r48.1.1.1 r48.1.1.2.1))
 else
 (j301 r47.1.1.1 r47.1.1.2.1))))) fun (j293 : Option (Bool × Unit)) =>
 (bif (r43.1.2.1 == (0 : Int)) then
 (cl (F8 ((r43.1.1.1, r43.1.1.2.1, ()), (IntKind.u64.wrap ((1 : Int) + (Int.tmod x3 (576460752303423488 : Int)))), ())) fun r45 =>
 (jn (fun (y296_0 : Bool) =>
 (bif y296_0 then
 some (false, ())
 else
 j293)) fun (j296 : Bool → Option (Bool × Unit)) =>
 (bif (r44.1.2.1 != (0 : Int)) then
 (j296 true)
 else
 (bif (r45.1.2.1 == (0 : Int)) then
 (bif (!((r45.1.1.1 == r44.1.1.1) && ((r45.1.1.2.1 == r44.1.1.2.1) && true))) then
 (j296 true)
 else
 (bif (r45.1.2.1 != (0 : Int)) then
 (bif (r45.1.2.1 != (9 : Int)) then
 (j296 true)
 else
 (j296 (!((r43.1.1.1 == r44.1.1.1) && ((r43.1.1.2.1 == r44.1.1.2.1) && true)))))
 else
 (j296 false)))
 else
 (bif (r45.1.2.1 != (0 : Int)) then
 (bif (r45.1.2.1 != (9 : Int)) then
 (j296 true)
 else
 (j296 (!((r43.1.1.1 == r44.1.1.1) && ((r43.1.1.2.1 == r44.1.1.2.1) && true)))))
 else
 (j296 false))))))
 else
 (jn (fun (y298_0 : Bool) =>
 (bif y298_0 then
 some (false, ())
 else
 j293)) fun (j298 : Bool → Option (Bool × Unit)) =>
 (bif (r43.1.2.1 != r44.1.2.1) then
 (j298 true)
 else
 (cl (F15 ((x0, x1, ()), ())) fun r46 =>
 (bif (r46.1.1 == (0 : Int)) then
 (j298 (x1 != (1152921504606846976 : Int)))
 else
 (j298 false)))))))))))) := by kernel_rfl
theorem eq5 (F15 : ((Int × (Int × Unit)) × Unit) → Bool × ((Int × Unit) × (Unit × Unit))) (F8 : ((Int × (Int × Unit)) × (Int × Unit)) → Bool × (((Int × (Int × Unit)) × (Int × Unit)) × (Unit × (Unit × Unit)))) (F9 : Unit → Bool × (((Int × (Int × Unit)) × Unit) × Unit)) (F10 : ((Int × (Int × Unit)) × Unit) → Bool × ((Int × ((Int × (Int × Unit)) × (Int × Unit))) × (Unit × Unit))) (F11 : Unit → Bool × ((Bool × Unit) × Unit)) (F12 : ((Int × (Int × Unit)) × Unit) → Bool × ((Int × Unit) × (Unit × Unit))) (F13 : (Int × (Int × Unit)) → Bool × ((Int × Unit) × (Unit × (Unit × Unit)))) (n : Nat) (x0 : Int) (x1 : Int) (x2 : Int) (x3 : Int) (x4 : Int) : runD (cx5 F15 F8 F9 F10 F11 F12 F13 n) (fnOf 5) (body 5) K5a K5o ((x0, x1, ()), x2, x3, x4, ()) =
 (cl (F11 ()) fun r41 =>
 (bif (!r41.1.1) then
 some (false, ())
 else
 (cl (F13 (x4, (200 : Int), ())) fun r42 =>
 (cl (F8 ((x0, x1, ()), (IntKind.u64.wrap ((1 : Int) + (Int.tmod x2 (576460752303423488 : Int)))), ())) fun r43 =>
 (cl (F8 ((x0, x1, ()), (IntKind.u64.wrap ((IntKind.u64.wrap ((1 : Int) + (Int.tmod x2 (576460752303423488 : Int)))) + (IntKind.u64.wrap ((1 : Int) + (Int.tmod x3 (576460752303423488 : Int)))))), ())) fun r44 =>
 (jn ((cl (F9 ()) fun r47 =>
 (jn (fun (y301_0 : Int) (y301_1 : Int) =>
 (l5_8186_0 F15 F8 F9 F10 F11 F12 F13 n n r42.1.1 (1 : Int) y301_0 y301_1)) fun (j301 : Int → Int → Option (Bool × Unit)) =>
 (bif (decide (r42.1.1 > (0 : Int))) then
 (cl (F8 ((r47.1.1.1, r47.1.1.2.1, ()), (IntKind.u64.wrap r42.1.1), ())) fun r48 =>
 (j301 r48.1.1.1 r48.1.1.2.1))
 else
 (j301 r47.1.1.1 r47.1.1.2.1))))) fun (j293 : Option (Bool × Unit)) =>
 (bif (r43.1.2.1 == (0 : Int)) then
 (cl (F8 ((r43.1.1.1, r43.1.1.2.1, ()), (IntKind.u64.wrap ((1 : Int) + (Int.tmod x3 (576460752303423488 : Int)))), ())) fun r45 =>
 (jn (fun (y296_0 : Bool) =>
 (bif y296_0 then
 some (false, ())
 else
 j293)) fun (j296 : Bool → Option (Bool × Unit)) =>
 (bif (r44.1.2.1 != (0 : Int)) then
 (j296 true)
 else
 (bif (r45.1.2.1 == (0 : Int)) then
 (bif (!((r45.1.1.1 == r44.1.1.1) && ((r45.1.1.2.1 == r44.1.1.2.1) && true))) then
 (j296 true)
 else
 (bif (r45.1.2.1 != (0 : Int)) then
 (bif (r45.1.2.1 != (9 : Int)) then
 (j296 true)
 else
 (j296 (!((r43.1.1.1 == r44.1.1.1) && ((r43.1.1.2.1 == r44.1.1.2.1) && true)))))
 else
 (j296 false)))
 else
 (bif (r45.1.2.1 != (0 : Int)) then
 (bif (r45.1.2.1 != (9 : Int)) then
 (j296 true)
 else
 (j296 (!((r43.1.1.1 == r44.1.1.1) && ((r43.1.1.2.1 == r44.1.1.2.1) && true)))))
 else
 (j296 false))))))
 else
 (jn (fun (y298_0 : Bool) =>
 (bif y298_0 then
 some (false, ())
 else
 j293)) fun (j298 : Bool → Option (Bool × Unit)) =>
 (bif (r43.1.2.1 != r44.1.2.1) then
 (j298 true)
 else
 (cl (F15 ((x0, x1, ()), ())) fun r46 =>
 (bif (r46.1.1 == (0 : Int)) then
 (j298 (x1 != (1152921504606846976 : Int)))
 else
 (j298 false)))))))))))) := by
  have h := eq5' F15 F8 F9 F10 F11 F12 F13 n x0 x1 x2 x3 x4
  rw [l5_8186_0_e] at h
  exact h

theorem called5 {w : World} {vs : List Value} {x : K5a.T} (hrun : ∀ x, K5a.ok x → ∃ n, runD (cx5 G15 G8 G9 G10 G11 G12 G13 n) (fnOf 5) (body 5) K5a K5o x = some (true, ())) (h : KVs (fun b => b < w.heap.size) w K5a x vs) : Calls Try.prog 5 vs.toArray w fun e w' => e = .returned (.bool true) ∧ Go.RowKit.Below w.heap.size w w' :=
  law_ok (fun n => cx5 G15 G8 G9 G10 G11 G12 G13 n) (fun _ => (SpecOK.addV (SpecOK.addV (SpecOK.addV (SpecOK.addV (SpecOK.addV (SpecOK.addV (SpecOK.addV SpecOK.none fok15) fok8) fok9) fok10) fok11) fok12) fok13)) (fun _ => mixed) (fun _ => noG_ok) (fun _ => rfl) (by kernel_rfl) (by kernel_rfl) (by kernel_rfl) (by kernel_rfl) hrun (fun _ _ _ h => by cases h) h

end Go.Proofs.Ytbeamkhigbhogaa.Ae
