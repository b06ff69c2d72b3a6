/- Functions of the program, each as the evaluator reads it: a tree of cases. Printed by gen.py. -/
import Derived.Test.YtloohkifibfdiaaAe24
import Derived.Test.YtloohkifibfdiaaProg
set_option linter.unusedVariables false
set_option maxRecDepth 100000
namespace Go.Proofs.Ytloohkifibfdiaa.Ae
open Go
noncomputable def body (f : Nat) : Code := ((Try.prog.funcs[f]?).bind (·.body)).getD .skip
noncomputable def fnOf (f : Nat) : Func := (Try.prog.funcs[f]?).getD default
theorem mixed : (Try.prog).follows .mixedOrders = true := by kernel_rfl

/-- (detect.watch).ok -/
@[reducible] def K33a : Kd := (.cons (.cons (.int .i64) (.cons (.int .i64) (.cons (.int .i64) (.cons (.int .i64) .nil)))) .nil)
@[reducible] def K33o : Kd := (.cons .bool .nil)
noncomputable def cx33 (n : Nat) : Cx := { S := noS, P := Try.prog, gl := noG, hint := [], nin := 0, fuel := n }
def raw33 (x : K33a.T) : Option K33o.T :=
(bif (decide (x.1.2.1 ≥ (2 : Int))) then
(bif (decide (x.1.2.1 ≤ (1024 : Int))) then
(bif (decide (x.1.2.2.1 ≥ (1 : Int))) then
(bif (decide (x.1.2.2.1 < x.1.2.1)) then
(bif (decide (x.1.1 ≥ (0 : Int))) then
(bif (decide (x.1.1 ≤ x.1.2.1)) then
(bif (decide (x.1.2.2.2.1 ≥ (0 : Int))) then
 some ((decide (x.1.2.2.2.1 ≤ x.1.2.2.1)), ())
 else
 some (false, ()))
 else
 some (false, ()))
 else
 some (false, ()))
 else
 some (false, ()))
 else
 some (false, ()))
 else
 some (false, ()))
 else
 some (false, ()))
theorem eq33 (n : Nat) (x : K33a.T) : runD (cx33 n) (fnOf 33) (body 33) K33a K33o x = raw33 x := by kernel_rfl
theorem ok33 : FnOK Try.prog noG 33 (fnS K33a K33o (toF (raw33))) :=
  fn_sound (cx33 0) SpecOK.none mixed noG_ok (by kernel_rfl) (by kernel_rfl) (by kernel_rfl) (by kernel_rfl) (by kernel_rfl) (toF_run fun x => ⟨0, eq33 0 x⟩)
noncomputable def G33 : K33a.T → Bool × K33o.T := toF (raw33)
theorem fok33 : FnOK Try.prog noG 33 (fnS K33a K33o G33) := ok33

/-- detect.Check -/
@[reducible] def K17a : Kd := (.cons (.cons (.int .i64) (.cons (.int .i64) (.cons (.int .i64) (.cons (.int .i64) .nil)))) .nil)
@[reducible] def K17o : Kd := (.cons (.int .i64) .nil)
noncomputable def cx17 (F33 : K33a.T → Bool × K33o.T) (n : Nat) : Cx := { S := (addS noS 33 (fnS K33a K33o F33)), P := Try.prog, gl := noG, hint := [], nin := 0, fuel := n }
def raw17 (F33 : K33a.T → Bool × K33o.T) (x : K17a.T) : Option K17o.T :=
(bif (F33 (x.1, ())).1 then
(bif (!(F33 (x.1, ())).2.1) then
 some ((2 : Int), ())
 else
 some ((0 : Int), ()))
 else none)
theorem eq17 (F33 : K33a.T → Bool × K33o.T) (n : Nat) (x : K17a.T) : runD (cx17 F33 n) (fnOf 17) (body 17) K17a K17o x = raw17 F33 x := by kernel_rfl
theorem ok17 (F33 : K33a.T → Bool × K33o.T) (h33 : FnOK Try.prog noG 33 (fnS K33a K33o F33)) : FnOK Try.prog noG 17 (fnS K17a K17o (toF (raw17 F33))) :=
  fn_sound (cx17 F33 0) (SpecOK.add SpecOK.none h33) mixed noG_ok (by kernel_rfl) (by kernel_rfl) (by kernel_rfl) (by kernel_rfl) (by kernel_rfl) (toF_run fun x => ⟨0, eq17 F33 0 x⟩)
noncomputable def G17 : K17a.T → Bool × K17o.T := toF (raw17 G33)
theorem fok17 : FnOK Try.prog noG 17 (fnS K17a K17o G17) := ok17 G33 fok33

/-- detect.New -/
@[reducible] def K11a : Kd := (.cons (.int .i64) (.cons (.int .i64) .nil))
@[reducible] def K11o : Kd := (.cons (.cons (.int .i64) (.cons (.int .i64) (.cons (.int .i64) (.cons (.int .i64) .nil)))) (.cons (.int .i64) .nil))
noncomputable def cx11 (F17 : K17a.T → Bool × K17o.T) (n : Nat) : Cx := { S := (addS noS 17 (fnS K17a K17o F17)), P := Try.prog, gl := noG, hint := [], nin := 0, fuel := n }
def raw11 (F17 : K17a.T → Bool × K17o.T) (x : K11a.T) : Option K11o.T :=
(bif (F17 (((0 : Int), (x.1, (x.2.1, (x.2.1, ())))), ())).1 then
(bif ((F17 (((0 : Int), (x.1, (x.2.1, (x.2.1, ())))), ())).2.1 != (0 : Int)) then
 some (((0 : Int), ((0 : Int), ((0 : Int), ((0 : Int), ())))), ((F17 (((0 : Int), (x.1, (x.2.1, (x.2.1, ())))), ())).2.1, ()))
 else
 some (((0 : Int), (x.1, (x.2.1, (x.2.1, ())))), ((0 : Int), ())))
 else none)
theorem eq11 (F17 : K17a.T → Bool × K17o.T) (n : Nat) (x : K11a.T) : runD (cx11 F17 n) (fnOf 11) (body 11) K11a K11o x = raw11 F17 x := by kernel_rfl
theorem ok11 (F17 : K17a.T → Bool × K17o.T) (h17 : FnOK Try.prog noG 17 (fnS K17a K17o F17)) : FnOK Try.prog noG 11 (fnS K11a K11o (toF (raw11 F17))) :=
  fn_sound (cx11 F17 0) (SpecOK.add SpecOK.none h17) mixed noG_ok (by kernel_rfl) (by kernel_rfl) (by kernel_rfl) (by kernel_rfl) (by kernel_rfl) (toF_run fun x => ⟨0, eq11 F17 0 x⟩)
noncomputable def G11 : K11a.T → Bool × K11o.T := toF (raw11 G17)
theorem fok11 : FnOK Try.prog noG 11 (fnS K11a K11o G11) := ok11 G17 fok17

/-- detect.Due -/
@[reducible] def K19a : Kd := (.cons (.cons (.int .i64) (.cons (.int .i64) (.cons (.int .i64) (.cons (.int .i64) .nil)))) .nil)
@[reducible] def K19o : Kd := (.cons .bool .nil)
noncomputable def cx19 (F33 : K33a.T → Bool × K33o.T) (n : Nat) : Cx := { S := (addS noS 33 (fnS K33a K33o F33)), P := Try.prog, gl := noG, hint := [], nin := 0, fuel := n }
def raw19 (F33 : K33a.T → Bool × K33o.T) (x : K19a.T) : Option K19o.T :=
(bif (F33 (x.1, ())).1 then
(bif (F33 (x.1, ())).2.1 then
 some ((x.1.2.2.2.1 == x.1.2.2.1), ())
 else
 some (false, ()))
 else none)
theorem eq19 (F33 : K33a.T → Bool × K33o.T) (n : Nat) (x : K19a.T) : runD (cx19 F33 n) (fnOf 19) (body 19) K19a K19o x = raw19 F33 x := by kernel_rfl
theorem ok19 (F33 : K33a.T → Bool × K33o.T) (h33 : FnOK Try.prog noG 33 (fnS K33a K33o F33)) : FnOK Try.prog noG 19 (fnS K19a K19o (toF (raw19 F33))) :=
  fn_sound (cx19 F33 0) (SpecOK.add SpecOK.none h33) mixed noG_ok (by kernel_rfl) (by kernel_rfl) (by kernel_rfl) (by kernel_rfl) (by kernel_rfl) (toF_run fun x => ⟨0, eq19 F33 0 x⟩)
noncomputable def G19 : K19a.T → Bool × K19o.T := toF (raw19 G33)
theorem fok19 : FnOK Try.prog noG 19 (fnS K19a K19o G19) := ok19 G33 fok33

/-- detect.with -/
@[reducible] def K32a : Kd := (.cons (.cons (.int .i64) (.cons (.int .i64) (.cons (.int .i64) (.cons (.int .i64) .nil)))) (.cons (.int .i64) (.cons (.int .i64) .nil)))
@[reducible] def K32o : Kd := (.cons (.cons (.int .i64) (.cons (.int .i64) (.cons (.int .i64) (.cons (.int .i64) .nil)))) (.cons (.int .i64) .nil))
noncomputable def cx32 (F17 : K17a.T → Bool × K17o.T) (n : Nat) : Cx := { S := (addS noS 17 (fnS K17a K17o F17)), P := Try.prog, gl := noG, hint := [], nin := 0, fuel := n }
def raw32 (F17 : K17a.T → Bool × K17o.T) (x : K32a.T) : Option K32o.T :=
(bif (F17 (x.1, ())).1 then
(bif ((F17 (x.1, ())).2.1 != (0 : Int)) then
 some (((0 : Int), ((0 : Int), ((0 : Int), ((0 : Int), ())))), ((F17 (x.1, ())).2.1, ()))
 else
 some (((if x.1.2.1 < x.2.1 then x.1.2.1 else x.2.1), (x.1.2.1, (x.1.2.2.1, ((if x.1.2.2.1 < x.2.2.1 then x.1.2.2.1 else x.2.2.1), ())))), ((0 : Int), ())))
 else none)
theorem eq32 (F17 : K17a.T → Bool × K17o.T) (n : Nat) (x : K32a.T) : runD (cx32 F17 n) (fnOf 32) (body 32) K32a K32o x = raw32 F17 x := by kernel_rfl
theorem ok32 (F17 : K17a.T → Bool × K17o.T) (h17 : FnOK Try.prog noG 17 (fnS K17a K17o F17)) : FnOK Try.prog noG 32 (fnS K32a K32o (toF (raw32 F17))) :=
  fn_sound (cx32 F17 0) (SpecOK.add SpecOK.none h17) mixed noG_ok (by kernel_rfl) (by kernel_rfl) (by kernel_rfl) (by kernel_rfl) (by kernel_rfl) (toF_run fun x => ⟨0, eq32 F17 0 x⟩)
noncomputable def G32 : K32a.T → Bool × K32o.T := toF (raw32 G17)
theorem fok32 : FnOK Try.prog noG 32 (fnS K32a K32o G32) := ok32 G17 fok17

/-- detect.Tick -/
@[reducible] def K12a : Kd := (.cons (.cons (.int .i64) (.cons (.int .i64) (.cons (.int .i64) (.cons (.int .i64) .nil)))) .nil)
@[reducible] def K12o : Kd := (.cons (.cons (.int .i64) (.cons (.int .i64) (.cons (.int .i64) (.cons (.int .i64) .nil)))) (.cons (.int .i64) .nil))
noncomputable def cx12 (F32 : K32a.T → Bool × K32o.T) (n : Nat) : Cx := { S := (addS noS 32 (fnS K32a K32o F32)), P := Try.prog, gl := noG, hint := [], nin := 0, fuel := n }
def raw12 (F32 : K32a.T → Bool × K32o.T) (x : K12a.T) : Option K12o.T :=
(bif (F32 (x.1, ((IntKind.i64.wrap (x.1.1 + (1 : Int))), ((IntKind.i64.wrap (x.1.2.2.2.1 + (1 : Int))), ())))).1 then
 some ((F32 (x.1, ((IntKind.i64.wrap (x.1.1 + (1 : Int))), ((IntKind.i64.wrap (x.1.2.2.2.1 + (1 : Int))), ())))).2.1, ((F32 (x.1, ((IntKind.i64.wrap (x.1.1 + (1 : Int))), ((IntKind.i64.wrap (x.1.2.2.2.1 + (1 : Int))), ())))).2.2.1, ()))
 else none)
theorem eq12 (F32 : K32a.T → Bool × K32o.T) (n : Nat) (x : K12a.T) : runD (cx12 F32 n) (fnOf 12) (body 12) K12a K12o x = raw12 F32 x := by kernel_rfl
theorem ok12 (F32 : K32a.T → Bool × K32o.T) (h32 : FnOK Try.prog noG 32 (fnS K32a K32o F32)) : FnOK Try.prog noG 12 (fnS K12a K12o (toF (raw12 F32))) :=
  fn_sound (cx12 F32 0) (SpecOK.add SpecOK.none h32) mixed noG_ok (by kernel_rfl) (by kernel_rfl) (by kernel_rfl) (by kernel_rfl) (by kernel_rfl) (toF_run fun x => ⟨0, eq12 F32 0 x⟩)
noncomputable def G12 : K12a.T → Bool × K12o.T := toF (raw12 G32)
theorem fok12 : FnOK Try.prog noG 12 (fnS K12a K12o G12) := ok12 G32 fok32

/-- detect.Late -/
@[reducible] def K18a : Kd := (.cons (.cons (.int .i64) (.cons (.int .i64) (.cons (.int .i64) (.cons (.int .i64) .nil)))) .nil)
@[reducible] def K18o : Kd := (.cons .bool .nil)
noncomputable def cx18 (F33 : K33a.T → Bool × K33o.T) (n : Nat) : Cx := { S := (addS noS 33 (fnS K33a K33o F33)), P := Try.prog, gl := noG, hint := [], nin := 0, fuel := n }
def raw18 (F33 : K33a.T → Bool × K33o.T) (x : K18a.T) : Option K18o.T :=
(bif (F33 (x.1, ())).1 then
(bif (F33 (x.1, ())).2.1 then
 some ((x.1.1 == x.1.2.1), ())
 else
 some (false, ()))
 else none)
theorem eq18 (F33 : K33a.T → Bool × K33o.T) (n : Nat) (x : K18a.T) : runD (cx18 F33 n) (fnOf 18) (body 18) K18a K18o x = raw18 F33 x := by kernel_rfl
theorem ok18 (F33 : K33a.T → Bool × K33o.T) (h33 : FnOK Try.prog noG 33 (fnS K33a K33o F33)) : FnOK Try.prog noG 18 (fnS K18a K18o (toF (raw18 F33))) :=
  fn_sound (cx18 F33 0) (SpecOK.add SpecOK.none h33) mixed noG_ok (by kernel_rfl) (by kernel_rfl) (by kernel_rfl) (by kernel_rfl) (by kernel_rfl) (toF_run fun x => ⟨0, eq18 F33 0 x⟩)
noncomputable def G18 : K18a.T → Bool × K18o.T := toF (raw18 G33)
theorem fok18 : FnOK Try.prog noG 18 (fnS K18a K18o G18) := ok18 G33 fok33

/-- detect.Heard -/
@[reducible] def K15a : Kd := (.cons (.cons (.int .i64) (.cons (.int .i64) (.cons (.int .i64) (.cons (.int .i64) .nil)))) .nil)
@[reducible] def K15o : Kd := (.cons (.cons (.int .i64) (.cons (.int .i64) (.cons (.int .i64) (.cons (.int .i64) .nil)))) (.cons (.int .i64) .nil))
noncomputable def cx15 (F32 : K32a.T → Bool × K32o.T) (n : Nat) : Cx := { S := (addS noS 32 (fnS K32a K32o F32)), P := Try.prog, gl := noG, hint := [], nin := 0, fuel := n }
def raw15 (F32 : K32a.T → Bool × K32o.T) (x : K15a.T) : Option K15o.T :=
(bif (F32 (x.1, ((0 : Int), (x.1.2.2.2.1, ())))).1 then
 some ((F32 (x.1, ((0 : Int), (x.1.2.2.2.1, ())))).2.1, ((F32 (x.1, ((0 : Int), (x.1.2.2.2.1, ())))).2.2.1, ()))
 else none)
theorem eq15 (F32 : K32a.T → Bool × K32o.T) (n : Nat) (x : K15a.T) : runD (cx15 F32 n) (fnOf 15) (body 15) K15a K15o x = raw15 F32 x := by kernel_rfl
theorem ok15 (F32 : K32a.T → Bool × K32o.T) (h32 : FnOK Try.prog noG 32 (fnS K32a K32o F32)) : FnOK Try.prog noG 15 (fnS K15a K15o (toF (raw15 F32))) :=
  fn_sound (cx15 F32 0) (SpecOK.add SpecOK.none h32) mixed noG_ok (by kernel_rfl) (by kernel_rfl) (by kernel_rfl) (by kernel_rfl) (by kernel_rfl) (toF_run fun x => ⟨0, eq15 F32 0 x⟩)
noncomputable def G15 : K15a.T → Bool × K15o.T := toF (raw15 G32)
theorem fok15 : FnOK Try.prog noG 15 (fnS K15a K15o G15) := ok15 G32 fok32

/-- detect.Left -/
@[reducible] def K14a : Kd := (.cons (.cons (.int .i64) (.cons (.int .i64) (.cons (.int .i64) (.cons (.int .i64) .nil)))) .nil)
@[reducible] def K14o : Kd := (.cons (.int .i64) .nil)
noncomputable def cx14 (F33 : K33a.T → Bool × K33o.T) (n : Nat) : Cx := { S := (addS noS 33 (fnS K33a K33o F33)), P := Try.prog, gl := noG, hint := [], nin := 0, fuel := n }
def raw14 (F33 : K33a.T → Bool × K33o.T) (x : K14a.T) : Option K14o.T :=
(bif (F33 (x.1, ())).1 then
(bif (!(F33 (x.1, ())).2.1) then
 some ((0 : Int), ())
 else
 some ((IntKind.i64.wrap (x.1.2.1 - x.1.1)), ()))
 else none)
theorem eq14 (F33 : K33a.T → Bool × K33o.T) (n : Nat) (x : K14a.T) : runD (cx14 F33 n) (fnOf 14) (body 14) K14a K14o x = raw14 F33 x := by kernel_rfl
theorem ok14 (F33 : K33a.T → Bool × K33o.T) (h33 : FnOK Try.prog noG 33 (fnS K33a K33o F33)) : FnOK Try.prog noG 14 (fnS K14a K14o (toF (raw14 F33))) :=
  fn_sound (cx14 F33 0) (SpecOK.add SpecOK.none h33) mixed noG_ok (by kernel_rfl) (by kernel_rfl) (by kernel_rfl) (by kernel_rfl) (by kernel_rfl) (toF_run fun x => ⟨0, eq14 F33 0 x⟩)
noncomputable def G14 : K14a.T → Bool × K14o.T := toF (raw14 G33)
theorem fok14 : FnOK Try.prog noG 14 (fnS K14a K14o G14) := ok14 G33 fok33

/-- detect.Told -/
@[reducible] def K16a : Kd := (.cons (.cons (.int .i64) (.cons (.int .i64) (.cons (.int .i64) (.cons (.int .i64) .nil)))) .nil)
@[reducible] def K16o : Kd := (.cons (.cons (.int .i64) (.cons (.int .i64) (.cons (.int .i64) (.cons (.int .i64) .nil)))) (.cons (.int .i64) .nil))
noncomputable def cx16 (F32 : K32a.T → Bool × K32o.T) (n : Nat) : Cx := { S := (addS noS 32 (fnS K32a K32o F32)), P := Try.prog, gl := noG, hint := [], nin := 0, fuel := n }
def raw16 (F32 : K32a.T → Bool × K32o.T) (x : K16a.T) : Option K16o.T :=
(bif (F32 (x.1, (x.1.1, ((0 : Int), ())))).1 then
 some ((F32 (x.1, (x.1.1, ((0 : Int), ())))).2.1, ((F32 (x.1, (x.1.1, ((0 : Int), ())))).2.2.1, ()))
 else none)
theorem eq16 (F32 : K32a.T → Bool × K32o.T) (n : Nat) (x : K16a.T) : runD (cx16 F32 n) (fnOf 16) (body 16) K16a K16o x = raw16 F32 x := by kernel_rfl
theorem ok16 (F32 : K32a.T → Bool × K32o.T) (h32 : FnOK Try.prog noG 32 (fnS K32a K32o F32)) : FnOK Try.prog noG 16 (fnS K16a K16o (toF (raw16 F32))) :=
  fn_sound (cx16 F32 0) (SpecOK.add SpecOK.none h32) mixed noG_ok (by kernel_rfl) (by kernel_rfl) (by kernel_rfl) (by kernel_rfl) (by kernel_rfl) (toF_run fun x => ⟨0, eq16 F32 0 x⟩)
noncomputable def G16 : K16a.T → Bool × K16o.T := toF (raw16 G32)
theorem fok16 : FnOK Try.prog noG 16 (fnS K16a K16o G16) := ok16 G32 fok32

/-- drawbridgelaw23.lives: no argument; run as it stands. -/
@[reducible] def K13a : Kd := .nil
@[reducible] def K13o : Kd := (.cons .bool .nil)
noncomputable def cx13 (n : Nat) : Cx := { S := (addS (addS (addS (addS (addS (addS (addS noS 11 (fnS K11a K11o G11)) 19 (fnS K19a K19o G19)) 12 (fnS K12a K12o G12)) 18 (fnS K18a K18o G18)) 15 (fnS K15a K15o G15)) 14 (fnS K14a K14o G14)) 16 (fnS K16a K16o G16)), P := Try.prog, gl := noG, hint := [(122,[0,1,3])], nin := 0, fuel := n }
theorem eq13 (x : K13a.T) : runD (cx13 8) (fnOf 13) (body 13) K13a K13o x = some (true, ()) := by kernel_rfl
noncomputable def G13 : K13a.T → Bool × K13o.T := fun _ => (true, (true, ()))
theorem fok13 : FnOK Try.prog noG 13 (fnS K13a K13o G13) :=
  fn_sound (cx13 0) (SpecOK.add (SpecOK.add (SpecOK.add (SpecOK.add (SpecOK.add (SpecOK.add (SpecOK.add SpecOK.none fok11) fok19) fok12) fok18) fok15) fok14) fok16) mixed noG_ok (by kernel_rfl) (by kernel_rfl) (by kernel_rfl) (by kernel_rfl) (by kernel_rfl) (fun x _ => ⟨8, eq13 x⟩)

/-- drawbridgelaw23.DetectApart -/
@[reducible] def K5a : Kd := (.cons (.cons (.int .i64) (.cons (.int .i64) (.cons (.int .i64) (.cons (.int .i64) .nil)))) .nil)
@[reducible] def K5o : Kd := (.cons .bool .nil)
noncomputable def cx5 (F13 : K13a.T → Bool × K13o.T) (F17 : K17a.T → Bool × K17o.T) (F18 : K18a.T → Bool × K18o.T) (F19 : K19a.T → Bool × K19o.T) (F14 : K14a.T → Bool × K14o.T) (F15 : K15a.T → Bool × K15o.T) (F16 : K16a.T → Bool × K16o.T) (F12 : K12a.T → Bool × K12o.T) (n : Nat) : Cx := { S := (addS (addS (addS (addS (addS (addS (addS (addS noS 13 (fnS K13a K13o F13)) 17 (fnS K17a K17o F17)) 18 (fnS K18a K18o F18)) 19 (fnS K19a K19o F19)) 14 (fnS K14a K14o F14)) 15 (fnS K15a K15o F15)) 16 (fnS K16a K16o F16)) 12 (fnS K12a K12o F12)), P := Try.prog, gl := noG, hint := [], nin := 0, fuel := n }
def raw5 (F13 : K13a.T → Bool × K13o.T) (F17 : K17a.T → Bool × K17o.T) (F18 : K18a.T → Bool × K18o.T) (F19 : K19a.T → Bool × K19o.T) (F14 : K14a.T → Bool × K14o.T) (F15 : K15a.T → Bool × K15o.T) (F16 : K16a.T → Bool × K16o.T) (F12 : K12a.T → Bool × K12o.T) (x : K5a.T) : Option K5o.T :=
(bif (F13 ()).1 then
(bif (!(F13 ()).2.1) then
 some (false, ())
 else
(bif (F17 (x.1, ())).1 then
(bif ((F17 (x.1, ())).2.1 != (0 : Int)) then
(bif (F18 (x.1, ())).1 then
(bif (!(F18 (x.1, ())).2.1) then
(bif (F19 (x.1, ())).1 then
(bif (!(F19 (x.1, ())).2.1) then
(bif (F14 (x.1, ())).1 then
 some (((F14 (x.1, ())).2.1 == (0 : Int)), ())
 else none)
 else
 some (false, ()))
 else none)
 else
 some (false, ()))
 else none)
 else
(bif (F15 (x.1, ())).1 then
(bif (F16 (x.1, ())).1 then
(bif (F16 ((F15 (x.1, ())).2.1, ())).1 then
(bif (F15 ((F16 (x.1, ())).2.1, ())).1 then
(bif (F15 ((F15 (x.1, ())).2.1, ())).1 then
(bif (F12 (x.1, ())).1 then
(bif ((F15 (x.1, ())).2.2.1 != (0 : Int)) then
 some (false, ())
 else
(bif ((F16 (x.1, ())).2.2.1 != (0 : Int)) then
 some (false, ())
 else
(bif ((F16 ((F15 (x.1, ())).2.1, ())).2.2.1 != (0 : Int)) then
 some (false, ())
 else
(bif ((F15 ((F16 (x.1, ())).2.1, ())).2.2.1 != (0 : Int)) then
 some (false, ())
 else
(bif ((F15 ((F15 (x.1, ())).2.1, ())).2.2.1 != (0 : Int)) then
 some (false, ())
 else
(bif ((F12 (x.1, ())).2.2.1 != (0 : Int)) then
 some (false, ())
 else
(bif (((F16 ((F15 (x.1, ())).2.1, ())).2.1.1 == (F15 ((F16 (x.1, ())).2.1, ())).2.1.1) && (((F16 ((F15 (x.1, ())).2.1, ())).2.1.2.1 == (F15 ((F16 (x.1, ())).2.1, ())).2.1.2.1) && (((F16 ((F15 (x.1, ())).2.1, ())).2.1.2.2.1 == (F15 ((F16 (x.1, ())).2.1, ())).2.1.2.2.1) && (((F16 ((F15 (x.1, ())).2.1, ())).2.1.2.2.2.1 == (F15 ((F16 (x.1, ())).2.1, ())).2.1.2.2.2.1) && true)))) then
(bif (((F15 ((F15 (x.1, ())).2.1, ())).2.1.1 == (F15 (x.1, ())).2.1.1) && (((F15 ((F15 (x.1, ())).2.1, ())).2.1.2.1 == (F15 (x.1, ())).2.1.2.1) && (((F15 ((F15 (x.1, ())).2.1, ())).2.1.2.2.1 == (F15 (x.1, ())).2.1.2.2.1) && (((F15 ((F15 (x.1, ())).2.1, ())).2.1.2.2.2.1 == (F15 (x.1, ())).2.1.2.2.2.1) && true)))) then
(bif (F19 ((F15 (x.1, ())).2.1, ())).1 then
(bif (F19 (x.1, ())).1 then
(bif ((F19 ((F15 (x.1, ())).2.1, ())).2.1 == (F19 (x.1, ())).2.1) then
(bif (F18 ((F16 (x.1, ())).2.1, ())).1 then
(bif (F18 (x.1, ())).1 then
(bif ((F18 ((F16 (x.1, ())).2.1, ())).2.1 == (F18 (x.1, ())).2.1) then
(bif (F18 (x.1, ())).1 then
(bif (!(F18 (x.1, ())).2.1) then
(bif (F19 (x.1, ())).1 then
(bif (!(F19 (x.1, ())).2.1) then
(bif (F18 ((F15 (x.1, ())).2.1, ())).1 then
(bif (!(F18 ((F15 (x.1, ())).2.1, ())).2.1) then
(bif (F19 ((F16 (x.1, ())).2.1, ())).1 then
 some ((!(F19 ((F16 (x.1, ())).2.1, ())).2.1), ())
 else none)
 else
 some (false, ()))
 else none)
 else
(bif (F19 ((F12 (x.1, ())).2.1, ())).1 then
(bif (F19 ((F12 (x.1, ())).2.1, ())).2.1 then
(bif (F18 ((F15 (x.1, ())).2.1, ())).1 then
(bif (!(F18 ((F15 (x.1, ())).2.1, ())).2.1) then
(bif (F19 ((F16 (x.1, ())).2.1, ())).1 then
 some ((!(F19 ((F16 (x.1, ())).2.1, ())).2.1), ())
 else none)
 else
 some (false, ()))
 else none)
 else
 some (false, ()))
 else none))
 else none)
 else
(bif (F18 ((F12 (x.1, ())).2.1, ())).1 then
(bif (F18 ((F12 (x.1, ())).2.1, ())).2.1 then
(bif (F19 (x.1, ())).1 then
(bif (!(F19 (x.1, ())).2.1) then
(bif (F18 ((F15 (x.1, ())).2.1, ())).1 then
(bif (!(F18 ((F15 (x.1, ())).2.1, ())).2.1) then
(bif (F19 ((F16 (x.1, ())).2.1, ())).1 then
 some ((!(F19 ((F16 (x.1, ())).2.1, ())).2.1), ())
 else none)
 else
 some (false, ()))
 else none)
 else
(bif (F19 ((F12 (x.1, ())).2.1, ())).1 then
(bif (F19 ((F12 (x.1, ())).2.1, ())).2.1 then
(bif (F18 ((F15 (x.1, ())).2.1, ())).1 then
(bif (!(F18 ((F15 (x.1, ())).2.1, ())).2.1) then
(bif (F19 ((F16 (x.1, ())).2.1, ())).1 then
 some ((!(F19 ((F16 (x.1, ())).2.1, ())).2.1), ())
 else none)
 else
 some (false, ()))
 else none)
 else
 some (false, ()))
 else none))
 else none)
 else
 some (false, ()))
 else none))
 else none)
 else
 some (false, ()))
 else none)
 else none)
 else
 some (false, ()))
 else none)
 else none)
 else
 some (false, ()))
 else
 some (false, ()))))))))
 else none)
 else none)
 else none)
 else none)
 else none)
 else none))
 else none))
 else none)
theorem eq5 (F13 : K13a.T → Bool × K13o.T) (F17 : K17a.T → Bool × K17o.T) (F18 : K18a.T → Bool × K18o.T) (F19 : K19a.T → Bool × K19o.T) (F14 : K14a.T → Bool × K14o.T) (F15 : K15a.T → Bool × K15o.T) (F16 : K16a.T → Bool × K16o.T) (F12 : K12a.T → Bool × K12o.T) (n : Nat) (x : K5a.T) : runD (cx5 F13 F17 F18 F19 F14 F15 F16 F12 n) (fnOf 5) (body 5) K5a K5o x = raw5 F13 F17 F18 F19 F14 F15 F16 F12 x := by kernel_rfl
theorem ok5 (F13 : K13a.T → Bool × K13o.T) (F17 : K17a.T → Bool × K17o.T) (F18 : K18a.T → Bool × K18o.T) (F19 : K19a.T → Bool × K19o.T) (F14 : K14a.T → Bool × K14o.T) (F15 : K15a.T → Bool × K15o.T) (F16 : K16a.T → Bool × K16o.T) (F12 : K12a.T → Bool × K12o.T) (h13 : FnOK Try.prog noG 13 (fnS K13a K13o F13)) (h17 : FnOK Try.prog noG 17 (fnS K17a K17o F17)) (h18 : FnOK Try.prog noG 18 (fnS K18a K18o F18)) (h19 : FnOK Try.prog noG 19 (fnS K19a K19o F19)) (h14 : FnOK Try.prog noG 14 (fnS K14a K14o F14)) (h15 : FnOK Try.prog noG 15 (fnS K15a K15o F15)) (h16 : FnOK Try.prog noG 16 (fnS K16a K16o F16)) (h12 : FnOK Try.prog noG 12 (fnS K12a K12o F12)) : FnOK Try.prog noG 5 (fnS K5a K5o (toF (raw5 F13 F17 F18 F19 F14 F15 F16 F12))) :=
  fn_sound (cx5 F13 F17 F18 F19 F14 F15 F16 F12 0) (SpecOK.add (SpecOK.add (SpecOK.add (SpecOK.add (SpecOK.add (SpecOK.add (SpecOK.add (SpecOK.add SpecOK.none h13) h17) h18) h19) h14) h15) h16) h12) mixed noG_ok (by kernel_rfl) (by kernel_rfl) (by kernel_rfl) (by kernel_rfl) (by kernel_rfl) (toF_run fun x => ⟨0, eq5 F13 F17 F18 F19 F14 F15 F16 F12 0 x⟩)
noncomputable def G5 : K5a.T → Bool × K5o.T := toF (raw5 G13 G17 G18 G19 G14 G15 G16 G12)
theorem fok5 : FnOK Try.prog noG 5 (fnS K5a K5o G5) := ok5 G13 G17 G18 G19 G14 G15 G16 G12 fok13 fok17 fok18 fok19 fok14 fok15 fok16 fok12

end Go.Proofs.Ytloohkifibfdiaa.Ae
