/- Functions of the program, each as the evaluator reads it: a tree of cases, and a function for each loop. Printed by gen2.py. -/
import Derived.Test.YtkmeimhapokdlaaAe32
import Derived.Test.YtkmeimhapokdlaaProg
set_option linter.unusedVariables false
set_option maxRecDepth 100000
namespace Go.Proofs.Ytkmeimhapokdlaa.Ae
open Go
noncomputable def body (f : Nat) : Code := ((Try.prog.funcs[f]?).bind (·.body)).getD .skip
noncomputable def fnOf (f : Nat) : Func := (Try.prog.funcs[f]?).getD default
theorem mixed : (Try.prog).follows .mixedOrders = true := by kernel_rfl

/-- link.Check$1 -/
@[reducible] def M45a : Md := (.cons (.ro (.sl (.int .u8))) .nil)
@[reducible] def M45o : Md := (.cons (.ro .bool) .nil)
noncomputable def cx45 (n : Nat) : Cx := { S := noS, P := Try.prog, gl := noG, hint := [], pin := [], nin := 0, fuel := n }
def t45 (x0 : (List Int)) : Option ((Bool × Unit) × (Unit × Unit)) :=
 (some (((decide ((x0.length : Int) > (1048576 : Int))), ()), ((), ())))
theorem eq45 (n : Nat) (x0 : (List Int)) : runM (cx45 n) (fnOf 45) (body 45) M45a M45o (x0, ()) = t45 x0 := by kernel_rfl
def raw45 (x : ((List Int) × Unit)) : Option ((Bool × Unit) × (Unit × Unit)) := t45 x.1
theorem ok45 : FnOK Try.prog noG 45 (fnM M45a M45o (toM (ma := M45a) (mo := M45o) (raw45))) :=
  fnM_sound (cx45 0) SpecOK.none mixed noG_ok (by kernel_rfl) (by kernel_rfl) (by kernel_rfl) (by kernel_rfl) (by kernel_rfl) (by kernel_rfl) (by kernel_rfl) (toM_run fun x => ⟨0, by have h := eq45 0 x.1; exact h⟩)

noncomputable def G45 : ((List Int) × Unit) → Bool × ((Bool × Unit) × (Unit × Unit)) := toM (ma := M45a) (mo := M45o) (raw45)
theorem fok45 : FnOK Try.prog noG 45 (fnM M45a M45o G45) := ok45
theorem G45_of {x0 : (List Int)} {y : ((Bool × Unit) × (Unit × Unit))} (h : t45 x0 = some y) : G45 (x0, ()) = (true, y) := toM_some (ma := M45a) (mo := M45o) h

/-- slices.IndexFunc[[][]byte,[]byte] -/
@[reducible] def M63a : Md := (.cons (.ro (.sl (.sl (.int .u8)))) (.cons (.fn 45 .nil .nil) .nil))
@[reducible] def M63o : Md := (.cons (.ro (.int .i64)) .nil)
noncomputable def cx63 (F45 : ((List Int) × Unit) → Bool × ((Bool × Unit) × (Unit × Unit))) (n : Nat) : Cx := { S := (addV noS 45 (fnM M45a M45o F45)), P := Try.prog, gl := noG, hint := [(26, [0, 1, 7, 8])], pin := [], nin := 0, fuel := n }
noncomputable def l63_26_0' (F45 : ((List Int) × Unit) → Bool × ((Bool × Unit) × (Unit × Unit))) (n k : Nat) (v0 : List (List Int)) (v1 : Int) (v2 : Int) : Option ((Int × Unit) × (Unit × ((Unit × Unit) × Unit))) :=
  loopAt (cx63 F45 n) (body 63) (bits 26) [] k { tm := [(0, .rs (.sl (.int .u8)) v0 false false), (1, .fn (.func 45) (.nil) (.nil)), (7, .int .i64 v1), (8, .int .i64 v2)], hp := [], nx := 0 } (finM Try.prog (fnOf 63) M63a M63o)
noncomputable def l63_26_0 : (((List Int) × Unit) → Bool × ((Bool × Unit) × (Unit × Unit))) → Nat → Nat → List (List Int) → Int → Int → Option ((Int × Unit) × (Unit × ((Unit × Unit) × Unit))) := (sealed l63_26_0').1
theorem l63_26_0_e : l63_26_0' = l63_26_0 := (sealed l63_26_0').2.symm
theorem l63_26_0_s' (F45 : ((List Int) × Unit) → Bool × ((Bool × Unit) × (Unit × Unit))) (n k : Nat) (v0 : List (List Int)) (v1 : Int) (v2 : Int) : l63_26_0' F45 n (k + 1) v0 v1 v2 =
 (bif (decide (v2 < v1)) then
 (ck (rng v2 v0.length)
 (cl (F45 (v0.getD v2.toNat [], ())) fun r2 =>
 (bif r2.1.1 then
 (some ((v2, ()), ((), ((), ()), ())))
 else
 (l63_26_0' F45 n k v0 v1 (IntKind.i64.wrap (v2 + (1 : Int)))))))
 else
 (some (((-1 : Int), ()), ((), ((), ()), ())))) := by kernel_rfl
theorem l63_26_0_s (F45 : ((List Int) × Unit) → Bool × ((Bool × Unit) × (Unit × Unit))) (n k : Nat) (v0 : List (List Int)) (v1 : Int) (v2 : Int) : l63_26_0 F45 n (k + 1) v0 v1 v2 =
 (bif (decide (v2 < v1)) then
 (ck (rng v2 v0.length)
 (cl (F45 (v0.getD v2.toNat [], ())) fun r2 =>
 (bif r2.1.1 then
 (some ((v2, ()), ((), ((), ()), ())))
 else
 (l63_26_0 F45 n k v0 v1 (IntKind.i64.wrap (v2 + (1 : Int)))))))
 else
 (some (((-1 : Int), ()), ((), ((), ()), ())))) := by
  have h := l63_26_0_s' F45 n k v0 v1 v2
  rw [l63_26_0_e] at h
  exact h
theorem l63_26_0_z' (F45 : ((List Int) × Unit) → Bool × ((Bool × Unit) × (Unit × Unit))) (n : Nat) (v0 : List (List Int)) (v1 : Int) (v2 : Int) : l63_26_0' F45 n 0 v0 v1 v2 =
 none := by kernel_rfl
theorem l63_26_0_z (F45 : ((List Int) × Unit) → Bool × ((Bool × Unit) × (Unit × Unit))) (n : Nat) (v0 : List (List Int)) (v1 : Int) (v2 : Int) : l63_26_0 F45 n 0 v0 v1 v2 =
 none := by
  have h := l63_26_0_z' F45 n v0 v1 v2
  rw [l63_26_0_e] at h
  exact h
theorem eq63' (F45 : ((List Int) × Unit) → Bool × ((Bool × Unit) × (Unit × Unit))) (n : Nat) (x0 : (List (List Int))) : runM (cx63 F45 n) (fnOf 63) (body 63) M63a M63o (x0, ((), ()), ()) =
 (l63_26_0' F45 n n x0 (x0.length : Int) (0 : Int)) := by kernel_rfl
theorem eq63 (F45 : ((List Int) × Unit) → Bool × ((Bool × Unit) × (Unit × Unit))) (n : Nat) (x0 : (List (List Int))) : runM (cx63 F45 n) (fnOf 63) (body 63) M63a M63o (x0, ((), ()), ()) =
 (l63_26_0 F45 n n x0 (x0.length : Int) (0 : Int)) := by
  have h := eq63' F45 n x0
  rw [l63_26_0_e] at h
  exact h
theorem ok63 (F45 : ((List Int) × Unit) → Bool × ((Bool × Unit) × (Unit × Unit))) (h45 : FnOK Try.prog noG 45 (fnM M45a M45o F45)) (f : ((List (List Int)) × ((Unit × Unit) × Unit)) → Bool × ((Int × Unit) × (Unit × ((Unit × Unit) × Unit)))) (hrun : ∀ x, (f x).1 = true → ∃ n, runM (cx63 F45 n) (fnOf 63) (body 63) M63a M63o x = some (f x).2) : FnOK Try.prog noG 63 (fnM M63a M63o f) :=
  fnM_sound (cx63 F45 0) (SpecOK.addV SpecOK.none h45) mixed noG_ok (by kernel_rfl) (by kernel_rfl) (by kernel_rfl) (by kernel_rfl) (by kernel_rfl) (by kernel_rfl) (by kernel_rfl) (fun x h => by obtain ⟨n, hn⟩ := hrun x h; exact ⟨n + 0, hn⟩)

/-- The first that is long, or -1. -/
def idx63 : List (List Int) → Int → Int
  | [], _ => -1
  | b :: l, i => if 1048576 < b.length then i else idx63 l (i + 1)
theorem idx63_any : ∀ (l : List (List Int)) (i : Int), 0 ≤ i → decide (idx63 l i ≥ 0) = l.any fun b => decide (1048576 < b.length)
  | [], i, _ => rfl
  | b :: l, i, h => by
    rw [idx63, List.any_cons]
    by_cases c : 1048576 < b.length
    · rw [if_pos c, decide_eq_true c, Bool.true_or]; exact decide_eq_true h
    · rw [if_neg c, decide_eq_false c, Bool.false_or]; exact idx63_any l (i + 1) (by omega)
def G63 (x : List (List Int) × ((Unit × Unit) × Unit)) : Bool × ((Int × Unit) × (Unit × ((Unit × Unit) × Unit))) :=
  (decide (x.1.length < 9223372036854775808), ((idx63 x.1 0, ()), ((), ((), ()), ())))
theorem lp63 (n : Nat) (l : List (List Int)) (hl : l.length < 9223372036854775808) : ∀ (k i : Nat), i ≤ l.length → l.length - i < k →
    l63_26_0 G45 n k l l.length i = some ((idx63 (l.drop i) i, ()), ((), ((), ()), ())) := by
  intro k
  induction k with
  | zero => intro i h1 h2; omega
  | succ k ih =>
    intro i h1 h2
    rw [l63_26_0_s]
    by_cases hi : i < l.length
    · have e : ∀ b : List Int, G45 (b, ()) = (true, ((decide ((b.length : Int) > 1048576), ()), ((), ()))) := fun b => G45_of rfl
      rw [decide_eq_true (show (i : Int) < l.length by omega), show rng (i : Int) l.length = true from rng_ok (by omega) (by omega), Int.toNat_natCast, e, wrap_i64 (show -9223372036854775808 ≤ (i : Int) + 1 by omega) (by omega), drop_get l [] i hi, idx63]
      simp only [cond_true, ck_true, cl_true]
      by_cases c : 1048576 < (l.getD i []).length
      · rw [if_pos c, decide_eq_true (by omega)]; rfl
      · rw [if_neg c, decide_eq_false (by omega)]
        exact ih (i + 1) (by omega) (by omega)
    · rw [decide_eq_false (show ¬ (i : Int) < l.length by omega), drop_end l i (by omega)]; rfl
theorem run63 (x : List (List Int) × ((Unit × Unit) × Unit)) (h : (G63 x).1 = true) : ∃ n, runM (cx63 G45 n) (fnOf 63) (body 63) M63a M63o x = some (G63 x).2 := by
  obtain ⟨l, ⟨⟨⟩, ⟨⟩⟩, ⟨⟩⟩ := x
  have h : l.length < 9223372036854775808 := of_decide_eq_true h
  refine ⟨l.length + 1, ?_⟩
  rw [eq63]
  exact lp63 _ l h (l.length + 1) 0 (by omega) (by omega)

theorem fok63 : FnOK Try.prog noG 63 (fnM M63a M63o G63) := ok63 G45 fok45 G63 run63

/-- slices.ContainsFunc[[][]byte,[]byte] -/
@[reducible] def M44a : Md := (.cons (.ro (.sl (.sl (.int .u8)))) (.cons (.fn 45 .nil .nil) .nil))
@[reducible] def M44o : Md := (.cons (.ro .bool) .nil)
noncomputable def cx44 (F63 : ((List (List Int)) × ((Unit × Unit) × Unit)) → Bool × ((Int × Unit) × (Unit × ((Unit × Unit) × Unit)))) (n : Nat) : Cx := { S := (addV noS 63 (fnM M63a M63o F63)), P := Try.prog, gl := noG, hint := [], pin := [], nin := 0, fuel := n }
def t44 (F63 : ((List (List Int)) × ((Unit × Unit) × Unit)) → Bool × ((Int × Unit) × (Unit × ((Unit × Unit) × Unit)))) (x0 : (List (List Int))) : Option ((Bool × Unit) × (Unit × ((Unit × Unit) × Unit))) :=
 (cl (F63 (x0, ((), ()), ())) fun r4 =>
 (some (((decide (r4.1.1 ≥ (0 : Int))), ()), ((), ((), ()), ()))))
theorem eq44 (F63 : ((List (List Int)) × ((Unit × Unit) × Unit)) → Bool × ((Int × Unit) × (Unit × ((Unit × Unit) × Unit)))) (n : Nat) (x0 : (List (List Int))) : runM (cx44 F63 n) (fnOf 44) (body 44) M44a M44o (x0, ((), ()), ()) = t44 F63 x0 := by kernel_rfl
def raw44 (F63 : ((List (List Int)) × ((Unit × Unit) × Unit)) → Bool × ((Int × Unit) × (Unit × ((Unit × Unit) × Unit)))) (x : ((List (List Int)) × ((Unit × Unit) × Unit))) : Option ((Bool × Unit) × (Unit × ((Unit × Unit) × Unit))) := t44 F63 x.1
theorem ok44 (F63 : ((List (List Int)) × ((Unit × Unit) × Unit)) → Bool × ((Int × Unit) × (Unit × ((Unit × Unit) × Unit)))) (h63 : FnOK Try.prog noG 63 (fnM M63a M63o F63)) : FnOK Try.prog noG 44 (fnM M44a M44o (toM (ma := M44a) (mo := M44o) (raw44 F63))) :=
  fnM_sound (cx44 F63 0) (SpecOK.addV SpecOK.none h63) mixed noG_ok (by kernel_rfl) (by kernel_rfl) (by kernel_rfl) (by kernel_rfl) (by kernel_rfl) (by kernel_rfl) (by kernel_rfl) (toM_run fun x => ⟨0, by have h := eq44 F63 0 x.1; exact h⟩)

noncomputable def G44 : ((List (List Int)) × ((Unit × Unit) × Unit)) → Bool × ((Bool × Unit) × (Unit × ((Unit × Unit) × Unit))) := toM (ma := M44a) (mo := M44o) (raw44 G63)
theorem fok44 : FnOK Try.prog noG 44 (fnM M44a M44o G44) := ok44 G63 fok63
theorem G44_of {x0 : (List (List Int))} {y : ((Bool × Unit) × (Unit × ((Unit × Unit) × Unit)))} (h : t44 G63 x0 = some y) : G44 (x0, ((), ()), ()) = (true, y) := toM_some (ma := M44a) (mo := M44o) h
theorem any44 (l : List (List Int)) (h : l.length < 9223372036854775808) : G44 (l, ((), ()), ()) = (true, ((l.any fun b => decide (1048576 < b.length), ()), ((), ((), ()), ()))) := by
  have e : G63 (l, ((), ()), ()) = (true, ((idx63 l 0, ()), ((), ((), ()), ()))) := by simp [G63, h]
  refine G44_of ?_
  unfold t44
  rw [e, cl_true, idx63_any l 0 (Int.le_refl _)]


/-- link.Check -/
@[reducible] def M19a : Md := (.cons (.ro (.cons (.int .u64) (.cons (.int .u64) (.cons (.int .u64) (.cons (.int .u64) (.cons (.sl (.sl (.int .u8))) (.cons (.int .i64) (.cons (.int .i64) (.cons .bool .nil))))))))) .nil)
@[reducible] def M19o : Md := (.cons (.ro (.int .i64)) .nil)
noncomputable def cx19 (F44 : ((List (List Int)) × ((Unit × Unit) × Unit)) → Bool × ((Bool × Unit) × (Unit × ((Unit × Unit) × Unit)))) (n : Nat) : Cx := { S := (addV noS 44 (fnM M44a M44o F44)), P := Try.prog, gl := noG, hint := [], pin := [], nin := 0, fuel := n }
def t19 (F44 : ((List (List Int)) × ((Unit × Unit) × Unit)) → Bool × ((Bool × Unit) × (Unit × ((Unit × Unit) × Unit)))) (x0 : Int) (x1 : Int) (x2 : Int) (x3 : Int) (x4 : (List (List Int))) (x5 : Int) (x6 : Int) (x7 : Bool) : Option ((Int × Unit) × (Unit × Unit)) :=
 (jn (fun (y83_0 : Bool) =>
 (bif y83_0 then
 (some (((3 : Int), ()), ((), ())))
 else
 (jn (fun (y85_0 : Bool) =>
 (bif (!y85_0) then
 (some (((2 : Int), ()), ((), ())))
 else
 (some (((0 : Int), ()), ((), ()))))) fun (j85 : Bool → Option ((Int × Unit) × (Unit × Unit))) =>
 (bif (decide (x0 ≥ (1 : Int))) then
 (bif (decide (x0 ≤ (9223372036854775808 : Int))) then
 (bif (decide (x2 ≥ (1 : Int))) then
 (bif (decide (x2 ≤ (9223372036854775808 : Int))) then
 (bif (decide (x2 > (IntKind.u64.wrap (x4.length : Int)))) then
 (bif (decide (x6 ≥ (1 : Int))) then
 (bif (decide (x6 ≤ (1024 : Int))) then
 (bif (decide (x5 ≥ (0 : Int))) then
 (bif (decide (x5 ≤ x6)) then
 (bif (x1 != (0 : Int)) then
 (j85 true)
 else
 (j85 (x3 == (0 : Int))))
 else
 (j85 false))
 else
 (j85 false))
 else
 (j85 false))
 else
 (j85 false))
 else
 (j85 false))
 else
 (j85 false))
 else
 (j85 false))
 else
 (j85 false))
 else
 (j85 false))))) fun (j83 : Bool → Option ((Int × Unit) × (Unit × Unit))) =>
 (bif (decide ((x4.length : Int) > (64 : Int))) then
 (j83 true)
 else
 (cl (F44 (x4, ((), ()), ())) fun r6 =>
 (j83 r6.1.1))))
theorem eq19 (F44 : ((List (List Int)) × ((Unit × Unit) × Unit)) → Bool × ((Bool × Unit) × (Unit × ((Unit × Unit) × Unit)))) (n : Nat) (x0 : Int) (x1 : Int) (x2 : Int) (x3 : Int) (x4 : (List (List Int))) (x5 : Int) (x6 : Int) (x7 : Bool) : runM (cx19 F44 n) (fnOf 19) (body 19) M19a M19o ((x0, x1, x2, x3, x4, x5, x6, x7, ()), ()) = t19 F44 x0 x1 x2 x3 x4 x5 x6 x7 := by kernel_rfl
def raw19 (F44 : ((List (List Int)) × ((Unit × Unit) × Unit)) → Bool × ((Bool × Unit) × (Unit × ((Unit × Unit) × Unit)))) (x : ((Int × (Int × (Int × (Int × ((List (List Int)) × (Int × (Int × (Bool × Unit)))))))) × Unit)) : Option ((Int × Unit) × (Unit × Unit)) := t19 F44 x.1.1 x.1.2.1 x.1.2.2.1 x.1.2.2.2.1 x.1.2.2.2.2.1 x.1.2.2.2.2.2.1 x.1.2.2.2.2.2.2.1 x.1.2.2.2.2.2.2.2.1
theorem ok19 (F44 : ((List (List Int)) × ((Unit × Unit) × Unit)) → Bool × ((Bool × Unit) × (Unit × ((Unit × Unit) × Unit)))) (h44 : FnOK Try.prog noG 44 (fnM M44a M44o F44)) : FnOK Try.prog noG 19 (fnM M19a M19o (toM (ma := M19a) (mo := M19o) (raw19 F44))) :=
  fnM_sound (cx19 F44 0) (SpecOK.addV SpecOK.none h44) mixed noG_ok (by kernel_rfl) (by kernel_rfl) (by kernel_rfl) (by kernel_rfl) (by kernel_rfl) (by kernel_rfl) (by kernel_rfl) (toM_run fun x => ⟨0, by have h := eq19 F44 0 x.1.1 x.1.2.1 x.1.2.2.1 x.1.2.2.2.1 x.1.2.2.2.2.1 x.1.2.2.2.2.2.1 x.1.2.2.2.2.2.2.1 x.1.2.2.2.2.2.2.2.1; exact h⟩)

noncomputable def G19 : ((Int × (Int × (Int × (Int × ((List (List Int)) × (Int × (Int × (Bool × Unit)))))))) × Unit) → Bool × ((Int × Unit) × (Unit × Unit)) := toM (ma := M19a) (mo := M19o) (raw19 G44)
theorem fok19 : FnOK Try.prog noG 19 (fnM M19a M19o G19) := ok19 G44 fok44
theorem G19_of {x0 : Int} {x1 : Int} {x2 : Int} {x3 : Int} {x4 : (List (List Int))} {x5 : Int} {x6 : Int} {x7 : Bool} {y : ((Int × Unit) × (Unit × Unit))} (h : t19 G44 x0 x1 x2 x3 x4 x5 x6 x7 = some y) : G19 ((x0, x1, x2, x3, x4, x5, x6, x7, ()), ()) = (true, y) := toM_some (ma := M19a) (mo := M19o) h

/-- link.New -/
@[reducible] def M11a : Md := (.cons (.ro (.int .u64)) (.cons (.ro (.int .i64)) .nil))
@[reducible] def M11o : Md := (.cons (.ro (.cons (.int .u64) (.cons (.int .u64) (.cons (.int .u64) (.cons (.int .u64) (.cons (.sl (.sl (.int .u8))) (.cons (.int .i64) (.cons (.int .i64) (.cons .bool .nil))))))))) (.cons (.ro (.int .i64)) .nil))
noncomputable def cx11 (F19 : ((Int × (Int × (Int × (Int × ((List (List Int)) × (Int × (Int × (Bool × Unit)))))))) × Unit) → Bool × ((Int × Unit) × (Unit × Unit))) (n : Nat) : Cx := { S := (addV noS 19 (fnM M19a M19o F19)), P := Try.prog, gl := noG, hint := [], pin := [], nin := 0, fuel := n }
def t11 (F19 : ((Int × (Int × (Int × (Int × ((List (List Int)) × (Int × (Int × (Bool × Unit)))))))) × Unit) → Bool × ((Int × Unit) × (Unit × Unit))) (x0 : Int) (x1 : Int) : Option (((Int × (Int × (Int × (Int × ((List (List Int)) × (Int × (Int × (Bool × Unit)))))))) × (Int × Unit)) × (Unit × (Unit × Unit))) :=
 (cl (F19 ((x0, (0 : Int), (1 : Int), (0 : Int), [], x1, x1, false, ()), ())) fun r8 =>
 (bif (r8.1.1 != (0 : Int)) then
 (some ((((0 : Int), (0 : Int), (0 : Int), (0 : Int), [], (0 : Int), (0 : Int), false, ()), r8.1.1, ()), ((), (), ())))
 else
 (some (((x0, (0 : Int), (1 : Int), (0 : Int), [], x1, x1, false, ()), (0 : Int), ()), ((), (), ())))))
theorem eq11 (F19 : ((Int × (Int × (Int × (Int × ((List (List Int)) × (Int × (Int × (Bool × Unit)))))))) × Unit) → Bool × ((Int × Unit) × (Unit × Unit))) (n : Nat) (x0 : Int) (x1 : Int) : runM (cx11 F19 n) (fnOf 11) (body 11) M11a M11o (x0, x1, ()) = t11 F19 x0 x1 := by kernel_rfl
def raw11 (F19 : ((Int × (Int × (Int × (Int × ((List (List Int)) × (Int × (Int × (Bool × Unit)))))))) × Unit) → Bool × ((Int × Unit) × (Unit × Unit))) (x : (Int × (Int × Unit))) : Option (((Int × (Int × (Int × (Int × ((List (List Int)) × (Int × (Int × (Bool × Unit)))))))) × (Int × Unit)) × (Unit × (Unit × Unit))) := t11 F19 x.1 x.2.1
theorem ok11 (F19 : ((Int × (Int × (Int × (Int × ((List (List Int)) × (Int × (Int × (Bool × Unit)))))))) × Unit) → Bool × ((Int × Unit) × (Unit × Unit))) (h19 : FnOK Try.prog noG 19 (fnM M19a M19o F19)) : FnOK Try.prog noG 11 (fnM M11a M11o (toM (ma := M11a) (mo := M11o) (raw11 F19))) :=
  fnM_sound (cx11 F19 0) (SpecOK.addV SpecOK.none h19) mixed noG_ok (by kernel_rfl) (by kernel_rfl) (by kernel_rfl) (by kernel_rfl) (by kernel_rfl) (by kernel_rfl) (by kernel_rfl) (toM_run fun x => ⟨0, by have h := eq11 F19 0 x.1 x.2.1; exact h⟩)

noncomputable def G11 : (Int × (Int × Unit)) → Bool × (((Int × (Int × (Int × (Int × ((List (List Int)) × (Int × (Int × (Bool × Unit)))))))) × (Int × Unit)) × (Unit × (Unit × Unit))) := toM (ma := M11a) (mo := M11o) (raw11 G19)
theorem fok11 : FnOK Try.prog noG 11 (fnM M11a M11o G11) := ok11 G19 fok19
theorem G11_of {x0 : Int} {x1 : Int} {y : (((Int × (Int × (Int × (Int × ((List (List Int)) × (Int × (Int × (Bool × Unit)))))))) × (Int × Unit)) × (Unit × (Unit × Unit)))} (h : t11 G19 x0 x1 = some y) : G11 (x0, x1, ()) = (true, y) := toM_some (ma := M11a) (mo := M11o) h

/-- slices.Clone[[]byte,byte] -/
@[reducible] def M42a : Md := (.cons (.ro (.sl (.int .u8))) .nil)
@[reducible] def M42o : Md := (.cons (.ow (.int .u8)) .nil)
noncomputable def cx42 (n : Nat) : Cx := { S := noS, P := Try.prog, gl := noG, hint := [], pin := [], nin := 0, fuel := n }
def t42 (x0 : (List Int)) : Option (((List Int) × Unit) × (Unit × Unit)) :=
 (ck (fits (0 + x0.length) 1)
 (some (([] ++ x0, ()), ((), ()))))
theorem eq42 (n : Nat) (x0 : (List Int)) : evK (cx42 n) (body 42) 1 { tm := [(0, .rs (.int .u8) x0 true false)], hp := [], nx := 0 } (finM Try.prog (fnOf 42) M42a M42o) = t42 x0 := by kernel_rfl
theorem eqN42 (n : Nat) : evK (cx42 n) (body 42) 1 { tm := [(0, .nils)], hp := [], nx := 0 } (finM Try.prog (fnOf 42) M42a M42o) = t42 [] := by kernel_rfl
def raw42 (x : ((List Int) × Unit)) : Option (((List Int) × Unit) × (Unit × Unit)) := t42 x.1
theorem ok42 : FnOK Try.prog noG 42 (fnM M42a M42o (toM (ma := M42a) (mo := M42o) (raw42))) :=
  fnM_start (cx42 0) SpecOK.none mixed noG_ok (by kernel_rfl) (by kernel_rfl) (by kernel_rfl) (by kernel_rfl) (by kernel_rfl) (by kernel_rfl) (by kernel_rfl) fun x hx => ⟨0, StartAt.nil1 (fun h => by
    obtain ⟨y, hy⟩ := toM_get (ma := M42a) (mo := M42o) hx
    rw [hy.2]; have e := eqN42 0; rw [← h] at e; exact e.trans hy.1) (by
    obtain ⟨y, hy⟩ := toM_get (ma := M42a) (mo := M42o) hx
    rw [hy.2]; exact (eq42 0 x.1).trans hy.1)⟩

noncomputable def G42 : ((List Int) × Unit) → Bool × (((List Int) × Unit) × (Unit × Unit)) := toM (ma := M42a) (mo := M42o) (raw42)
theorem fok42 : FnOK Try.prog noG 42 (fnM M42a M42o G42) := ok42
theorem G42_of {x0 : (List Int)} {y : (((List Int) × Unit) × (Unit × Unit))} (h : t42 x0 = some y) : G42 (x0, ()) = (true, y) := toM_some (ma := M42a) (mo := M42o) h
theorem clone42 (l : List Int) (h : l.length ≤ 140737488355328) : G42 (l, ()) = (true, ((l, ()), ((), ()))) := by
  refine G42_of ?_
  unfold t42
  rw [show fits (0 + l.length) 1 = true from decide_eq_true (by omega)]
  rfl


/-- link.clone -/
@[reducible] def M41a : Md := (.cons (.ro (.cons (.int .u64) (.cons (.int .u64) (.cons (.int .u64) (.cons (.int .u64) (.cons (.sl (.sl (.int .u8))) (.cons (.int .i64) (.cons (.int .i64) (.cons .bool .nil))))))))) .nil)
@[reducible] def M41o : Md := (.cons (.cons (.ro (.int .u64)) (.cons (.ro (.int .u64)) (.cons (.ro (.int .u64)) (.cons (.ro (.int .u64)) (.cons (.ow (.sl (.int .u8))) (.cons (.ro (.int .i64)) (.cons (.ro (.int .i64)) (.cons (.ro .bool) .nil)))))))) .nil)
noncomputable def cx41 (F42 : ((List Int) × Unit) → Bool × (((List Int) × Unit) × (Unit × Unit))) (n : Nat) : Cx := { S := (addV noS 42 (fnM M42a M42o F42)), P := Try.prog, gl := noG, hint := [(58, [1, 2, 3, 12, 13, 14])], pin := [], nin := 0, fuel := n }
noncomputable def l41_58_0' (F42 : ((List Int) × Unit) → Bool × (((List Int) × Unit) × (Unit × Unit))) (n k : Nat) (v0 : List (List Int)) (v1 : Int) (v2 : Int) (v3 : List (List Int)) (v4 : Int) (v5 : Int) (v6 : Int) (v7 : Int) (v8 : Int) (v9 : Int) (v10 : Bool) (v11 : Int) (v12 : Int) (v13 : Int) (v14 : Int) (v15 : List (List Int)) (v16 : Int) (v17 : Int) (v18 : Bool) : Option (((Int × (Int × (Int × (Int × ((List (List Int)) × (Int × (Int × (Bool × Unit)))))))) × Unit) × (Unit × Unit)) :=
  loopAt (cx41 F42 n) (body 41) (bits 58) [] k { tm := [(1, .ptr 0 0 []), (2, .ptr 1 0 []), (3, .hw 2), (12, .rs (.sl (.int .u8)) v0 false false), (13, .int .i64 v1), (14, .int .i64 v2)], hp := [(2, some (.row (.sl (.int .u8)) v3)), (1, some (.box (.cons (.int .u64 v4) (.cons (.int .u64 v5) (.cons (.int .u64 v6) (.cons (.int .u64 v7) (.cons (.nils) (.cons (.int .i64 v8) (.cons (.int .i64 v9) (.cons (.bool v10) (.nil))))))))))), (0, some (.box (.cons (.int .u64 v11) (.cons (.int .u64 v12) (.cons (.int .u64 v13) (.cons (.int .u64 v14) (.cons (.rs (.sl (.int .u8)) v15 false false) (.cons (.int .i64 v16) (.cons (.int .i64 v17) (.cons (.bool v18) (.nil)))))))))))], nx := 3 } (finM Try.prog (fnOf 41) M41a M41o)
noncomputable def l41_58_0 : (((List Int) × Unit) → Bool × (((List Int) × Unit) × (Unit × Unit))) → Nat → Nat → List (List Int) → Int → Int → List (List Int) → Int → Int → Int → Int → Int → Int → Bool → Int → Int → Int → Int → List (List Int) → Int → Int → Bool → Option (((Int × (Int × (Int × (Int × ((List (List Int)) × (Int × (Int × (Bool × Unit)))))))) × Unit) × (Unit × Unit)) := (sealed l41_58_0').1
theorem l41_58_0_e : l41_58_0' = l41_58_0 := (sealed l41_58_0').2.symm
theorem l41_58_0_s' (F42 : ((List Int) × Unit) → Bool × (((List Int) × Unit) × (Unit × Unit))) (n k : Nat) (v0 : List (List Int)) (v1 : Int) (v2 : Int) (v3 : List (List Int)) (v4 : Int) (v5 : Int) (v6 : Int) (v7 : Int) (v8 : Int) (v9 : Int) (v10 : Bool) (v11 : Int) (v12 : Int) (v13 : Int) (v14 : Int) (v15 : List (List Int)) (v16 : Int) (v17 : Int) (v18 : Bool) : l41_58_0' F42 n (k + 1) v0 v1 v2 v3 v4 v5 v6 v7 v8 v9 v10 v11 v12 v13 v14 v15 v16 v17 v18 =
 (bif (decide (v2 < v1)) then
 (ck (rng v2 v0.length)
 (cl (F42 (v0.getD v2.toNat [], ())) fun r13 =>
 (ck (fits (v3.length + 1) 24)
 (l41_58_0' F42 n k v0 v1 (IntKind.i64.wrap (v2 + (1 : Int))) (v3 ++ [r13.1.1]) v4 v5 v6 v7 v8 v9 v10 v11 v12 v13 v14 v15 v16 v17 v18))))
 else
 (some (((v11, v12, v13, v14, v3, v16, v17, v18, ()), ()), ((), ())))) := by kernel_rfl
theorem l41_58_0_s (F42 : ((List Int) × Unit) → Bool × (((List Int) × Unit) × (Unit × Unit))) (n k : Nat) (v0 : List (List Int)) (v1 : Int) (v2 : Int) (v3 : List (List Int)) (v4 : Int) (v5 : Int) (v6 : Int) (v7 : Int) (v8 : Int) (v9 : Int) (v10 : Bool) (v11 : Int) (v12 : Int) (v13 : Int) (v14 : Int) (v15 : List (List Int)) (v16 : Int) (v17 : Int) (v18 : Bool) : l41_58_0 F42 n (k + 1) v0 v1 v2 v3 v4 v5 v6 v7 v8 v9 v10 v11 v12 v13 v14 v15 v16 v17 v18 =
 (bif (decide (v2 < v1)) then
 (ck (rng v2 v0.length)
 (cl (F42 (v0.getD v2.toNat [], ())) fun r13 =>
 (ck (fits (v3.length + 1) 24)
 (l41_58_0 F42 n k v0 v1 (IntKind.i64.wrap (v2 + (1 : Int))) (v3 ++ [r13.1.1]) v4 v5 v6 v7 v8 v9 v10 v11 v12 v13 v14 v15 v16 v17 v18))))
 else
 (some (((v11, v12, v13, v14, v3, v16, v17, v18, ()), ()), ((), ())))) := by
  have h := l41_58_0_s' F42 n k v0 v1 v2 v3 v4 v5 v6 v7 v8 v9 v10 v11 v12 v13 v14 v15 v16 v17 v18
  rw [l41_58_0_e] at h
  exact h
theorem l41_58_0_z' (F42 : ((List Int) × Unit) → Bool × (((List Int) × Unit) × (Unit × Unit))) (n : Nat) (v0 : List (List Int)) (v1 : Int) (v2 : Int) (v3 : List (List Int)) (v4 : Int) (v5 : Int) (v6 : Int) (v7 : Int) (v8 : Int) (v9 : Int) (v10 : Bool) (v11 : Int) (v12 : Int) (v13 : Int) (v14 : Int) (v15 : List (List Int)) (v16 : Int) (v17 : Int) (v18 : Bool) : l41_58_0' F42 n 0 v0 v1 v2 v3 v4 v5 v6 v7 v8 v9 v10 v11 v12 v13 v14 v15 v16 v17 v18 =
 none := by kernel_rfl
theorem l41_58_0_z (F42 : ((List Int) × Unit) → Bool × (((List Int) × Unit) × (Unit × Unit))) (n : Nat) (v0 : List (List Int)) (v1 : Int) (v2 : Int) (v3 : List (List Int)) (v4 : Int) (v5 : Int) (v6 : Int) (v7 : Int) (v8 : Int) (v9 : Int) (v10 : Bool) (v11 : Int) (v12 : Int) (v13 : Int) (v14 : Int) (v15 : List (List Int)) (v16 : Int) (v17 : Int) (v18 : Bool) : l41_58_0 F42 n 0 v0 v1 v2 v3 v4 v5 v6 v7 v8 v9 v10 v11 v12 v13 v14 v15 v16 v17 v18 =
 none := by
  have h := l41_58_0_z' F42 n v0 v1 v2 v3 v4 v5 v6 v7 v8 v9 v10 v11 v12 v13 v14 v15 v16 v17 v18
  rw [l41_58_0_e] at h
  exact h
theorem eq41' (F42 : ((List Int) × Unit) → Bool × (((List Int) × Unit) × (Unit × Unit))) (n : Nat) (x0 : Int) (x1 : Int) (x2 : Int) (x3 : Int) (x4 : (List (List Int))) (x5 : Int) (x6 : Int) (x7 : Bool) : runM (cx41 F42 n) (fnOf 41) (body 41) M41a M41o ((x0, x1, x2, x3, x4, x5, x6, x7, ()), ()) =
 (ck (decide (0 ≤ (0 : Int)) && decide ((0 : Int) ≤ (IntKind.i64.wrap ((x4.length : Int) + (1 : Int)))) && decide (24 * (IntKind.i64.wrap ((x4.length : Int) + (1 : Int))) ≤ 2 ^ 48) && decide ((IntKind.i64.wrap ((x4.length : Int) + (1 : Int))) < 2 ^ 62))
 (l41_58_0' F42 n n x4 (x4.length : Int) (0 : Int) [] (0 : Int) (0 : Int) (0 : Int) (0 : Int) (0 : Int) (0 : Int) false x0 x1 x2 x3 x4 x5 x6 x7)) := by kernel_rfl
theorem eq41 (F42 : ((List Int) × Unit) → Bool × (((List Int) × Unit) × (Unit × Unit))) (n : Nat) (x0 : Int) (x1 : Int) (x2 : Int) (x3 : Int) (x4 : (List (List Int))) (x5 : Int) (x6 : Int) (x7 : Bool) : runM (cx41 F42 n) (fnOf 41) (body 41) M41a M41o ((x0, x1, x2, x3, x4, x5, x6, x7, ()), ()) =
 (ck (decide (0 ≤ (0 : Int)) && decide ((0 : Int) ≤ (IntKind.i64.wrap ((x4.length : Int) + (1 : Int)))) && decide (24 * (IntKind.i64.wrap ((x4.length : Int) + (1 : Int))) ≤ 2 ^ 48) && decide ((IntKind.i64.wrap ((x4.length : Int) + (1 : Int))) < 2 ^ 62))
 (l41_58_0 F42 n n x4 (x4.length : Int) (0 : Int) [] (0 : Int) (0 : Int) (0 : Int) (0 : Int) (0 : Int) (0 : Int) false x0 x1 x2 x3 x4 x5 x6 x7)) := by
  have h := eq41' F42 n x0 x1 x2 x3 x4 x5 x6 x7
  rw [l41_58_0_e] at h
  exact h
theorem ok41 (F42 : ((List Int) × Unit) → Bool × (((List Int) × Unit) × (Unit × Unit))) (h42 : FnOK Try.prog noG 42 (fnM M42a M42o F42)) (f : ((Int × (Int × (Int × (Int × ((List (List Int)) × (Int × (Int × (Bool × Unit)))))))) × Unit) → Bool × (((Int × (Int × (Int × (Int × ((List (List Int)) × (Int × (Int × (Bool × Unit)))))))) × Unit) × (Unit × Unit))) (hrun : ∀ x, (f x).1 = true → ∃ n, runM (cx41 F42 n) (fnOf 41) (body 41) M41a M41o x = some (f x).2) : FnOK Try.prog noG 41 (fnM M41a M41o f) :=
  fnM_sound (cx41 F42 0) (SpecOK.addV SpecOK.none h42) mixed noG_ok (by kernel_rfl) (by kernel_rfl) (by kernel_rfl) (by kernel_rfl) (by kernel_rfl) (by kernel_rfl) (by kernel_rfl) (fun x h => by obtain ⟨n, hn⟩ := hrun x h; exact ⟨n + 0, hn⟩)

def G41 (x : (Int × (Int × (Int × (Int × (List (List Int) × (Int × (Int × (Bool × Unit)))))))) × Unit) : Bool × (((Int × (Int × (Int × (Int × (List (List Int) × (Int × (Int × (Bool × Unit)))))))) × Unit) × (Unit × Unit)) :=
  (decide (x.1.2.2.2.2.1.length < 1099511627776) && x.1.2.2.2.2.1.all fun b => decide (b.length ≤ 140737488355328), ((x.1, ()), ((), ())))
theorem lp41 (n : Nat) (l : List (List Int)) (hl : l.length < 1099511627776) (ha : ∀ b ∈ l, b.length ≤ 140737488355328) (a1 a2 a3 a4 a5 a6 : Int) (a7 : Bool) (b1 b2 b3 b4 : Int) (b5 : List (List Int)) (b6 b7 : Int) (b8 : Bool) : ∀ (k i : Nat), i ≤ l.length → l.length - i < k →
    l41_58_0 G42 n k l l.length i (l.take i) a1 a2 a3 a4 a5 a6 a7 b1 b2 b3 b4 b5 b6 b7 b8 = some (((b1, b2, b3, b4, l, b6, b7, b8, ()), ()), ((), ())) := by
  intro k
  induction k with
  | zero => intro i h1 h2; omega
  | succ k ih =>
    intro i h1 h2
    rw [l41_58_0_s]
    by_cases hi : i < l.length
    · rw [decide_eq_true (show (i : Int) < l.length by omega), show rng (i : Int) l.length = true from rng_ok (by omega) (by omega), Int.toNat_natCast, wrap_i64 (show -9223372036854775808 ≤ (i : Int) + 1 by omega) (by omega)]
      simp only [cond_true, ck_true]
      have hg : l.getD i [] = l[i] := by rw [List.getD_eq_getElem?_getD, List.getElem?_eq_getElem hi]; rfl
      rw [hg, clone42 _ (ha _ (List.getElem_mem hi)), cl_true, show fits ((l.take i).length + 1) 24 = true from decide_eq_true (by rw [List.length_take]; omega), ck_true]
      have := ih (i + 1) (by omega) (by omega)
      rw [← List.take_append_getElem hi] at this
      exact this
    · rw [decide_eq_false (by omega), List.take_of_length_le (by omega)]; rfl
theorem run41 (x : (Int × (Int × (Int × (Int × (List (List Int) × (Int × (Int × (Bool × Unit)))))))) × Unit) (h : (G41 x).1 = true) : ∃ n, runM (cx41 G42 n) (fnOf 41) (body 41) M41a M41o x = some (G41 x).2 := by
  obtain ⟨⟨a, b, c, d, l, e, f, g, ⟨⟩⟩, ⟨⟩⟩ := x
  simp only [G41, Bool.and_eq_true, decide_eq_true_eq, List.all_eq_true] at h
  obtain ⟨h1, h2⟩ := h
  refine ⟨l.length + 1, ?_⟩
  rw [eq41, wrap_i64 (show -9223372036854775808 ≤ (l.length : Int) + 1 by omega) (by omega), decide_eq_true (show (0 : Int) ≤ 0 by omega), decide_eq_true (show (0 : Int) ≤ (l.length : Int) + 1 by omega), decide_eq_true (show 24 * ((l.length : Int) + 1) ≤ 2 ^ 48 by omega), decide_eq_true (show (l.length : Int) + 1 < 2 ^ 62 by omega)]
  exact lp41 _ l h1 h2 _ _ _ _ _ _ _ _ _ _ _ _ _ _ _ (l.length + 1) 0 (by omega) (by omega)
theorem clone41 (a b c d : Int) (l : List (List Int)) (e f : Int) (g : Bool) (h1 : l.length < 1099511627776) (h2 : ∀ x ∈ l, x.length ≤ 140737488355328) : G41 ((a, b, c, d, l, e, f, g, ()), ()) = (true, (((a, b, c, d, l, e, f, g, ()), ()), ((), ()))) := by
  have : (l.all fun b => decide (b.length ≤ 140737488355328)) = true := by simpa using h2
  simp only [G41, decide_eq_true h1, this, Bool.and_self]

theorem fok41 : FnOK Try.prog noG 41 (fnM M41a M41o G41) := ok41 G42 fok42 G41 run41

/-- link.Put -/
@[reducible] def M13a : Md := (.cons (.ro (.cons (.int .u64) (.cons (.int .u64) (.cons (.int .u64) (.cons (.int .u64) (.cons (.sl (.sl (.int .u8))) (.cons (.int .i64) (.cons (.int .i64) (.cons .bool .nil))))))))) (.cons (.ro (.sl (.int .u8))) .nil))
@[reducible] def M13o : Md := (.cons (.ro (.cons (.int .u64) (.cons (.int .u64) (.cons (.int .u64) (.cons (.int .u64) (.cons (.sl (.sl (.int .u8))) (.cons (.int .i64) (.cons (.int .i64) (.cons .bool .nil))))))))) (.cons (.ro (.int .i64)) .nil))
noncomputable def cx13 (F19 : ((Int × (Int × (Int × (Int × ((List (List Int)) × (Int × (Int × (Bool × Unit)))))))) × Unit) → Bool × ((Int × Unit) × (Unit × Unit))) (F42 : ((List Int) × Unit) → Bool × (((List Int) × Unit) × (Unit × Unit))) (F41 : ((Int × (Int × (Int × (Int × ((List (List Int)) × (Int × (Int × (Bool × Unit)))))))) × Unit) → Bool × (((Int × (Int × (Int × (Int × ((List (List Int)) × (Int × (Int × (Bool × Unit)))))))) × Unit) × (Unit × Unit))) (n : Nat) : Cx := { S := (addV (addV (addV noS 19 (fnM M19a M19o F19)) 42 (fnM M42a M42o F42)) 41 (fnM M41a M41o F41)), P := Try.prog, gl := noG, hint := [], pin := [], nin := 0, fuel := n }
def t13 (F19 : ((Int × (Int × (Int × (Int × ((List (List Int)) × (Int × (Int × (Bool × Unit)))))))) × Unit) → Bool × ((Int × Unit) × (Unit × Unit))) (F42 : ((List Int) × Unit) → Bool × (((List Int) × Unit) × (Unit × Unit))) (F41 : ((Int × (Int × (Int × (Int × ((List (List Int)) × (Int × (Int × (Bool × Unit)))))))) × Unit) → Bool × (((Int × (Int × (Int × (Int × ((List (List Int)) × (Int × (Int × (Bool × Unit)))))))) × Unit) × (Unit × Unit))) (x0 : Int) (x1 : Int) (x2 : Int) (x3 : Int) (x4 : (List (List Int))) (x5 : Int) (x6 : Int) (x7 : Bool) (x8 : (List Int)) : Option (((Int × (Int × (Int × (Int × ((List (List Int)) × (Int × (Int × (Bool × Unit)))))))) × (Int × Unit)) × (Unit × (Unit × Unit))) :=
 (cl (F19 ((x0, x1, x2, x3, x4, x5, x6, x7, ()), ())) fun r16 =>
 (bif (r16.1.1 != (0 : Int)) then
 (some ((((0 : Int), (0 : Int), (0 : Int), (0 : Int), [], (0 : Int), (0 : Int), false, ()), r16.1.1, ()), ((), (), ())))
 else
 (bif (decide ((x8.length : Int) > (1048576 : Int))) then
 (some ((((0 : Int), (0 : Int), (0 : Int), (0 : Int), [], (0 : Int), (0 : Int), false, ()), (3 : Int), ()), ((), (), ())))
 else
 (bif (decide ((x4.length : Int) ≥ (64 : Int))) then
 (some ((((0 : Int), (0 : Int), (0 : Int), (0 : Int), [], (0 : Int), (0 : Int), false, ()), (9 : Int), ()), ((), (), ())))
 else
 (cl (F41 ((x0, x1, x2, x3, x4, x5, x6, x7, ()), ())) fun r17 =>
 (jn (fun (y173_0 : Int) =>
 (cl (F42 (x8, ())) fun r18 =>
 (ck (fits (r17.1.1.2.2.2.2.1.length + 1) 24)
 (some (((r17.1.1.1, r17.1.1.2.1, (IntKind.u64.wrap (r17.1.1.2.2.1 + (1 : Int))), r17.1.1.2.2.2.1, r17.1.1.2.2.2.2.1 ++ [r18.1.1], y173_0, r17.1.1.2.2.2.2.2.2.1, r17.1.1.2.2.2.2.2.2.2.1, ()), (0 : Int), ()), ((), (), ())))))) fun (j173 : Int → Option (((Int × (Int × (Int × (Int × ((List (List Int)) × (Int × (Int × (Bool × Unit)))))))) × (Int × Unit)) × (Unit × (Unit × Unit)))) =>
 (bif ((r17.1.1.2.2.2.2.1.length : Int) == (0 : Int)) then
 (j173 r17.1.1.2.2.2.2.2.2.1)
 else
 (j173 r17.1.1.2.2.2.2.2.1))))))))
theorem eq13 (F19 : ((Int × (Int × (Int × (Int × ((List (List Int)) × (Int × (Int × (Bool × Unit)))))))) × Unit) → Bool × ((Int × Unit) × (Unit × Unit))) (F42 : ((List Int) × Unit) → Bool × (((List Int) × Unit) × (Unit × Unit))) (F41 : ((Int × (Int × (Int × (Int × ((List (List Int)) × (Int × (Int × (Bool × Unit)))))))) × Unit) → Bool × (((Int × (Int × (Int × (Int × ((List (List Int)) × (Int × (Int × (Bool × Unit)))))))) × Unit) × (Unit × Unit))) (n : Nat) (x0 : Int) (x1 : Int) (x2 : Int) (x3 : Int) (x4 : (List (List Int))) (x5 : Int) (x6 : Int) (x7 : Bool) (x8 : (List Int)) : runM (cx13 F19 F42 F41 n) (fnOf 13) (body 13) M13a M13o ((x0, x1, x2, x3, x4, x5, x6, x7, ()), x8, ()) = t13 F19 F42 F41 x0 x1 x2 x3 x4 x5 x6 x7 x8 := by kernel_rfl
def raw13 (F19 : ((Int × (Int × (Int × (Int × ((List (List Int)) × (Int × (Int × (Bool × Unit)))))))) × Unit) → Bool × ((Int × Unit) × (Unit × Unit))) (F42 : ((List Int) × Unit) → Bool × (((List Int) × Unit) × (Unit × Unit))) (F41 : ((Int × (Int × (Int × (Int × ((List (List Int)) × (Int × (Int × (Bool × Unit)))))))) × Unit) → Bool × (((Int × (Int × (Int × (Int × ((List (List Int)) × (Int × (Int × (Bool × Unit)))))))) × Unit) × (Unit × Unit))) (x : ((Int × (Int × (Int × (Int × ((List (List Int)) × (Int × (Int × (Bool × Unit)))))))) × ((List Int) × Unit))) : Option (((Int × (Int × (Int × (Int × ((List (List Int)) × (Int × (Int × (Bool × Unit)))))))) × (Int × Unit)) × (Unit × (Unit × Unit))) := t13 F19 F42 F41 x.1.1 x.1.2.1 x.1.2.2.1 x.1.2.2.2.1 x.1.2.2.2.2.1 x.1.2.2.2.2.2.1 x.1.2.2.2.2.2.2.1 x.1.2.2.2.2.2.2.2.1 x.2.1
theorem ok13 (F19 : ((Int × (Int × (Int × (Int × ((List (List Int)) × (Int × (Int × (Bool × Unit)))))))) × Unit) → Bool × ((Int × Unit) × (Unit × Unit))) (F42 : ((List Int) × Unit) → Bool × (((List Int) × Unit) × (Unit × Unit))) (F41 : ((Int × (Int × (Int × (Int × ((List (List Int)) × (Int × (Int × (Bool × Unit)))))))) × Unit) → Bool × (((Int × (Int × (Int × (Int × ((List (List Int)) × (Int × (Int × (Bool × Unit)))))))) × Unit) × (Unit × Unit))) (h19 : FnOK Try.prog noG 19 (fnM M19a M19o F19)) (h42 : FnOK Try.prog noG 42 (fnM M42a M42o F42)) (h41 : FnOK Try.prog noG 41 (fnM M41a M41o F41)) : FnOK Try.prog noG 13 (fnM M13a M13o (toM (ma := M13a) (mo := M13o) (raw13 F19 F42 F41))) :=
  fnM_sound (cx13 F19 F42 F41 0) (SpecOK.addV (SpecOK.addV (SpecOK.addV SpecOK.none h19) h42) h41) mixed noG_ok (by kernel_rfl) (by kernel_rfl) (by kernel_rfl) (by kernel_rfl) (by kernel_rfl) (by kernel_rfl) (by kernel_rfl) (toM_run fun x => ⟨0, by have h := eq13 F19 F42 F41 0 x.1.1 x.1.2.1 x.1.2.2.1 x.1.2.2.2.1 x.1.2.2.2.2.1 x.1.2.2.2.2.2.1 x.1.2.2.2.2.2.2.1 x.1.2.2.2.2.2.2.2.1 x.2.1; exact h⟩)

noncomputable def G13 : ((Int × (Int × (Int × (Int × ((List (List Int)) × (Int × (Int × (Bool × Unit)))))))) × ((List Int) × Unit)) → Bool × (((Int × (Int × (Int × (Int × ((List (List Int)) × (Int × (Int × (Bool × Unit)))))))) × (Int × Unit)) × (Unit × (Unit × Unit))) := toM (ma := M13a) (mo := M13o) (raw13 G19 G42 G41)
theorem fok13 : FnOK Try.prog noG 13 (fnM M13a M13o G13) := ok13 G19 G42 G41 fok19 fok42 fok41
theorem G13_of {x0 : Int} {x1 : Int} {x2 : Int} {x3 : Int} {x4 : (List (List Int))} {x5 : Int} {x6 : Int} {x7 : Bool} {x8 : (List Int)} {y : (((Int × (Int × (Int × (Int × ((List (List Int)) × (Int × (Int × (Bool × Unit)))))))) × (Int × Unit)) × (Unit × (Unit × Unit)))} (h : t13 G19 G42 G41 x0 x1 x2 x3 x4 x5 x6 x7 x8 = some y) : G13 ((x0, x1, x2, x3, x4, x5, x6, x7, ()), x8, ()) = (true, y) := toM_some (ma := M13a) (mo := M13o) h

/-- link.first -/
@[reducible] def M47a : Md := (.cons (.ro (.cons (.int .u64) (.cons (.int .u64) (.cons (.int .u64) (.cons (.int .u64) (.cons (.sl (.sl (.int .u8))) (.cons (.int .i64) (.cons (.int .i64) (.cons .bool .nil))))))))) .nil)
@[reducible] def M47o : Md := (.cons (.ro (.int .u64)) .nil)
noncomputable def cx47 (n : Nat) : Cx := { S := noS, P := Try.prog, gl := noG, hint := [], pin := [], nin := 0, fuel := n }
def t47 (x0 : Int) (x1 : Int) (x2 : Int) (x3 : Int) (x4 : (List (List Int))) (x5 : Int) (x6 : Int) (x7 : Bool) : Option ((Int × Unit) × (Unit × Unit)) :=
 (some (((IntKind.u64.wrap (x2 - (IntKind.u64.wrap (x4.length : Int)))), ()), ((), ())))
theorem eq47 (n : Nat) (x0 : Int) (x1 : Int) (x2 : Int) (x3 : Int) (x4 : (List (List Int))) (x5 : Int) (x6 : Int) (x7 : Bool) : runM (cx47 n) (fnOf 47) (body 47) M47a M47o ((x0, x1, x2, x3, x4, x5, x6, x7, ()), ()) = t47 x0 x1 x2 x3 x4 x5 x6 x7 := by kernel_rfl
def raw47 (x : ((Int × (Int × (Int × (Int × ((List (List Int)) × (Int × (Int × (Bool × Unit)))))))) × Unit)) : Option ((Int × Unit) × (Unit × Unit)) := t47 x.1.1 x.1.2.1 x.1.2.2.1 x.1.2.2.2.1 x.1.2.2.2.2.1 x.1.2.2.2.2.2.1 x.1.2.2.2.2.2.2.1 x.1.2.2.2.2.2.2.2.1
theorem ok47 : FnOK Try.prog noG 47 (fnM M47a M47o (toM (ma := M47a) (mo := M47o) (raw47))) :=
  fnM_sound (cx47 0) SpecOK.none mixed noG_ok (by kernel_rfl) (by kernel_rfl) (by kernel_rfl) (by kernel_rfl) (by kernel_rfl) (by kernel_rfl) (by kernel_rfl) (toM_run fun x => ⟨0, by have h := eq47 0 x.1.1 x.1.2.1 x.1.2.2.1 x.1.2.2.2.1 x.1.2.2.2.2.1 x.1.2.2.2.2.2.1 x.1.2.2.2.2.2.2.1 x.1.2.2.2.2.2.2.2.1; exact h⟩)

noncomputable def G47 : ((Int × (Int × (Int × (Int × ((List (List Int)) × (Int × (Int × (Bool × Unit)))))))) × Unit) → Bool × ((Int × Unit) × (Unit × Unit)) := toM (ma := M47a) (mo := M47o) (raw47)
theorem fok47 : FnOK Try.prog noG 47 (fnM M47a M47o G47) := ok47
theorem G47_of {x0 : Int} {x1 : Int} {x2 : Int} {x3 : Int} {x4 : (List (List Int))} {x5 : Int} {x6 : Int} {x7 : Bool} {y : ((Int × Unit) × (Unit × Unit))} (h : t47 x0 x1 x2 x3 x4 x5 x6 x7 = some y) : G47 ((x0, x1, x2, x3, x4, x5, x6, x7, ()), ()) = (true, y) := toM_some (ma := M47a) (mo := M47o) h

/-- link.Send -/
@[reducible] def M21a : Md := (.cons (.ro (.cons (.int .u64) (.cons (.int .u64) (.cons (.int .u64) (.cons (.int .u64) (.cons (.sl (.sl (.int .u8))) (.cons (.int .i64) (.cons (.int .i64) (.cons .bool .nil))))))))) .nil)
@[reducible] def M21o : Md := (.cons (.ro (.cons (.int .u64) (.cons (.int .u64) (.cons (.int .u64) (.cons (.int .u64) (.cons (.sl (.int .u8)) .nil)))))) (.cons (.ro (.cons (.int .u64) (.cons (.int .u64) (.cons (.int .u64) (.cons (.int .u64) (.cons (.sl (.sl (.int .u8))) (.cons (.int .i64) (.cons (.int .i64) (.cons .bool .nil))))))))) (.cons (.ro .bool) .nil)))
noncomputable def cx21 (F19 : ((Int × (Int × (Int × (Int × ((List (List Int)) × (Int × (Int × (Bool × Unit)))))))) × Unit) → Bool × ((Int × Unit) × (Unit × Unit))) (F42 : ((List Int) × Unit) → Bool × (((List Int) × Unit) × (Unit × Unit))) (F41 : ((Int × (Int × (Int × (Int × ((List (List Int)) × (Int × (Int × (Bool × Unit)))))))) × Unit) → Bool × (((Int × (Int × (Int × (Int × ((List (List Int)) × (Int × (Int × (Bool × Unit)))))))) × Unit) × (Unit × Unit))) (F47 : ((Int × (Int × (Int × (Int × ((List (List Int)) × (Int × (Int × (Bool × Unit)))))))) × Unit) → Bool × ((Int × Unit) × (Unit × Unit))) (n : Nat) : Cx := { S := (addV (addV (addV (addV noS 19 (fnM M19a M19o F19)) 42 (fnM M42a M42o F42)) 41 (fnM M41a M41o F41)) 47 (fnM M47a M47o F47)), P := Try.prog, gl := noG, hint := [], pin := [], nin := 0, fuel := n }
def t21 (F19 : ((Int × (Int × (Int × (Int × ((List (List Int)) × (Int × (Int × (Bool × Unit)))))))) × Unit) → Bool × ((Int × Unit) × (Unit × Unit))) (F42 : ((List Int) × Unit) → Bool × (((List Int) × Unit) × (Unit × Unit))) (F41 : ((Int × (Int × (Int × (Int × ((List (List Int)) × (Int × (Int × (Bool × Unit)))))))) × Unit) → Bool × (((Int × (Int × (Int × (Int × ((List (List Int)) × (Int × (Int × (Bool × Unit)))))))) × Unit) × (Unit × Unit))) (F47 : ((Int × (Int × (Int × (Int × ((List (List Int)) × (Int × (Int × (Bool × Unit)))))))) × Unit) → Bool × ((Int × Unit) × (Unit × Unit))) (x0 : Int) (x1 : Int) (x2 : Int) (x3 : Int) (x4 : (List (List Int))) (x5 : Int) (x6 : Int) (x7 : Bool) : Option (((Int × (Int × (Int × (Int × ((List Int) × Unit))))) × ((Int × (Int × (Int × (Int × ((List (List Int)) × (Int × (Int × (Bool × Unit)))))))) × (Bool × Unit))) × (Unit × Unit)) :=
 (cl (F41 ((x0, x1, x2, x3, x4, x5, x6, x7, ()), ())) fun r24 =>
 (cl (F19 ((x0, x1, x2, x3, x4, x5, x6, x7, ()), ())) fun r25 =>
 (bif (r25.1.1 != (0 : Int)) then
 (some ((((0 : Int), (0 : Int), (0 : Int), (0 : Int), [], ()), (r24.1.1.1, r24.1.1.2.1, r24.1.1.2.2.1, r24.1.1.2.2.2.1, r24.1.1.2.2.2.2.1, r24.1.1.2.2.2.2.2.1, r24.1.1.2.2.2.2.2.2.1, r24.1.1.2.2.2.2.2.2.2.1, ()), false, ()), ((), ())))
 else
 (jn (fun (y205_0 : Bool) =>
 (bif y205_0 then
 (cl (F47 ((x0, x1, x2, x3, x4, x5, x6, x7, ()), ())) fun r26 =>
 (ck (rng (0 : Int) x4.length)
 (cl (F42 (x4.getD 0 [], ())) fun r27 =>
 (some (((x0, x1, r26.1.1, x3, r27.1.1, ()), (r24.1.1.1, r24.1.1.2.1, r24.1.1.2.2.1, r24.1.1.2.2.2.1, r24.1.1.2.2.2.2.1, (0 : Int), r24.1.1.2.2.2.2.2.2.1, false, ()), true, ()), ((), ()))))))
 else
 (bif (!x7) then
 (some ((((0 : Int), (0 : Int), (0 : Int), (0 : Int), [], ()), (r24.1.1.1, r24.1.1.2.1, r24.1.1.2.2.1, r24.1.1.2.2.2.1, r24.1.1.2.2.2.2.1, r24.1.1.2.2.2.2.2.1, r24.1.1.2.2.2.2.2.2.1, r24.1.1.2.2.2.2.2.2.2.1, ()), false, ()), ((), ())))
 else
 (some (((x0, x1, (0 : Int), x3, [], ()), (r24.1.1.1, r24.1.1.2.1, r24.1.1.2.2.1, r24.1.1.2.2.2.1, r24.1.1.2.2.2.2.1, r24.1.1.2.2.2.2.2.1, r24.1.1.2.2.2.2.2.2.1, false, ()), true, ()), ((), ())))))) fun (j205 : Bool → Option (((Int × (Int × (Int × (Int × ((List Int) × Unit))))) × ((Int × (Int × (Int × (Int × ((List (List Int)) × (Int × (Int × (Bool × Unit)))))))) × (Bool × Unit))) × (Unit × Unit))) =>
 (bif (decide ((x4.length : Int) > (0 : Int))) then
 (j205 (x5 == x6))
 else
 (j205 false))))))
theorem eq21 (F19 : ((Int × (Int × (Int × (Int × ((List (List Int)) × (Int × (Int × (Bool × Unit)))))))) × Unit) → Bool × ((Int × Unit) × (Unit × Unit))) (F42 : ((List Int) × Unit) → Bool × (((List Int) × Unit) × (Unit × Unit))) (F41 : ((Int × (Int × (Int × (Int × ((List (List Int)) × (Int × (Int × (Bool × Unit)))))))) × Unit) → Bool × (((Int × (Int × (Int × (Int × ((List (List Int)) × (Int × (Int × (Bool × Unit)))))))) × Unit) × (Unit × Unit))) (F47 : ((Int × (Int × (Int × (Int × ((List (List Int)) × (Int × (Int × (Bool × Unit)))))))) × Unit) → Bool × ((Int × Unit) × (Unit × Unit))) (n : Nat) (x0 : Int) (x1 : Int) (x2 : Int) (x3 : Int) (x4 : (List (List Int))) (x5 : Int) (x6 : Int) (x7 : Bool) : runM (cx21 F19 F42 F41 F47 n) (fnOf 21) (body 21) M21a M21o ((x0, x1, x2, x3, x4, x5, x6, x7, ()), ()) = t21 F19 F42 F41 F47 x0 x1 x2 x3 x4 x5 x6 x7 := by kernel_rfl
def raw21 (F19 : ((Int × (Int × (Int × (Int × ((List (List Int)) × (Int × (Int × (Bool × Unit)))))))) × Unit) → Bool × ((Int × Unit) × (Unit × Unit))) (F42 : ((List Int) × Unit) → Bool × (((List Int) × Unit) × (Unit × Unit))) (F41 : ((Int × (Int × (Int × (Int × ((List (List Int)) × (Int × (Int × (Bool × Unit)))))))) × Unit) → Bool × (((Int × (Int × (Int × (Int × ((List (List Int)) × (Int × (Int × (Bool × Unit)))))))) × Unit) × (Unit × Unit))) (F47 : ((Int × (Int × (Int × (Int × ((List (List Int)) × (Int × (Int × (Bool × Unit)))))))) × Unit) → Bool × ((Int × Unit) × (Unit × Unit))) (x : ((Int × (Int × (Int × (Int × ((List (List Int)) × (Int × (Int × (Bool × Unit)))))))) × Unit)) : Option (((Int × (Int × (Int × (Int × ((List Int) × Unit))))) × ((Int × (Int × (Int × (Int × ((List (List Int)) × (Int × (Int × (Bool × Unit)))))))) × (Bool × Unit))) × (Unit × Unit)) := t21 F19 F42 F41 F47 x.1.1 x.1.2.1 x.1.2.2.1 x.1.2.2.2.1 x.1.2.2.2.2.1 x.1.2.2.2.2.2.1 x.1.2.2.2.2.2.2.1 x.1.2.2.2.2.2.2.2.1
theorem ok21 (F19 : ((Int × (Int × (Int × (Int × ((List (List Int)) × (Int × (Int × (Bool × Unit)))))))) × Unit) → Bool × ((Int × Unit) × (Unit × Unit))) (F42 : ((List Int) × Unit) → Bool × (((List Int) × Unit) × (Unit × Unit))) (F41 : ((Int × (Int × (Int × (Int × ((List (List Int)) × (Int × (Int × (Bool × Unit)))))))) × Unit) → Bool × (((Int × (Int × (Int × (Int × ((List (List Int)) × (Int × (Int × (Bool × Unit)))))))) × Unit) × (Unit × Unit))) (F47 : ((Int × (Int × (Int × (Int × ((List (List Int)) × (Int × (Int × (Bool × Unit)))))))) × Unit) → Bool × ((Int × Unit) × (Unit × Unit))) (h19 : FnOK Try.prog noG 19 (fnM M19a M19o F19)) (h42 : FnOK Try.prog noG 42 (fnM M42a M42o F42)) (h41 : FnOK Try.prog noG 41 (fnM M41a M41o F41)) (h47 : FnOK Try.prog noG 47 (fnM M47a M47o F47)) : FnOK Try.prog noG 21 (fnM M21a M21o (toM (ma := M21a) (mo := M21o) (raw21 F19 F42 F41 F47))) :=
  fnM_sound (cx21 F19 F42 F41 F47 0) (SpecOK.addV (SpecOK.addV (SpecOK.addV (SpecOK.addV SpecOK.none h19) h42) h41) h47) mixed noG_ok (by kernel_rfl) (by kernel_rfl) (by kernel_rfl) (by kernel_rfl) (by kernel_rfl) (by kernel_rfl) (by kernel_rfl) (toM_run fun x => ⟨0, by have h := eq21 F19 F42 F41 F47 0 x.1.1 x.1.2.1 x.1.2.2.1 x.1.2.2.2.1 x.1.2.2.2.2.1 x.1.2.2.2.2.2.1 x.1.2.2.2.2.2.2.1 x.1.2.2.2.2.2.2.2.1; exact h⟩)

noncomputable def G21 : ((Int × (Int × (Int × (Int × ((List (List Int)) × (Int × (Int × (Bool × Unit)))))))) × Unit) → Bool × (((Int × (Int × (Int × (Int × ((List Int) × Unit))))) × ((Int × (Int × (Int × (Int × ((List (List Int)) × (Int × (Int × (Bool × Unit)))))))) × (Bool × Unit))) × (Unit × Unit)) := toM (ma := M21a) (mo := M21o) (raw21 G19 G42 G41 G47)
theorem fok21 : FnOK Try.prog noG 21 (fnM M21a M21o G21) := ok21 G19 G42 G41 G47 fok19 fok42 fok41 fok47
theorem G21_of {x0 : Int} {x1 : Int} {x2 : Int} {x3 : Int} {x4 : (List (List Int))} {x5 : Int} {x6 : Int} {x7 : Bool} {y : (((Int × (Int × (Int × (Int × ((List Int) × Unit))))) × ((Int × (Int × (Int × (Int × ((List (List Int)) × (Int × (Int × (Bool × Unit)))))))) × (Bool × Unit))) × (Unit × Unit))} (h : t21 G19 G42 G41 G47 x0 x1 x2 x3 x4 x5 x6 x7 = some y) : G21 ((x0, x1, x2, x3, x4, x5, x6, x7, ()), ()) = (true, y) := toM_some (ma := M21a) (mo := M21o) h

/-- link.CheckPiece -/
@[reducible] def M27a : Md := (.cons (.ro (.cons (.int .u64) (.cons (.int .u64) (.cons (.int .u64) (.cons (.int .u64) (.cons (.sl (.int .u8)) .nil)))))) .nil)
@[reducible] def M27o : Md := (.cons (.ro (.int .i64)) .nil)
noncomputable def cx27 (n : Nat) : Cx := { S := noS, P := Try.prog, gl := noG, hint := [], pin := [], nin := 0, fuel := n }
def t27 (x0 : Int) (x1 : Int) (x2 : Int) (x3 : Int) (x4 : (List Int)) : Option ((Int × Unit) × (Unit × Unit)) :=
 (bif (decide ((x4.length : Int) > (1048576 : Int))) then
 (some (((3 : Int), ()), ((), ())))
 else
 (jn (fun (y234_0 : Bool) =>
 (bif y234_0 then
 (some (((2 : Int), ()), ((), ())))
 else
 (some (((0 : Int), ()), ((), ()))))) fun (j234 : Bool → Option ((Int × Unit) × (Unit × Unit))) =>
 (bif (decide (x0 < (1 : Int))) then
 (j234 true)
 else
 (bif (decide ((if x3 > (if x2 > (if x1 > x0 then x1 else x0) then x2 else (if x1 > x0 then x1 else x0)) then x3 else (if x2 > (if x1 > x0 then x1 else x0) then x2 else (if x1 > x0 then x1 else x0))) > (9223372036854775808 : Int))) then
 (j234 true)
 else
 (bif (x2 == (0 : Int)) then
 (j234 (decide ((x4.length : Int) > (0 : Int))))
 else
 (j234 false))))))
theorem eq27 (n : Nat) (x0 : Int) (x1 : Int) (x2 : Int) (x3 : Int) (x4 : (List Int)) : runM (cx27 n) (fnOf 27) (body 27) M27a M27o ((x0, x1, x2, x3, x4, ()), ()) = t27 x0 x1 x2 x3 x4 := by kernel_rfl
def raw27 (x : ((Int × (Int × (Int × (Int × ((List Int) × Unit))))) × Unit)) : Option ((Int × Unit) × (Unit × Unit)) := t27 x.1.1 x.1.2.1 x.1.2.2.1 x.1.2.2.2.1 x.1.2.2.2.2.1
theorem ok27 : FnOK Try.prog noG 27 (fnM M27a M27o (toM (ma := M27a) (mo := M27o) (raw27))) :=
  fnM_sound (cx27 0) SpecOK.none mixed noG_ok (by kernel_rfl) (by kernel_rfl) (by kernel_rfl) (by kernel_rfl) (by kernel_rfl) (by kernel_rfl) (by kernel_rfl) (toM_run fun x => ⟨0, by have h := eq27 0 x.1.1 x.1.2.1 x.1.2.2.1 x.1.2.2.2.1 x.1.2.2.2.2.1; exact h⟩)

noncomputable def G27 : ((Int × (Int × (Int × (Int × ((List Int) × Unit))))) × Unit) → Bool × ((Int × Unit) × (Unit × Unit)) := toM (ma := M27a) (mo := M27o) (raw27)
theorem fok27 : FnOK Try.prog noG 27 (fnM M27a M27o G27) := ok27
theorem G27_of {x0 : Int} {x1 : Int} {x2 : Int} {x3 : Int} {x4 : (List Int)} {y : ((Int × Unit) × (Unit × Unit))} (h : t27 x0 x1 x2 x3 x4 = some y) : G27 ((x0, x1, x2, x3, x4, ()), ()) = (true, y) := toM_some (ma := M27a) (mo := M27o) h

/-- link.begins -/
@[reducible] def M56a : Md := (.cons (.bx (.cons (.ro (.int .u64)) (.cons (.ro (.int .u64)) (.cons (.ro (.int .u64)) (.cons (.ro (.int .u64)) (.cons (.ow (.sl (.int .u8))) (.cons (.ro (.int .i64)) (.cons (.ro (.int .i64)) (.cons (.ro .bool) .nil))))))))) (.cons (.ro (.int .u64)) .nil))
@[reducible] def M56o : Md := .nil
noncomputable def cx56 (n : Nat) : Cx := { S := noS, P := Try.prog, gl := noG, hint := [], pin := [0], nin := 2, fuel := n }
def t56 (x0 : Int) (x1 : Int) (x2 : Int) (x3 : Int) (x4 : List (List Int)) (x5 : Int) (x6 : Int) (x7 : Bool) (x8 : Int) : Option (Unit × ((Int × (Int × (Int × (Int × ((List (List Int)) × (Int × (Int × (Bool × Unit)))))))) × (Unit × Unit))) :=
 (jn (fun (y248_0 : Int) (y248_1 : Int) =>
 some ((), ((x0, x8, y248_0, (0 : Int), x4, y248_1, x6, true, ()), (), ()))) fun (j248 : Int → Int → Option (Unit × ((Int × (Int × (Int × (Int × ((List (List Int)) × (Int × (Int × (Bool × Unit)))))))) × (Unit × Unit)))) =>
 (bif (x1 != (0 : Int)) then
 (j248 (IntKind.u64.wrap ((IntKind.u64.wrap (x4.length : Int)) + (1 : Int))) x6)
 else
 (j248 x2 x5)))
theorem eq56 (n : Nat) (x0 : Int) (x1 : Int) (x2 : Int) (x3 : Int) (x4 : List (List Int)) (x5 : Int) (x6 : Int) (x7 : Bool) (x8 : Int) : runM (cx56 n) (fnOf 56) (body 56) M56a M56o ((x0, x1, x2, x3, x4, x5, x6, x7, ()), x8, ()) = t56 x0 x1 x2 x3 x4 x5 x6 x7 x8 := by kernel_rfl
def raw56 (x : ((Int × (Int × (Int × (Int × ((List (List Int)) × (Int × (Int × (Bool × Unit)))))))) × (Int × Unit))) : Option (Unit × ((Int × (Int × (Int × (Int × ((List (List Int)) × (Int × (Int × (Bool × Unit)))))))) × (Unit × Unit))) := t56 x.1.1 x.1.2.1 x.1.2.2.1 x.1.2.2.2.1 x.1.2.2.2.2.1 x.1.2.2.2.2.2.1 x.1.2.2.2.2.2.2.1 x.1.2.2.2.2.2.2.2.1 x.2.1
theorem ok56 : FnOK Try.prog noG 56 (fnM M56a M56o (toM (ma := M56a) (mo := M56o) (raw56))) :=
  fnM_sound (cx56 0) SpecOK.none mixed noG_ok (by kernel_rfl) (by kernel_rfl) (by kernel_rfl) (by kernel_rfl) (by kernel_rfl) (by kernel_rfl) (by kernel_rfl) (toM_run fun x => ⟨0, by have h := eq56 0 x.1.1 x.1.2.1 x.1.2.2.1 x.1.2.2.2.1 x.1.2.2.2.2.1 x.1.2.2.2.2.2.1 x.1.2.2.2.2.2.2.1 x.1.2.2.2.2.2.2.2.1 x.2.1; exact h⟩)

noncomputable def G56 : ((Int × (Int × (Int × (Int × ((List (List Int)) × (Int × (Int × (Bool × Unit)))))))) × (Int × Unit)) → Bool × (Unit × ((Int × (Int × (Int × (Int × ((List (List Int)) × (Int × (Int × (Bool × Unit)))))))) × (Unit × Unit))) := toM (ma := M56a) (mo := M56o) (raw56)
theorem fok56 : FnOK Try.prog noG 56 (fnM M56a M56o G56) := ok56
theorem G56_of {x0 : Int} {x1 : Int} {x2 : Int} {x3 : Int} {x4 : List (List Int)} {x5 : Int} {x6 : Int} {x7 : Bool} {x8 : Int} {y : (Unit × ((Int × (Int × (Int × (Int × ((List (List Int)) × (Int × (Int × (Bool × Unit)))))))) × (Unit × Unit)))} (h : t56 x0 x1 x2 x3 x4 x5 x6 x7 x8 = some y) : G56 ((x0, x1, x2, x3, x4, x5, x6, x7, ()), x8, ()) = (true, y) := toM_some (ma := M56a) (mo := M56o) h

/-- link.Hear -/
@[reducible] def M31a : Md := (.cons (.ro (.cons (.int .u64) (.cons (.int .u64) (.cons (.int .u64) (.cons (.int .u64) (.cons (.sl (.sl (.int .u8))) (.cons (.int .i64) (.cons (.int .i64) (.cons .bool .nil))))))))) (.cons (.ro (.cons (.int .u64) (.cons (.int .u64) (.cons (.int .u64) (.cons (.int .u64) (.cons (.sl (.int .u8)) .nil)))))) .nil))
@[reducible] def M31o : Md := (.cons (.ro (.sl (.int .u8))) (.cons (.ro .bool) (.cons (.ro (.cons (.int .u64) (.cons (.int .u64) (.cons (.int .u64) (.cons (.int .u64) (.cons (.sl (.sl (.int .u8))) (.cons (.int .i64) (.cons (.int .i64) (.cons .bool .nil))))))))) (.cons (.ro (.int .i64)) .nil))))
noncomputable def cx31 (F19 : ((Int × (Int × (Int × (Int × ((List (List Int)) × (Int × (Int × (Bool × Unit)))))))) × Unit) → Bool × ((Int × Unit) × (Unit × Unit))) (F42 : ((List Int) × Unit) → Bool × (((List Int) × Unit) × (Unit × Unit))) (F41 : ((Int × (Int × (Int × (Int × ((List (List Int)) × (Int × (Int × (Bool × Unit)))))))) × Unit) → Bool × (((Int × (Int × (Int × (Int × ((List (List Int)) × (Int × (Int × (Bool × Unit)))))))) × Unit) × (Unit × Unit))) (F47 : ((Int × (Int × (Int × (Int × ((List (List Int)) × (Int × (Int × (Bool × Unit)))))))) × Unit) → Bool × ((Int × Unit) × (Unit × Unit))) (F27 : ((Int × (Int × (Int × (Int × ((List Int) × Unit))))) × Unit) → Bool × ((Int × Unit) × (Unit × Unit))) (F56 : ((Int × (Int × (Int × (Int × ((List (List Int)) × (Int × (Int × (Bool × Unit)))))))) × (Int × Unit)) → Bool × (Unit × ((Int × (Int × (Int × (Int × ((List (List Int)) × (Int × (Int × (Bool × Unit)))))))) × (Unit × Unit)))) (n : Nat) : Cx := { S := (addV (addV (addV (addV (addV (addV noS 19 (fnM M19a M19o F19)) 42 (fnM M42a M42o F42)) 41 (fnM M41a M41o F41)) 47 (fnM M47a M47o F47)) 27 (fnM M27a M27o F27)) 56 (fnM M56a M56o F56)), P := Try.prog, gl := noG, hint := [], pin := [], nin := 0, fuel := n }
def t31 (F19 : ((Int × (Int × (Int × (Int × ((List (List Int)) × (Int × (Int × (Bool × Unit)))))))) × Unit) → Bool × ((Int × Unit) × (Unit × Unit))) (F42 : ((List Int) × Unit) → Bool × (((List Int) × Unit) × (Unit × Unit))) (F41 : ((Int × (Int × (Int × (Int × ((List (List Int)) × (Int × (Int × (Bool × Unit)))))))) × Unit) → Bool × (((Int × (Int × (Int × (Int × ((List (List Int)) × (Int × (Int × (Bool × Unit)))))))) × Unit) × (Unit × Unit))) (F47 : ((Int × (Int × (Int × (Int × ((List (List Int)) × (Int × (Int × (Bool × Unit)))))))) × Unit) → Bool × ((Int × Unit) × (Unit × Unit))) (F27 : ((Int × (Int × (Int × (Int × ((List Int) × Unit))))) × Unit) → Bool × ((Int × Unit) × (Unit × Unit))) (F56 : ((Int × (Int × (Int × (Int × ((List (List Int)) × (Int × (Int × (Bool × Unit)))))))) × (Int × Unit)) → Bool × (Unit × ((Int × (Int × (Int × (Int × ((List (List Int)) × (Int × (Int × (Bool × Unit)))))))) × (Unit × Unit)))) (x0 : Int) (x1 : Int) (x2 : Int) (x3 : Int) (x4 : (List (List Int))) (x5 : Int) (x6 : Int) (x7 : Bool) (x8 : Int) (x9 : Int) (x10 : Int) (x11 : Int) (x12 : (List Int)) : Option (((List Int) × (Bool × ((Int × (Int × (Int × (Int × ((List (List Int)) × (Int × (Int × (Bool × Unit)))))))) × (Int × Unit)))) × (Unit × (Unit × Unit))) :=
 (jn (fun (y270_0 : Int) =>
 (bif (y270_0 != (0 : Int)) then
 (some (([], false, ((0 : Int), (0 : Int), (0 : Int), (0 : Int), [], (0 : Int), (0 : Int), false, ()), y270_0, ()), ((), (), ())))
 else
 (cl (F41 ((x0, x1, x2, x3, x4, x5, x6, x7, ()), ())) fun r38 =>
 (bif (decide (x8 < x1)) then
 (some (([], false, (r38.1.1.1, r38.1.1.2.1, r38.1.1.2.2.1, r38.1.1.2.2.2.1, r38.1.1.2.2.2.2.1, r38.1.1.2.2.2.2.2.1, r38.1.1.2.2.2.2.2.2.1, r38.1.1.2.2.2.2.2.2.2.1, ()), (0 : Int), ()), ((), (), ())))
 else
 (jn (fun (y280_0 : List (List Int)) (y280_1 : Int) (y280_2 : Int) (y280_3 : Int) (y280_4 : Int) (y280_5 : Int) (y280_6 : Int) (y280_7 : Bool) =>
 (jn (fun (y282_0 : Bool) =>
 (bif (x9 != y280_1) then
 (some (([], false, (y280_1, y280_2, y280_3, y280_4, y280_0, y280_5, y280_6, y282_0, ()), (0 : Int), ()), ((), (), ())))
 else
 (cl (F47 ((y280_1, y280_2, y280_3, y280_4, y280_0, y280_5, y280_6, y282_0, ()), ())) fun r40 =>
 (jn (fun (y289_0 : Bool) =>
 (bif y289_0 then
 (ck (decide (0 ≤ (IntKind.u64.wrap ((IntKind.u64.wrap (x11 - r40.1.1)) + (1 : Int)))) && decide ((IntKind.u64.wrap ((IntKind.u64.wrap (x11 - r40.1.1)) + (1 : Int))) ≤ ((y280_0.length : Nat) : Int)))
 (jn (fun (y292_0 : Bool) =>
 (bif y292_0 then
 (some (([], false, (y280_1, y280_2, y280_3, y280_4, (y280_0.drop ((IntKind.u64.wrap ((IntKind.u64.wrap (x11 - r40.1.1)) + (1 : Int))).toNat)).take (y280_0.length - (IntKind.u64.wrap ((IntKind.u64.wrap (x11 - r40.1.1)) + (1 : Int))).toNat), y280_6, y280_6, y282_0, ()), (0 : Int), ()), ((), (), ())))
 else
 (cl (F42 (x12, ())) fun r41 =>
 (some ((r41.1.1, true, (y280_1, y280_2, y280_3, x10, (y280_0.drop ((IntKind.u64.wrap ((IntKind.u64.wrap (x11 - r40.1.1)) + (1 : Int))).toNat)).take (y280_0.length - (IntKind.u64.wrap ((IntKind.u64.wrap (x11 - r40.1.1)) + (1 : Int))).toNat), y280_6, y280_6, y282_0, ()), (0 : Int), ()), ((), (), ())))))) fun (j292 : Bool → Option (((List Int) × (Bool × ((Int × (Int × (Int × (Int × ((List (List Int)) × (Int × (Int × (Bool × Unit)))))))) × (Int × Unit)))) × (Unit × (Unit × Unit)))) =>
 (bif (x10 == (0 : Int)) then
 (j292 true)
 else
 (j292 (x10 != (IntKind.u64.wrap (y280_4 + (1 : Int))))))))
 else
 (jn (fun (y297_0 : Bool) =>
 (bif y297_0 then
 (some (([], false, (y280_1, y280_2, y280_3, y280_4, y280_0, y280_5, y280_6, y282_0, ()), (0 : Int), ()), ((), (), ())))
 else
 (cl (F42 (x12, ())) fun r42 =>
 (some ((r42.1.1, true, (y280_1, y280_2, y280_3, x10, y280_0, y280_5, y280_6, y282_0, ()), (0 : Int), ()), ((), (), ())))))) fun (j297 : Bool → Option (((List Int) × (Bool × ((Int × (Int × (Int × (Int × ((List (List Int)) × (Int × (Int × (Bool × Unit)))))))) × (Int × Unit)))) × (Unit × (Unit × Unit)))) =>
 (bif (x10 == (0 : Int)) then
 (j297 true)
 else
 (j297 (x10 != (IntKind.u64.wrap (y280_4 + (1 : Int))))))))) fun (j289 : Bool → Option (((List Int) × (Bool × ((Int × (Int × (Int × (Int × ((List (List Int)) × (Int × (Int × (Bool × Unit)))))))) × (Int × Unit)))) × (Unit × (Unit × Unit)))) =>
 (bif (decide (x11 ≥ r40.1.1)) then
 (j289 (decide (x11 < y280_3)))
 else
 (j289 false)))))) fun (j282 : Bool → Option (((List Int) × (Bool × ((Int × (Int × (Int × (Int × ((List (List Int)) × (Int × (Int × (Bool × Unit)))))))) × (Int × Unit)))) × (Unit × (Unit × Unit)))) =>
 (jn (fun (y283_0 : Bool) =>
 (bif y283_0 then
 (j282 true)
 else
 (j282 y280_7))) fun (j283 : Bool → Option (((List Int) × (Bool × ((Int × (Int × (Int × (Int × ((List (List Int)) × (Int × (Int × (Bool × Unit)))))))) × (Int × Unit)))) × (Unit × (Unit × Unit)))) =>
 (bif (decide (x10 > (0 : Int))) then
 (j283 true)
 else
 (bif (x9 != (0 : Int)) then
 (j283 (x9 != x0))
 else
 (j283 false)))))) fun (j280 : List (List Int) → Int → Int → Int → Int → Int → Int → Bool → Option (((List Int) × (Bool × ((Int × (Int × (Int × (Int × ((List (List Int)) × (Int × (Int × (Bool × Unit)))))))) × (Int × Unit)))) × (Unit × (Unit × Unit)))) =>
 (bif (decide (x8 > x1)) then
 (cl (F56 ((r38.1.1.1, r38.1.1.2.1, r38.1.1.2.2.1, r38.1.1.2.2.2.1, r38.1.1.2.2.2.2.1, r38.1.1.2.2.2.2.2.1, r38.1.1.2.2.2.2.2.2.1, r38.1.1.2.2.2.2.2.2.2.1, ()), x8, ())) fun r39 =>
 (j280 r39.2.1.2.2.2.2.1 r39.2.1.1 r39.2.1.2.1 r39.2.1.2.2.1 r39.2.1.2.2.2.1 r39.2.1.2.2.2.2.2.1 r39.2.1.2.2.2.2.2.2.1 r39.2.1.2.2.2.2.2.2.2.1))
 else
 (j280 r38.1.1.2.2.2.2.1 r38.1.1.1 r38.1.1.2.1 r38.1.1.2.2.1 r38.1.1.2.2.2.1 r38.1.1.2.2.2.2.2.1 r38.1.1.2.2.2.2.2.2.1 r38.1.1.2.2.2.2.2.2.2.1))))))) fun (j270 : Int → Option (((List Int) × (Bool × ((Int × (Int × (Int × (Int × ((List (List Int)) × (Int × (Int × (Bool × Unit)))))))) × (Int × Unit)))) × (Unit × (Unit × Unit)))) =>
 (cl (F19 ((x0, x1, x2, x3, x4, x5, x6, x7, ()), ())) fun r36 =>
 (bif (r36.1.1 == (0 : Int)) then
 (cl (F27 ((x8, x9, x10, x11, x12, ()), ())) fun r37 =>
 (j270 r37.1.1))
 else
 (j270 r36.1.1))))
theorem eq31 (F19 : ((Int × (Int × (Int × (Int × ((List (List Int)) × (Int × (Int × (Bool × Unit)))))))) × Unit) → Bool × ((Int × Unit) × (Unit × Unit))) (F42 : ((List Int) × Unit) → Bool × (((List Int) × Unit) × (Unit × Unit))) (F41 : ((Int × (Int × (Int × (Int × ((List (List Int)) × (Int × (Int × (Bool × Unit)))))))) × Unit) → Bool × (((Int × (Int × (Int × (Int × ((List (List Int)) × (Int × (Int × (Bool × Unit)))))))) × Unit) × (Unit × Unit))) (F47 : ((Int × (Int × (Int × (Int × ((List (List Int)) × (Int × (Int × (Bool × Unit)))))))) × Unit) → Bool × ((Int × Unit) × (Unit × Unit))) (F27 : ((Int × (Int × (Int × (Int × ((List Int) × Unit))))) × Unit) → Bool × ((Int × Unit) × (Unit × Unit))) (F56 : ((Int × (Int × (Int × (Int × ((List (List Int)) × (Int × (Int × (Bool × Unit)))))))) × (Int × Unit)) → Bool × (Unit × ((Int × (Int × (Int × (Int × ((List (List Int)) × (Int × (Int × (Bool × Unit)))))))) × (Unit × Unit)))) (n : Nat) (x0 : Int) (x1 : Int) (x2 : Int) (x3 : Int) (x4 : (List (List Int))) (x5 : Int) (x6 : Int) (x7 : Bool) (x8 : Int) (x9 : Int) (x10 : Int) (x11 : Int) (x12 : (List Int)) : runM (cx31 F19 F42 F41 F47 F27 F56 n) (fnOf 31) (body 31) M31a M31o ((x0, x1, x2, x3, x4, x5, x6, x7, ()), (x8, x9, x10, x11, x12, ()), ()) = t31 F19 F42 F41 F47 F27 F56 x0 x1 x2 x3 x4 x5 x6 x7 x8 x9 x10 x11 x12 := by kernel_rfl
def raw31 (F19 : ((Int × (Int × (Int × (Int × ((List (List Int)) × (Int × (Int × (Bool × Unit)))))))) × Unit) → Bool × ((Int × Unit) × (Unit × Unit))) (F42 : ((List Int) × Unit) → Bool × (((List Int) × Unit) × (Unit × Unit))) (F41 : ((Int × (Int × (Int × (Int × ((List (List Int)) × (Int × (Int × (Bool × Unit)))))))) × Unit) → Bool × (((Int × (Int × (Int × (Int × ((List (List Int)) × (Int × (Int × (Bool × Unit)))))))) × Unit) × (Unit × Unit))) (F47 : ((Int × (Int × (Int × (Int × ((List (List Int)) × (Int × (Int × (Bool × Unit)))))))) × Unit) → Bool × ((Int × Unit) × (Unit × Unit))) (F27 : ((Int × (Int × (Int × (Int × ((List Int) × Unit))))) × Unit) → Bool × ((Int × Unit) × (Unit × Unit))) (F56 : ((Int × (Int × (Int × (Int × ((List (List Int)) × (Int × (Int × (Bool × Unit)))))))) × (Int × Unit)) → Bool × (Unit × ((Int × (Int × (Int × (Int × ((List (List Int)) × (Int × (Int × (Bool × Unit)))))))) × (Unit × Unit)))) (x : ((Int × (Int × (Int × (Int × ((List (List Int)) × (Int × (Int × (Bool × Unit)))))))) × ((Int × (Int × (Int × (Int × ((List Int) × Unit))))) × Unit))) : Option (((List Int) × (Bool × ((Int × (Int × (Int × (Int × ((List (List Int)) × (Int × (Int × (Bool × Unit)))))))) × (Int × Unit)))) × (Unit × (Unit × Unit))) := t31 F19 F42 F41 F47 F27 F56 x.1.1 x.1.2.1 x.1.2.2.1 x.1.2.2.2.1 x.1.2.2.2.2.1 x.1.2.2.2.2.2.1 x.1.2.2.2.2.2.2.1 x.1.2.2.2.2.2.2.2.1 x.2.1.1 x.2.1.2.1 x.2.1.2.2.1 x.2.1.2.2.2.1 x.2.1.2.2.2.2.1
theorem ok31 (F19 : ((Int × (Int × (Int × (Int × ((List (List Int)) × (Int × (Int × (Bool × Unit)))))))) × Unit) → Bool × ((Int × Unit) × (Unit × Unit))) (F42 : ((List Int) × Unit) → Bool × (((List Int) × Unit) × (Unit × Unit))) (F41 : ((Int × (Int × (Int × (Int × ((List (List Int)) × (Int × (Int × (Bool × Unit)))))))) × Unit) → Bool × (((Int × (Int × (Int × (Int × ((List (List Int)) × (Int × (Int × (Bool × Unit)))))))) × Unit) × (Unit × Unit))) (F47 : ((Int × (Int × (Int × (Int × ((List (List Int)) × (Int × (Int × (Bool × Unit)))))))) × Unit) → Bool × ((Int × Unit) × (Unit × Unit))) (F27 : ((Int × (Int × (Int × (Int × ((List Int) × Unit))))) × Unit) → Bool × ((Int × Unit) × (Unit × Unit))) (F56 : ((Int × (Int × (Int × (Int × ((List (List Int)) × (Int × (Int × (Bool × Unit)))))))) × (Int × Unit)) → Bool × (Unit × ((Int × (Int × (Int × (Int × ((List (List Int)) × (Int × (Int × (Bool × Unit)))))))) × (Unit × Unit)))) (h19 : FnOK Try.prog noG 19 (fnM M19a M19o F19)) (h42 : FnOK Try.prog noG 42 (fnM M42a M42o F42)) (h41 : FnOK Try.prog noG 41 (fnM M41a M41o F41)) (h47 : FnOK Try.prog noG 47 (fnM M47a M47o F47)) (h27 : FnOK Try.prog noG 27 (fnM M27a M27o F27)) (h56 : FnOK Try.prog noG 56 (fnM M56a M56o F56)) : FnOK Try.prog noG 31 (fnM M31a M31o (toM (ma := M31a) (mo := M31o) (raw31 F19 F42 F41 F47 F27 F56))) :=
  fnM_sound (cx31 F19 F42 F41 F47 F27 F56 0) (SpecOK.addV (SpecOK.addV (SpecOK.addV (SpecOK.addV (SpecOK.addV (SpecOK.addV SpecOK.none h19) h42) h41) h47) h27) h56) mixed noG_ok (by kernel_rfl) (by kernel_rfl) (by kernel_rfl) (by kernel_rfl) (by kernel_rfl) (by kernel_rfl) (by kernel_rfl) (toM_run fun x => ⟨0, by have h := eq31 F19 F42 F41 F47 F27 F56 0 x.1.1 x.1.2.1 x.1.2.2.1 x.1.2.2.2.1 x.1.2.2.2.2.1 x.1.2.2.2.2.2.1 x.1.2.2.2.2.2.2.1 x.1.2.2.2.2.2.2.2.1 x.2.1.1 x.2.1.2.1 x.2.1.2.2.1 x.2.1.2.2.2.1 x.2.1.2.2.2.2.1; exact h⟩)

noncomputable def G31 : ((Int × (Int × (Int × (Int × ((List (List Int)) × (Int × (Int × (Bool × Unit)))))))) × ((Int × (Int × (Int × (Int × ((List Int) × Unit))))) × Unit)) → Bool × (((List Int) × (Bool × ((Int × (Int × (Int × (Int × ((List (List Int)) × (Int × (Int × (Bool × Unit)))))))) × (Int × Unit)))) × (Unit × (Unit × Unit))) := toM (ma := M31a) (mo := M31o) (raw31 G19 G42 G41 G47 G27 G56)
theorem fok31 : FnOK Try.prog noG 31 (fnM M31a M31o G31) := ok31 G19 G42 G41 G47 G27 G56 fok19 fok42 fok41 fok47 fok27 fok56
theorem G31_of {x0 : Int} {x1 : Int} {x2 : Int} {x3 : Int} {x4 : (List (List Int))} {x5 : Int} {x6 : Int} {x7 : Bool} {x8 : Int} {x9 : Int} {x10 : Int} {x11 : Int} {x12 : (List Int)} {y : (((List Int) × (Bool × ((Int × (Int × (Int × (Int × ((List (List Int)) × (Int × (Int × (Bool × Unit)))))))) × (Int × Unit)))) × (Unit × (Unit × Unit)))} (h : t31 G19 G42 G41 G47 G27 G56 x0 x1 x2 x3 x4 x5 x6 x7 x8 x9 x10 x11 x12 = some y) : G31 ((x0, x1, x2, x3, x4, x5, x6, x7, ()), (x8, x9, x10, x11, x12, ()), ()) = (true, y) := toM_some (ma := M31a) (mo := M31o) h

/-- link.Tick -/
@[reducible] def M24a : Md := (.cons (.ro (.cons (.int .u64) (.cons (.int .u64) (.cons (.int .u64) (.cons (.int .u64) (.cons (.sl (.sl (.int .u8))) (.cons (.int .i64) (.cons (.int .i64) (.cons .bool .nil))))))))) .nil)
@[reducible] def M24o : Md := (.cons (.ro (.cons (.int .u64) (.cons (.int .u64) (.cons (.int .u64) (.cons (.int .u64) (.cons (.sl (.sl (.int .u8))) (.cons (.int .i64) (.cons (.int .i64) (.cons .bool .nil))))))))) (.cons (.ro (.int .i64)) .nil))
noncomputable def cx24 (F19 : ((Int × (Int × (Int × (Int × ((List (List Int)) × (Int × (Int × (Bool × Unit)))))))) × Unit) → Bool × ((Int × Unit) × (Unit × Unit))) (F41 : ((Int × (Int × (Int × (Int × ((List (List Int)) × (Int × (Int × (Bool × Unit)))))))) × Unit) → Bool × (((Int × (Int × (Int × (Int × ((List (List Int)) × (Int × (Int × (Bool × Unit)))))))) × Unit) × (Unit × Unit))) (n : Nat) : Cx := { S := (addV (addV noS 19 (fnM M19a M19o F19)) 41 (fnM M41a M41o F41)), P := Try.prog, gl := noG, hint := [], pin := [], nin := 0, fuel := n }
def t24 (F19 : ((Int × (Int × (Int × (Int × ((List (List Int)) × (Int × (Int × (Bool × Unit)))))))) × Unit) → Bool × ((Int × Unit) × (Unit × Unit))) (F41 : ((Int × (Int × (Int × (Int × ((List (List Int)) × (Int × (Int × (Bool × Unit)))))))) × Unit) → Bool × (((Int × (Int × (Int × (Int × ((List (List Int)) × (Int × (Int × (Bool × Unit)))))))) × Unit) × (Unit × Unit))) (x0 : Int) (x1 : Int) (x2 : Int) (x3 : Int) (x4 : (List (List Int))) (x5 : Int) (x6 : Int) (x7 : Bool) : Option (((Int × (Int × (Int × (Int × ((List (List Int)) × (Int × (Int × (Bool × Unit)))))))) × (Int × Unit)) × (Unit × Unit)) :=
 (cl (F19 ((x0, x1, x2, x3, x4, x5, x6, x7, ()), ())) fun r48 =>
 (bif (r48.1.1 != (0 : Int)) then
 (some ((((0 : Int), (0 : Int), (0 : Int), (0 : Int), [], (0 : Int), (0 : Int), false, ()), r48.1.1, ()), ((), ())))
 else
 (cl (F41 ((x0, x1, x2, x3, x4, x5, x6, x7, ()), ())) fun r49 =>
 (some (((r49.1.1.1, r49.1.1.2.1, r49.1.1.2.2.1, r49.1.1.2.2.2.1, r49.1.1.2.2.2.2.1, (if (IntKind.i64.wrap (r49.1.1.2.2.2.2.2.1 + (1 : Int))) < r49.1.1.2.2.2.2.2.2.1 then (IntKind.i64.wrap (r49.1.1.2.2.2.2.2.1 + (1 : Int))) else r49.1.1.2.2.2.2.2.2.1), r49.1.1.2.2.2.2.2.2.1, r49.1.1.2.2.2.2.2.2.2.1, ()), (0 : Int), ()), ((), ()))))))
theorem eq24 (F19 : ((Int × (Int × (Int × (Int × ((List (List Int)) × (Int × (Int × (Bool × Unit)))))))) × Unit) → Bool × ((Int × Unit) × (Unit × Unit))) (F41 : ((Int × (Int × (Int × (Int × ((List (List Int)) × (Int × (Int × (Bool × Unit)))))))) × Unit) → Bool × (((Int × (Int × (Int × (Int × ((List (List Int)) × (Int × (Int × (Bool × Unit)))))))) × Unit) × (Unit × Unit))) (n : Nat) (x0 : Int) (x1 : Int) (x2 : Int) (x3 : Int) (x4 : (List (List Int))) (x5 : Int) (x6 : Int) (x7 : Bool) : runM (cx24 F19 F41 n) (fnOf 24) (body 24) M24a M24o ((x0, x1, x2, x3, x4, x5, x6, x7, ()), ()) = t24 F19 F41 x0 x1 x2 x3 x4 x5 x6 x7 := by kernel_rfl
def raw24 (F19 : ((Int × (Int × (Int × (Int × ((List (List Int)) × (Int × (Int × (Bool × Unit)))))))) × Unit) → Bool × ((Int × Unit) × (Unit × Unit))) (F41 : ((Int × (Int × (Int × (Int × ((List (List Int)) × (Int × (Int × (Bool × Unit)))))))) × Unit) → Bool × (((Int × (Int × (Int × (Int × ((List (List Int)) × (Int × (Int × (Bool × Unit)))))))) × Unit) × (Unit × Unit))) (x : ((Int × (Int × (Int × (Int × ((List (List Int)) × (Int × (Int × (Bool × Unit)))))))) × Unit)) : Option (((Int × (Int × (Int × (Int × ((List (List Int)) × (Int × (Int × (Bool × Unit)))))))) × (Int × Unit)) × (Unit × Unit)) := t24 F19 F41 x.1.1 x.1.2.1 x.1.2.2.1 x.1.2.2.2.1 x.1.2.2.2.2.1 x.1.2.2.2.2.2.1 x.1.2.2.2.2.2.2.1 x.1.2.2.2.2.2.2.2.1
theorem ok24 (F19 : ((Int × (Int × (Int × (Int × ((List (List Int)) × (Int × (Int × (Bool × Unit)))))))) × Unit) → Bool × ((Int × Unit) × (Unit × Unit))) (F41 : ((Int × (Int × (Int × (Int × ((List (List Int)) × (Int × (Int × (Bool × Unit)))))))) × Unit) → Bool × (((Int × (Int × (Int × (Int × ((List (List Int)) × (Int × (Int × (Bool × Unit)))))))) × Unit) × (Unit × Unit))) (h19 : FnOK Try.prog noG 19 (fnM M19a M19o F19)) (h41 : FnOK Try.prog noG 41 (fnM M41a M41o F41)) : FnOK Try.prog noG 24 (fnM M24a M24o (toM (ma := M24a) (mo := M24o) (raw24 F19 F41))) :=
  fnM_sound (cx24 F19 F41 0) (SpecOK.addV (SpecOK.addV SpecOK.none h19) h41) mixed noG_ok (by kernel_rfl) (by kernel_rfl) (by kernel_rfl) (by kernel_rfl) (by kernel_rfl) (by kernel_rfl) (by kernel_rfl) (toM_run fun x => ⟨0, by have h := eq24 F19 F41 0 x.1.1 x.1.2.1 x.1.2.2.1 x.1.2.2.2.1 x.1.2.2.2.2.1 x.1.2.2.2.2.2.1 x.1.2.2.2.2.2.2.1 x.1.2.2.2.2.2.2.2.1; exact h⟩)

noncomputable def G24 : ((Int × (Int × (Int × (Int × ((List (List Int)) × (Int × (Int × (Bool × Unit)))))))) × Unit) → Bool × (((Int × (Int × (Int × (Int × ((List (List Int)) × (Int × (Int × (Bool × Unit)))))))) × (Int × Unit)) × (Unit × Unit)) := toM (ma := M24a) (mo := M24o) (raw24 G19 G41)
theorem fok24 : FnOK Try.prog noG 24 (fnM M24a M24o G24) := ok24 G19 G41 fok19 fok41
theorem G24_of {x0 : Int} {x1 : Int} {x2 : Int} {x3 : Int} {x4 : (List (List Int))} {x5 : Int} {x6 : Int} {x7 : Bool} {y : (((Int × (Int × (Int × (Int × ((List (List Int)) × (Int × (Int × (Bool × Unit)))))))) × (Int × Unit)) × (Unit × Unit))} (h : t24 G19 G41 x0 x1 x2 x3 x4 x5 x6 x7 = some y) : G24 ((x0, x1, x2, x3, x4, x5, x6, x7, ()), ()) = (true, y) := toM_some (ma := M24a) (mo := M24o) h

/-- drawbridgelaw18.lives -/
@[reducible] def M9a : Md := .nil
@[reducible] def M9o : Md := (.cons (.ro .bool) .nil)
noncomputable def cx9 (F11 : (Int × (Int × Unit)) → Bool × (((Int × (Int × (Int × (Int × ((List (List Int)) × (Int × (Int × (Bool × Unit)))))))) × (Int × Unit)) × (Unit × (Unit × Unit)))) (F13 : ((Int × (Int × (Int × (Int × ((List (List Int)) × (Int × (Int × (Bool × Unit)))))))) × ((List Int) × Unit)) → Bool × (((Int × (Int × (Int × (Int × ((List (List Int)) × (Int × (Int × (Bool × Unit)))))))) × (Int × Unit)) × (Unit × (Unit × Unit)))) (F21 : ((Int × (Int × (Int × (Int × ((List (List Int)) × (Int × (Int × (Bool × Unit)))))))) × Unit) → Bool × (((Int × (Int × (Int × (Int × ((List Int) × Unit))))) × ((Int × (Int × (Int × (Int × ((List (List Int)) × (Int × (Int × (Bool × Unit)))))))) × (Bool × Unit))) × (Unit × Unit))) (F31 : ((Int × (Int × (Int × (Int × ((List (List Int)) × (Int × (Int × (Bool × Unit)))))))) × ((Int × (Int × (Int × (Int × ((List Int) × Unit))))) × Unit)) → Bool × (((List Int) × (Bool × ((Int × (Int × (Int × (Int × ((List (List Int)) × (Int × (Int × (Bool × Unit)))))))) × (Int × Unit)))) × (Unit × (Unit × Unit)))) (F24 : ((Int × (Int × (Int × (Int × ((List (List Int)) × (Int × (Int × (Bool × Unit)))))))) × Unit) → Bool × (((Int × (Int × (Int × (Int × ((List (List Int)) × (Int × (Int × (Bool × Unit)))))))) × (Int × Unit)) × (Unit × Unit))) (n : Nat) : Cx := { S := (addV (addV (addV (addV (addV noS 11 (fnM M11a M11o F11)) 13 (fnM M13a M13o F13)) 21 (fnM M21a M21o F21)) 31 (fnM M31a M31o F31)) 24 (fnM M24a M24o F24)), P := Try.prog, gl := noG, hint := [], pin := [], nin := 0, fuel := n }
def t9 (F11 : (Int × (Int × Unit)) → Bool × (((Int × (Int × (Int × (Int × ((List (List Int)) × (Int × (Int × (Bool × Unit)))))))) × (Int × Unit)) × (Unit × (Unit × Unit)))) (F13 : ((Int × (Int × (Int × (Int × ((List (List Int)) × (Int × (Int × (Bool × Unit)))))))) × ((List Int) × Unit)) → Bool × (((Int × (Int × (Int × (Int × ((List (List Int)) × (Int × (Int × (Bool × Unit)))))))) × (Int × Unit)) × (Unit × (Unit × Unit)))) (F21 : ((Int × (Int × (Int × (Int × ((List (List Int)) × (Int × (Int × (Bool × Unit)))))))) × Unit) → Bool × (((Int × (Int × (Int × (Int × ((List Int) × Unit))))) × ((Int × (Int × (Int × (Int × ((List (List Int)) × (Int × (Int × (Bool × Unit)))))))) × (Bool × Unit))) × (Unit × Unit))) (F31 : ((Int × (Int × (Int × (Int × ((List (List Int)) × (Int × (Int × (Bool × Unit)))))))) × ((Int × (Int × (Int × (Int × ((List Int) × Unit))))) × Unit)) → Bool × (((List Int) × (Bool × ((Int × (Int × (Int × (Int × ((List (List Int)) × (Int × (Int × (Bool × Unit)))))))) × (Int × Unit)))) × (Unit × (Unit × Unit)))) (F24 : ((Int × (Int × (Int × (Int × ((List (List Int)) × (Int × (Int × (Bool × Unit)))))))) × Unit) → Bool × (((Int × (Int × (Int × (Int × ((List (List Int)) × (Int × (Int × (Bool × Unit)))))))) × (Int × Unit)) × (Unit × Unit))) : Option ((Bool × Unit) × Unit) :=
 (cl (F11 ((5 : Int), (2 : Int), ())) fun r54 =>
 (cl (F11 ((7 : Int), (2 : Int), ())) fun r55 =>
 (jn (fun (y334_0 : Bool) =>
 (bif y334_0 then
 (some ((false, ()), ()))
 else
 (cl (F13 ((r54.1.1.1, r54.1.1.2.1, r54.1.1.2.2.1, r54.1.1.2.2.2.1, r54.1.1.2.2.2.2.1, r54.1.1.2.2.2.2.2.1, r54.1.1.2.2.2.2.2.2.1, r54.1.1.2.2.2.2.2.2.2.1, ()), [(97 : Int)], ())) fun r56 =>
 (cl (F21 ((r56.1.1.1, r56.1.1.2.1, r56.1.1.2.2.1, r56.1.1.2.2.2.1, r56.1.1.2.2.2.2.1, r56.1.1.2.2.2.2.2.1, r56.1.1.2.2.2.2.2.2.1, r56.1.1.2.2.2.2.2.2.2.1, ()), ())) fun r57 =>
 (jn (fun (y339_0 : Bool) =>
 (bif y339_0 then
 (some ((false, ()), ()))
 else
 (cl (F31 ((r55.1.1.1, r55.1.1.2.1, r55.1.1.2.2.1, r55.1.1.2.2.2.1, r55.1.1.2.2.2.2.1, r55.1.1.2.2.2.2.2.1, r55.1.1.2.2.2.2.2.2.1, r55.1.1.2.2.2.2.2.2.2.1, ()), (r57.1.1.1, r57.1.1.2.1, r57.1.1.2.2.1, r57.1.1.2.2.2.1, r57.1.1.2.2.2.2.1, ()), ())) fun r58 =>
 (cl (F21 ((r58.1.2.2.1.1, r58.1.2.2.1.2.1, r58.1.2.2.1.2.2.1, r58.1.2.2.1.2.2.2.1, r58.1.2.2.1.2.2.2.2.1, r58.1.2.2.1.2.2.2.2.2.1, r58.1.2.2.1.2.2.2.2.2.2.1, r58.1.2.2.1.2.2.2.2.2.2.2.1, ()), ())) fun r59 =>
 (jn (fun (y344_0 : Bool) =>
 (bif y344_0 then
 (some ((false, ()), ()))
 else
 (cl (F31 ((r57.1.2.1.1, r57.1.2.1.2.1, r57.1.2.1.2.2.1, r57.1.2.1.2.2.2.1, r57.1.2.1.2.2.2.2.1, r57.1.2.1.2.2.2.2.2.1, r57.1.2.1.2.2.2.2.2.2.1, r57.1.2.1.2.2.2.2.2.2.2.1, ()), (r59.1.1.1, r59.1.1.2.1, r59.1.1.2.2.1, r59.1.1.2.2.2.1, r59.1.1.2.2.2.2.1, ()), ())) fun r60 =>
 (jn (fun (y348_0 : Bool) =>
 (bif y348_0 then
 (some ((false, ()), ()))
 else
 (cl (F24 ((r60.1.2.2.1.1, r60.1.2.2.1.2.1, r60.1.2.2.1.2.2.1, r60.1.2.2.1.2.2.2.1, r60.1.2.2.1.2.2.2.2.1, r60.1.2.2.1.2.2.2.2.2.1, r60.1.2.2.1.2.2.2.2.2.2.1, r60.1.2.2.1.2.2.2.2.2.2.2.1, ()), ())) fun r61 =>
 (cl (F24 ((r61.1.1.1, r61.1.1.2.1, r61.1.1.2.2.1, r61.1.1.2.2.2.1, r61.1.1.2.2.2.2.1, r61.1.1.2.2.2.2.2.1, r61.1.1.2.2.2.2.2.2.1, r61.1.1.2.2.2.2.2.2.2.1, ()), ())) fun r62 =>
 (cl (F21 ((r62.1.1.1, r62.1.1.2.1, r62.1.1.2.2.1, r62.1.1.2.2.2.1, r62.1.1.2.2.2.2.1, r62.1.1.2.2.2.2.2.1, r62.1.1.2.2.2.2.2.2.1, r62.1.1.2.2.2.2.2.2.2.1, ()), ())) fun r63 =>
 (cl (F31 ((r59.1.2.1.1, r59.1.2.1.2.1, r59.1.2.1.2.2.1, r59.1.2.1.2.2.2.1, r59.1.2.1.2.2.2.2.1, r59.1.2.1.2.2.2.2.2.1, r59.1.2.1.2.2.2.2.2.2.1, r59.1.2.1.2.2.2.2.2.2.2.1, ()), (r63.1.1.1, r63.1.1.2.1, r63.1.1.2.2.1, r63.1.1.2.2.2.1, r63.1.1.2.2.2.2.1, ()), ())) fun r64 =>
 (bif r63.1.2.2.1 then
 (bif (r63.1.1.2.1 == (7 : Int)) then
 (bif (r64.1.2.2.2.1 == (0 : Int)) then
 (bif r64.1.2.1 then
 (some ((((bstr r64.1.1) == (bstr [97])), ()), ()))
 else
 (some ((false, ()), ())))
 else
 (some ((false, ()), ())))
 else
 (some ((false, ()), ())))
 else
 (some ((false, ()), ()))))))))) fun (j348 : Bool → Option ((Bool × Unit) × Unit)) =>
 (bif (r60.1.2.2.2.1 != (0 : Int)) then
 (j348 true)
 else
 (j348 (r60.1.2.2.1.2.1 != (7 : Int)))))))) fun (j344 : Bool → Option ((Bool × Unit) × Unit)) =>
 (bif (r58.1.2.2.2.1 != (0 : Int)) then
 (j344 true)
 else
 (bif r58.1.2.1 then
 (j344 true)
 else
 (bif (!r59.1.2.2.1) then
 (j344 true)
 else
 (bif (r59.1.1.2.1 != (5 : Int)) then
 (j344 true)
 else
 (j344 (r59.1.1.2.2.1 != (0 : Int)))))))))))) fun (j339 : Bool → Option ((Bool × Unit) × Unit)) =>
 (bif (r56.1.2.1 != (0 : Int)) then
 (j339 true)
 else
 (bif (!r57.1.2.2.1) then
 (j339 true)
 else
 (bif (r57.1.1.1 != (5 : Int)) then
 (j339 true)
 else
 (bif (r57.1.1.2.1 != (0 : Int)) then
 (j339 true)
 else
 (j339 (r57.1.1.2.2.1 != (1 : Int)))))))))))) fun (j334 : Bool → Option ((Bool × Unit) × Unit)) =>
 (bif (r54.1.2.1 != (0 : Int)) then
 (j334 true)
 else
 (j334 (r55.1.2.1 != (0 : Int)))))))
theorem eq9 (F11 : (Int × (Int × Unit)) → Bool × (((Int × (Int × (Int × (Int × ((List (List Int)) × (Int × (Int × (Bool × Unit)))))))) × (Int × Unit)) × (Unit × (Unit × Unit)))) (F13 : ((Int × (Int × (Int × (Int × ((List (List Int)) × (Int × (Int × (Bool × Unit)))))))) × ((List Int) × Unit)) → Bool × (((Int × (Int × (Int × (Int × ((List (List Int)) × (Int × (Int × (Bool × Unit)))))))) × (Int × Unit)) × (Unit × (Unit × Unit)))) (F21 : ((Int × (Int × (Int × (Int × ((List (List Int)) × (Int × (Int × (Bool × Unit)))))))) × Unit) → Bool × (((Int × (Int × (Int × (Int × ((List Int) × Unit))))) × ((Int × (Int × (Int × (Int × ((List (List Int)) × (Int × (Int × (Bool × Unit)))))))) × (Bool × Unit))) × (Unit × Unit))) (F31 : ((Int × (Int × (Int × (Int × ((List (List Int)) × (Int × (Int × (Bool × Unit)))))))) × ((Int × (Int × (Int × (Int × ((List Int) × Unit))))) × Unit)) → Bool × (((List Int) × (Bool × ((Int × (Int × (Int × (Int × ((List (List Int)) × (Int × (Int × (Bool × Unit)))))))) × (Int × Unit)))) × (Unit × (Unit × Unit)))) (F24 : ((Int × (Int × (Int × (Int × ((List (List Int)) × (Int × (Int × (Bool × Unit)))))))) × Unit) → Bool × (((Int × (Int × (Int × (Int × ((List (List Int)) × (Int × (Int × (Bool × Unit)))))))) × (Int × Unit)) × (Unit × Unit))) (n : Nat) : runM (cx9 F11 F13 F21 F31 F24 n) (fnOf 9) (body 9) M9a M9o () = t9 F11 F13 F21 F31 F24 := by kernel_rfl
def raw9 (F11 : (Int × (Int × Unit)) → Bool × (((Int × (Int × (Int × (Int × ((List (List Int)) × (Int × (Int × (Bool × Unit)))))))) × (Int × Unit)) × (Unit × (Unit × Unit)))) (F13 : ((Int × (Int × (Int × (Int × ((List (List Int)) × (Int × (Int × (Bool × Unit)))))))) × ((List Int) × Unit)) → Bool × (((Int × (Int × (Int × (Int × ((List (List Int)) × (Int × (Int × (Bool × Unit)))))))) × (Int × Unit)) × (Unit × (Unit × Unit)))) (F21 : ((Int × (Int × (Int × (Int × ((List (List Int)) × (Int × (Int × (Bool × Unit)))))))) × Unit) → Bool × (((Int × (Int × (Int × (Int × ((List Int) × Unit))))) × ((Int × (Int × (Int × (Int × ((List (List Int)) × (Int × (Int × (Bool × Unit)))))))) × (Bool × Unit))) × (Unit × Unit))) (F31 : ((Int × (Int × (Int × (Int × ((List (List Int)) × (Int × (Int × (Bool × Unit)))))))) × ((Int × (Int × (Int × (Int × ((List Int) × Unit))))) × Unit)) → Bool × (((List Int) × (Bool × ((Int × (Int × (Int × (Int × ((List (List Int)) × (Int × (Int × (Bool × Unit)))))))) × (Int × Unit)))) × (Unit × (Unit × Unit)))) (F24 : ((Int × (Int × (Int × (Int × ((List (List Int)) × (Int × (Int × (Bool × Unit)))))))) × Unit) → Bool × (((Int × (Int × (Int × (Int × ((List (List Int)) × (Int × (Int × (Bool × Unit)))))))) × (Int × Unit)) × (Unit × Unit))) (x : Unit) : Option ((Bool × Unit) × Unit) := t9 F11 F13 F21 F31 F24
theorem ok9 (F11 : (Int × (Int × Unit)) → Bool × (((Int × (Int × (Int × (Int × ((List (List Int)) × (Int × (Int × (Bool × Unit)))))))) × (Int × Unit)) × (Unit × (Unit × Unit)))) (F13 : ((Int × (Int × (Int × (Int × ((List (List Int)) × (Int × (Int × (Bool × Unit)))))))) × ((List Int) × Unit)) → Bool × (((Int × (Int × (Int × (Int × ((List (List Int)) × (Int × (Int × (Bool × Unit)))))))) × (Int × Unit)) × (Unit × (Unit × Unit)))) (F21 : ((Int × (Int × (Int × (Int × ((List (List Int)) × (Int × (Int × (Bool × Unit)))))))) × Unit) → Bool × (((Int × (Int × (Int × (Int × ((List Int) × Unit))))) × ((Int × (Int × (Int × (Int × ((List (List Int)) × (Int × (Int × (Bool × Unit)))))))) × (Bool × Unit))) × (Unit × Unit))) (F31 : ((Int × (Int × (Int × (Int × ((List (List Int)) × (Int × (Int × (Bool × Unit)))))))) × ((Int × (Int × (Int × (Int × ((List Int) × Unit))))) × Unit)) → Bool × (((List Int) × (Bool × ((Int × (Int × (Int × (Int × ((List (List Int)) × (Int × (Int × (Bool × Unit)))))))) × (Int × Unit)))) × (Unit × (Unit × Unit)))) (F24 : ((Int × (Int × (Int × (Int × ((List (List Int)) × (Int × (Int × (Bool × Unit)))))))) × Unit) → Bool × (((Int × (Int × (Int × (Int × ((List (List Int)) × (Int × (Int × (Bool × Unit)))))))) × (Int × Unit)) × (Unit × Unit))) (h11 : FnOK Try.prog noG 11 (fnM M11a M11o F11)) (h13 : FnOK Try.prog noG 13 (fnM M13a M13o F13)) (h21 : FnOK Try.prog noG 21 (fnM M21a M21o F21)) (h31 : FnOK Try.prog noG 31 (fnM M31a M31o F31)) (h24 : FnOK Try.prog noG 24 (fnM M24a M24o F24)) : FnOK Try.prog noG 9 (fnM M9a M9o (toM (ma := M9a) (mo := M9o) (raw9 F11 F13 F21 F31 F24))) :=
  fnM_sound (cx9 F11 F13 F21 F31 F24 0) (SpecOK.addV (SpecOK.addV (SpecOK.addV (SpecOK.addV (SpecOK.addV SpecOK.none h11) h13) h21) h31) h24) mixed noG_ok (by kernel_rfl) (by kernel_rfl) (by kernel_rfl) (by kernel_rfl) (by kernel_rfl) (by kernel_rfl) (by kernel_rfl) (toM_run fun x => ⟨0, by have h := eq9 F11 F13 F21 F31 F24 0; exact h⟩)

noncomputable def G9 : Unit → Bool × ((Bool × Unit) × Unit) := toM (ma := M9a) (mo := M9o) (raw9 G11 G13 G21 G31 G24)
theorem fok9 : FnOK Try.prog noG 9 (fnM M9a M9o G9) := ok9 G11 G13 G21 G31 G24 fok11 fok13 fok21 fok31 fok24
theorem G9_of {y : ((Bool × Unit) × Unit)} (h : t9 G11 G13 G21 G31 G24 = some y) : G9 () = (true, y) := toM_some (ma := M9a) (mo := M9o) h

/-- drawbridgekit.LightLists -/
@[reducible] def M46a : Md := (.cons (.ro (.sl (.sl (.int .u8)))) (.cons (.ro (.int .i64)) (.cons (.ro (.int .i64)) .nil)))
@[reducible] def M46o : Md := (.cons (.ro .bool) .nil)
noncomputable def cx46 (n : Nat) : Cx := { S := noS, P := Try.prog, gl := noG, hint := [(26, [0, 1, 2, 7])], pin := [], nin := 0, fuel := n }
noncomputable def l46_26_0' (n k : Nat) (v0 : List (List Int)) (v1 : Int) (v2 : Int) (v3 : Int) : Option ((Bool × Unit) × (Unit × (Unit × (Unit × Unit)))) :=
  loopAt (cx46 n) (body 46) (bits 26) [] k { tm := [(0, .rs (.sl (.int .u8)) v0 false false), (1, .int .i64 v1), (2, .int .i64 v2), (7, .int .i64 v3)], hp := [], nx := 0 } (finM Try.prog (fnOf 46) M46a M46o)
noncomputable def l46_26_0 : Nat → Nat → List (List Int) → Int → Int → Int → Option ((Bool × Unit) × (Unit × (Unit × (Unit × Unit)))) := (sealed l46_26_0').1
theorem l46_26_0_e : l46_26_0' = l46_26_0 := (sealed l46_26_0').2.symm
theorem l46_26_0_s' (n k : Nat) (v0 : List (List Int)) (v1 : Int) (v2 : Int) (v3 : Int) : l46_26_0' n (k + 1) v0 v1 v2 v3 =
 (jn (fun (y373_0 : Bool) =>
 (bif y373_0 then
 (ck (rng v3 v0.length)
 (bif (decide (((v0.getD v3.toNat []).length : Int) > v2)) then
 (some ((false, ()), ((), (), (), ())))
 else
 (l46_26_0' n k v0 v1 v2 (IntKind.i64.wrap (v3 + (1 : Int))))))
 else
 (some (((decide ((v0.length : Int) ≤ v1)), ()), ((), (), (), ()))))) fun (j373 : Bool → Option ((Bool × Unit) × (Unit × (Unit × (Unit × Unit))))) =>
 (bif (decide (v3 < (v0.length : Int))) then
 (j373 (decide (v3 ≤ v1)))
 else
 (j373 false))) := by kernel_rfl
theorem l46_26_0_s (n k : Nat) (v0 : List (List Int)) (v1 : Int) (v2 : Int) (v3 : Int) : l46_26_0 n (k + 1) v0 v1 v2 v3 =
 (jn (fun (y373_0 : Bool) =>
 (bif y373_0 then
 (ck (rng v3 v0.length)
 (bif (decide (((v0.getD v3.toNat []).length : Int) > v2)) then
 (some ((false, ()), ((), (), (), ())))
 else
 (l46_26_0 n k v0 v1 v2 (IntKind.i64.wrap (v3 + (1 : Int))))))
 else
 (some (((decide ((v0.length : Int) ≤ v1)), ()), ((), (), (), ()))))) fun (j373 : Bool → Option ((Bool × Unit) × (Unit × (Unit × (Unit × Unit))))) =>
 (bif (decide (v3 < (v0.length : Int))) then
 (j373 (decide (v3 ≤ v1)))
 else
 (j373 false))) := by
  have h := l46_26_0_s' n k v0 v1 v2 v3
  rw [l46_26_0_e] at h
  exact h
theorem l46_26_0_z' (n : Nat) (v0 : List (List Int)) (v1 : Int) (v2 : Int) (v3 : Int) : l46_26_0' n 0 v0 v1 v2 v3 =
 none := by kernel_rfl
theorem l46_26_0_z (n : Nat) (v0 : List (List Int)) (v1 : Int) (v2 : Int) (v3 : Int) : l46_26_0 n 0 v0 v1 v2 v3 =
 none := by
  have h := l46_26_0_z' n v0 v1 v2 v3
  rw [l46_26_0_e] at h
  exact h
theorem eq46' (n : Nat) (x0 : (List (List Int))) (x1 : Int) (x2 : Int) : runM (cx46 n) (fnOf 46) (body 46) M46a M46o (x0, x1, x2, ()) =
 (l46_26_0' n n x0 x1 x2 (0 : Int)) := by kernel_rfl
theorem eq46 (n : Nat) (x0 : (List (List Int))) (x1 : Int) (x2 : Int) : runM (cx46 n) (fnOf 46) (body 46) M46a M46o (x0, x1, x2, ()) =
 (l46_26_0 n n x0 x1 x2 (0 : Int)) := by
  have h := eq46' n x0 x1 x2
  rw [l46_26_0_e] at h
  exact h
theorem ok46 (f : ((List (List Int)) × (Int × (Int × Unit))) → Bool × ((Bool × Unit) × (Unit × (Unit × (Unit × Unit))))) (hrun : ∀ x, (f x).1 = true → ∃ n, runM (cx46 n) (fnOf 46) (body 46) M46a M46o x = some (f x).2) : FnOK Try.prog noG 46 (fnM M46a M46o f) :=
  fnM_sound (cx46 0) SpecOK.none mixed noG_ok (by kernel_rfl) (by kernel_rfl) (by kernel_rfl) (by kernel_rfl) (by kernel_rfl) (by kernel_rfl) (by kernel_rfl) (fun x h => by obtain ⟨n, hn⟩ := hrun x h; exact ⟨n + 0, hn⟩)

def G46 (x : List (List Int) × (Int × (Int × Unit))) : Bool × ((Bool × Unit) × (Unit × (Unit × (Unit × Unit)))) :=
  (decide (x.1.length < 9223372036854775808), ((decide ((x.1.length : Int) ≤ x.2.1) && x.1.all fun b => decide ((b.length : Int) ≤ x.2.2.1), ()), ((), (), (), ())))
theorem lp46 (n : Nat) (l : List (List Int)) (c m : Int) (hl : l.length < 9223372036854775808) : ∀ (k i : Nat), i ≤ l.length → l.length - i < k →
    l46_26_0 n k l c m i = some ((decide ((l.length : Int) ≤ c) && (l.drop i).all fun b => decide ((b.length : Int) ≤ m), ()), ((), (), (), ())) := by
  intro k
  induction k with
  | zero => intro i h1 h2; omega
  | succ k ih =>
    intro i h1 h2
    rw [l46_26_0_s]
    by_cases hi : i < l.length
    · rw [decide_eq_true (show (i : Int) < l.length by omega), show rng (i : Int) l.length = true from rng_ok (by omega) (by omega), Int.toNat_natCast, wrap_i64 (show -9223372036854775808 ≤ (i : Int) + 1 by omega) (by omega), drop_get l [] i hi, List.all_cons]
      simp only [cond_true, ck_true, jn]
      by_cases hc : (i : Int) ≤ c
      · rw [decide_eq_true hc]
        by_cases h : ((l.getD i []).length : Int) ≤ m
        · rw [decide_eq_false (show ¬ ((l.getD i []).length : Int) > m by omega), decide_eq_true h, Bool.true_and]
          exact ih (i + 1) (by omega) (by omega)
        · rw [decide_eq_true (show ((l.getD i []).length : Int) > m by omega), decide_eq_false h, Bool.false_and, Bool.and_false]
          rfl
      · rw [decide_eq_false hc, decide_eq_false (show ¬ (l.length : Int) ≤ c by omega), Bool.false_and]
        rfl
    · rw [decide_eq_false (show ¬ (i : Int) < l.length by omega), drop_end l i (by omega)]
      simp only [jn, cond_false, List.all_nil, Bool.and_true]
theorem run46 (x : List (List Int) × (Int × (Int × Unit))) (h : (G46 x).1 = true) : ∃ n, runM (cx46 n) (fnOf 46) (body 46) M46a M46o x = some (G46 x).2 := by
  obtain ⟨l, c, m, ⟨⟩⟩ := x
  have h : l.length < 9223372036854775808 := of_decide_eq_true h
  refine ⟨l.length + 1, ?_⟩
  rw [eq46]
  exact lp46 _ l c m h (l.length + 1) 0 (by omega) (by omega)

theorem fok46 : FnOK Try.prog noG 46 (fnM M46a M46o G46) := ok46 G46 run46

/-- drawbridgekit.LightLink -/
@[reducible] def M20a : Md := (.cons (.ro (.cons (.int .u64) (.cons (.int .u64) (.cons (.int .u64) (.cons (.int .u64) (.cons (.sl (.sl (.int .u8))) (.cons (.int .i64) (.cons (.int .i64) (.cons .bool .nil))))))))) (.cons (.ro (.int .i64)) (.cons (.ro (.int .i64)) .nil)))
@[reducible] def M20o : Md := (.cons (.ro .bool) .nil)
noncomputable def cx20 (F46 : ((List (List Int)) × (Int × (Int × Unit))) → Bool × ((Bool × Unit) × (Unit × (Unit × (Unit × Unit))))) (n : Nat) : Cx := { S := (addV noS 46 (fnM M46a M46o F46)), P := Try.prog, gl := noG, hint := [], pin := [], nin := 0, fuel := n }
def t20 (F46 : ((List (List Int)) × (Int × (Int × Unit))) → Bool × ((Bool × Unit) × (Unit × (Unit × (Unit × Unit))))) (x0 : Int) (x1 : Int) (x2 : Int) (x3 : Int) (x4 : (List (List Int))) (x5 : Int) (x6 : Int) (x7 : Bool) (x8 : Int) (x9 : Int) : Option ((Bool × Unit) × (Unit × (Unit × (Unit × Unit)))) :=
 (cl (F46 (x4, x8, x9, ())) fun r68 =>
 (some ((r68.1.1, ()), ((), (), (), ()))))
theorem eq20 (F46 : ((List (List Int)) × (Int × (Int × Unit))) → Bool × ((Bool × Unit) × (Unit × (Unit × (Unit × Unit))))) (n : Nat) (x0 : Int) (x1 : Int) (x2 : Int) (x3 : Int) (x4 : (List (List Int))) (x5 : Int) (x6 : Int) (x7 : Bool) (x8 : Int) (x9 : Int) : runM (cx20 F46 n) (fnOf 20) (body 20) M20a M20o ((x0, x1, x2, x3, x4, x5, x6, x7, ()), x8, x9, ()) = t20 F46 x0 x1 x2 x3 x4 x5 x6 x7 x8 x9 := by kernel_rfl
def raw20 (F46 : ((List (List Int)) × (Int × (Int × Unit))) → Bool × ((Bool × Unit) × (Unit × (Unit × (Unit × Unit))))) (x : ((Int × (Int × (Int × (Int × ((List (List Int)) × (Int × (Int × (Bool × Unit)))))))) × (Int × (Int × Unit)))) : Option ((Bool × Unit) × (Unit × (Unit × (Unit × Unit)))) := t20 F46 x.1.1 x.1.2.1 x.1.2.2.1 x.1.2.2.2.1 x.1.2.2.2.2.1 x.1.2.2.2.2.2.1 x.1.2.2.2.2.2.2.1 x.1.2.2.2.2.2.2.2.1 x.2.1 x.2.2.1
theorem ok20 (F46 : ((List (List Int)) × (Int × (Int × Unit))) → Bool × ((Bool × Unit) × (Unit × (Unit × (Unit × Unit))))) (h46 : FnOK Try.prog noG 46 (fnM M46a M46o F46)) : FnOK Try.prog noG 20 (fnM M20a M20o (toM (ma := M20a) (mo := M20o) (raw20 F46))) :=
  fnM_sound (cx20 F46 0) (SpecOK.addV SpecOK.none h46) mixed noG_ok (by kernel_rfl) (by kernel_rfl) (by kernel_rfl) (by kernel_rfl) (by kernel_rfl) (by kernel_rfl) (by kernel_rfl) (toM_run fun x => ⟨0, by have h := eq20 F46 0 x.1.1 x.1.2.1 x.1.2.2.1 x.1.2.2.2.1 x.1.2.2.2.2.1 x.1.2.2.2.2.2.1 x.1.2.2.2.2.2.2.1 x.1.2.2.2.2.2.2.2.1 x.2.1 x.2.2.1; exact h⟩)

noncomputable def G20 : ((Int × (Int × (Int × (Int × ((List (List Int)) × (Int × (Int × (Bool × Unit)))))))) × (Int × (Int × Unit))) → Bool × ((Bool × Unit) × (Unit × (Unit × (Unit × Unit)))) := toM (ma := M20a) (mo := M20o) (raw20 G46)
theorem fok20 : FnOK Try.prog noG 20 (fnM M20a M20o G20) := ok20 G46 fok46
theorem G20_of {x0 : Int} {x1 : Int} {x2 : Int} {x3 : Int} {x4 : (List (List Int))} {x5 : Int} {x6 : Int} {x7 : Bool} {x8 : Int} {x9 : Int} {y : ((Bool × Unit) × (Unit × (Unit × (Unit × Unit))))} (h : t20 G46 x0 x1 x2 x3 x4 x5 x6 x7 x8 x9 = some y) : G20 ((x0, x1, x2, x3, x4, x5, x6, x7, ()), x8, x9, ()) = (true, y) := toM_some (ma := M20a) (mo := M20o) h

/-- drawbridgekit.Lists -/
@[reducible] def M23a : Md := (.cons (.ro (.sl (.sl (.int .u8)))) (.cons (.ro (.sl (.sl (.int .u8)))) .nil))
@[reducible] def M23o : Md := (.cons (.ro .bool) .nil)
noncomputable def cx23 (n : Nat) : Cx := { S := noS, P := Try.prog, gl := noG, hint := [(58, [0, 1, 5])], pin := [], nin := 0, fuel := n }
noncomputable def l23_58_0' (n k : Nat) (v0 : List (List Int)) (v1 : List (List Int)) (v2 : Int) : Option ((Bool × Unit) × (Unit × (Unit × Unit))) :=
  loopAt (cx23 n) (body 23) (bits 58) [] k { tm := [(0, .rs (.sl (.int .u8)) v0 false false), (1, .rs (.sl (.int .u8)) v1 false false), (5, .int .i64 v2)], hp := [], nx := 0 } (finM Try.prog (fnOf 23) M23a M23o)
noncomputable def l23_58_0 : Nat → Nat → List (List Int) → List (List Int) → Int → Option ((Bool × Unit) × (Unit × (Unit × Unit))) := (sealed l23_58_0').1
theorem l23_58_0_e : l23_58_0' = l23_58_0 := (sealed l23_58_0').2.symm
theorem l23_58_0_s' (n k : Nat) (v0 : List (List Int)) (v1 : List (List Int)) (v2 : Int) : l23_58_0' n (k + 1) v0 v1 v2 =
 (bif (decide (v2 < (v0.length : Int))) then
 (ck (rng v2 v0.length)
 (ck (rng v2 v1.length)
 (bif (!((bstr (v0.getD v2.toNat [])) == (bstr (v1.getD v2.toNat [])))) then
 (some ((false, ()), ((), (), ())))
 else
 (l23_58_0' n k v0 v1 (IntKind.i64.wrap (v2 + (1 : Int)))))))
 else
 (some ((true, ()), ((), (), ())))) := by kernel_rfl
theorem l23_58_0_s (n k : Nat) (v0 : List (List Int)) (v1 : List (List Int)) (v2 : Int) : l23_58_0 n (k + 1) v0 v1 v2 =
 (bif (decide (v2 < (v0.length : Int))) then
 (ck (rng v2 v0.length)
 (ck (rng v2 v1.length)
 (bif (!((bstr (v0.getD v2.toNat [])) == (bstr (v1.getD v2.toNat [])))) then
 (some ((false, ()), ((), (), ())))
 else
 (l23_58_0 n k v0 v1 (IntKind.i64.wrap (v2 + (1 : Int)))))))
 else
 (some ((true, ()), ((), (), ())))) := by
  have h := l23_58_0_s' n k v0 v1 v2
  rw [l23_58_0_e] at h
  exact h
theorem l23_58_0_z' (n : Nat) (v0 : List (List Int)) (v1 : List (List Int)) (v2 : Int) : l23_58_0' n 0 v0 v1 v2 =
 none := by kernel_rfl
theorem l23_58_0_z (n : Nat) (v0 : List (List Int)) (v1 : List (List Int)) (v2 : Int) : l23_58_0 n 0 v0 v1 v2 =
 none := by
  have h := l23_58_0_z' n v0 v1 v2
  rw [l23_58_0_e] at h
  exact h
theorem eq23' (n : Nat) (x0 : (List (List Int))) (x1 : (List (List Int))) : runM (cx23 n) (fnOf 23) (body 23) M23a M23o (x0, x1, ()) =
 (bif ((x0.length : Int) != (x1.length : Int)) then
 (some ((false, ()), ((), (), ())))
 else
 (l23_58_0' n n x0 x1 (0 : Int))) := by kernel_rfl
theorem eq23 (n : Nat) (x0 : (List (List Int))) (x1 : (List (List Int))) : runM (cx23 n) (fnOf 23) (body 23) M23a M23o (x0, x1, ()) =
 (bif ((x0.length : Int) != (x1.length : Int)) then
 (some ((false, ()), ((), (), ())))
 else
 (l23_58_0 n n x0 x1 (0 : Int))) := by
  have h := eq23' n x0 x1
  rw [l23_58_0_e] at h
  exact h
theorem ok23 (f : ((List (List Int)) × ((List (List Int)) × Unit)) → Bool × ((Bool × Unit) × (Unit × (Unit × Unit)))) (hrun : ∀ x, (f x).1 = true → ∃ n, runM (cx23 n) (fnOf 23) (body 23) M23a M23o x = some (f x).2) : FnOK Try.prog noG 23 (fnM M23a M23o f) :=
  fnM_sound (cx23 0) SpecOK.none mixed noG_ok (by kernel_rfl) (by kernel_rfl) (by kernel_rfl) (by kernel_rfl) (by kernel_rfl) (by kernel_rfl) (by kernel_rfl) (fun x h => by obtain ⟨n, hn⟩ := hrun x h; exact ⟨n + 0, hn⟩)

def G23 (x : List (List Int) × (List (List Int) × Unit)) : Bool × ((Bool × Unit) × (Unit × (Unit × Unit))) :=
  (decide (x.1.length < 9223372036854775808), ((lsEq x.1 x.2.1, ()), ((), (), ())))
theorem lp23 (n : Nat) (l m : List (List Int)) (hl : l.length < 9223372036854775808) (hm : l.length = m.length) : ∀ (k i : Nat), i ≤ l.length → l.length - i < k →
    l23_58_0 n k l m i = some ((lsEq (l.drop i) (m.drop i), ()), ((), (), ())) := by
  intro k
  induction k with
  | zero => intro i h1 h2; omega
  | succ k ih =>
    intro i h1 h2
    rw [l23_58_0_s]
    by_cases hi : i < l.length
    · rw [decide_eq_true (show (i : Int) < l.length by omega), show rng (i : Int) l.length = true from rng_ok (by omega) (by omega), show rng (i : Int) m.length = true from rng_ok (by omega) (by omega), Int.toNat_natCast, wrap_i64 (show -9223372036854775808 ≤ (i : Int) + 1 by omega) (by omega), drop_get l [] i hi, drop_get m [] i (by omega), lsEq]
      simp only [cond_true, ck_true]
      have := ih (i + 1) (by omega) (by omega)
      cases bstr (l.getD i []) == bstr (m.getD i [])
      · rfl
      · exact this
    · rw [decide_eq_false (show ¬ (i : Int) < l.length by omega), drop_end l i (by omega), drop_end m i (by omega)]; rfl
theorem lsEq_len23 : ∀ (l m : List (List Int)), l.length ≠ m.length → lsEq l m = false
  | [], [], h => absurd rfl h
  | [], _ :: _, _ => rfl
  | _ :: _, [], _ => rfl
  | x :: l, y :: m, h => by rw [lsEq, lsEq_len23 l m (fun e => h (by simp [e])), Bool.and_false]
theorem run23 (x : List (List Int) × (List (List Int) × Unit)) (h : (G23 x).1 = true) : ∃ n, runM (cx23 n) (fnOf 23) (body 23) M23a M23o x = some (G23 x).2 := by
  obtain ⟨l, m, ⟨⟩⟩ := x
  have h : l.length < 9223372036854775808 := of_decide_eq_true h
  refine ⟨l.length + 1, ?_⟩
  rw [eq23]
  by_cases c : l.length = m.length
  · rw [show ((l.length : Int) != m.length) = false by rw [bne_eq_false_iff_eq]; omega]
    exact lp23 _ l m h c (l.length + 1) 0 (by omega) (by omega)
  · rw [show ((l.length : Int) != m.length) = true by rw [bne_iff_ne]; omega]
    simp only [G23]
    rw [lsEq_len23 l m c]
    rfl

theorem fok23 : FnOK Try.prog noG 23 (fnM M23a M23o G23) := ok23 G23 run23

/-- drawbridgekit.Link -/
@[reducible] def M22a : Md := (.cons (.ro (.cons (.int .u64) (.cons (.int .u64) (.cons (.int .u64) (.cons (.int .u64) (.cons (.sl (.sl (.int .u8))) (.cons (.int .i64) (.cons (.int .i64) (.cons .bool .nil))))))))) (.cons (.ro (.cons (.int .u64) (.cons (.int .u64) (.cons (.int .u64) (.cons (.int .u64) (.cons (.sl (.sl (.int .u8))) (.cons (.int .i64) (.cons (.int .i64) (.cons .bool .nil))))))))) .nil))
@[reducible] def M22o : Md := (.cons (.ro .bool) .nil)
noncomputable def cx22 (F23 : ((List (List Int)) × ((List (List Int)) × Unit)) → Bool × ((Bool × Unit) × (Unit × (Unit × Unit)))) (n : Nat) : Cx := { S := (addV noS 23 (fnM M23a M23o F23)), P := Try.prog, gl := noG, hint := [], pin := [], nin := 0, fuel := n }
def t22 (F23 : ((List (List Int)) × ((List (List Int)) × Unit)) → Bool × ((Bool × Unit) × (Unit × (Unit × Unit)))) (x0 : Int) (x1 : Int) (x2 : Int) (x3 : Int) (x4 : (List (List Int))) (x5 : Int) (x6 : Int) (x7 : Bool) (x8 : Int) (x9 : Int) (x10 : Int) (x11 : Int) (x12 : (List (List Int))) (x13 : Int) (x14 : Int) (x15 : Bool) : Option ((Bool × Unit) × (Unit × (Unit × Unit))) :=
 (jn (fun (y412_0 : Bool) =>
 some ((y412_0, ()), ((), (), ()))) fun (j412 : Bool → Option ((Bool × Unit) × (Unit × (Unit × Unit)))) =>
 (bif (x0 == x8) then
 (bif (x1 == x9) then
 (bif (x2 == x10) then
 (bif (x3 == x11) then
 (cl (F23 (x4, x12, ())) fun r72 =>
 (bif r72.1.1 then
 (bif (x5 == x13) then
 (bif (x6 == x14) then
 (j412 (x7 == x15))
 else
 (j412 false))
 else
 (j412 false))
 else
 (j412 false)))
 else
 (j412 false))
 else
 (j412 false))
 else
 (j412 false))
 else
 (j412 false)))
theorem eq22 (F23 : ((List (List Int)) × ((List (List Int)) × Unit)) → Bool × ((Bool × Unit) × (Unit × (Unit × Unit)))) (n : Nat) (x0 : Int) (x1 : Int) (x2 : Int) (x3 : Int) (x4 : (List (List Int))) (x5 : Int) (x6 : Int) (x7 : Bool) (x8 : Int) (x9 : Int) (x10 : Int) (x11 : Int) (x12 : (List (List Int))) (x13 : Int) (x14 : Int) (x15 : Bool) : runM (cx22 F23 n) (fnOf 22) (body 22) M22a M22o ((x0, x1, x2, x3, x4, x5, x6, x7, ()), (x8, x9, x10, x11, x12, x13, x14, x15, ()), ()) = t22 F23 x0 x1 x2 x3 x4 x5 x6 x7 x8 x9 x10 x11 x12 x13 x14 x15 := by kernel_rfl
def raw22 (F23 : ((List (List Int)) × ((List (List Int)) × Unit)) → Bool × ((Bool × Unit) × (Unit × (Unit × Unit)))) (x : ((Int × (Int × (Int × (Int × ((List (List Int)) × (Int × (Int × (Bool × Unit)))))))) × ((Int × (Int × (Int × (Int × ((List (List Int)) × (Int × (Int × (Bool × Unit)))))))) × Unit))) : Option ((Bool × Unit) × (Unit × (Unit × Unit))) := t22 F23 x.1.1 x.1.2.1 x.1.2.2.1 x.1.2.2.2.1 x.1.2.2.2.2.1 x.1.2.2.2.2.2.1 x.1.2.2.2.2.2.2.1 x.1.2.2.2.2.2.2.2.1 x.2.1.1 x.2.1.2.1 x.2.1.2.2.1 x.2.1.2.2.2.1 x.2.1.2.2.2.2.1 x.2.1.2.2.2.2.2.1 x.2.1.2.2.2.2.2.2.1 x.2.1.2.2.2.2.2.2.2.1
theorem ok22 (F23 : ((List (List Int)) × ((List (List Int)) × Unit)) → Bool × ((Bool × Unit) × (Unit × (Unit × Unit)))) (h23 : FnOK Try.prog noG 23 (fnM M23a M23o F23)) : FnOK Try.prog noG 22 (fnM M22a M22o (toM (ma := M22a) (mo := M22o) (raw22 F23))) :=
  fnM_sound (cx22 F23 0) (SpecOK.addV SpecOK.none h23) mixed noG_ok (by kernel_rfl) (by kernel_rfl) (by kernel_rfl) (by kernel_rfl) (by kernel_rfl) (by kernel_rfl) (by kernel_rfl) (toM_run fun x => ⟨0, by have h := eq22 F23 0 x.1.1 x.1.2.1 x.1.2.2.1 x.1.2.2.2.1 x.1.2.2.2.2.1 x.1.2.2.2.2.2.1 x.1.2.2.2.2.2.2.1 x.1.2.2.2.2.2.2.2.1 x.2.1.1 x.2.1.2.1 x.2.1.2.2.1 x.2.1.2.2.2.1 x.2.1.2.2.2.2.1 x.2.1.2.2.2.2.2.1 x.2.1.2.2.2.2.2.2.1 x.2.1.2.2.2.2.2.2.2.1; exact h⟩)

noncomputable def G22 : ((Int × (Int × (Int × (Int × ((List (List Int)) × (Int × (Int × (Bool × Unit)))))))) × ((Int × (Int × (Int × (Int × ((List (List Int)) × (Int × (Int × (Bool × Unit)))))))) × Unit)) → Bool × ((Bool × Unit) × (Unit × (Unit × Unit))) := toM (ma := M22a) (mo := M22o) (raw22 G23)
theorem fok22 : FnOK Try.prog noG 22 (fnM M22a M22o G22) := ok22 G23 fok23
theorem G22_of {x0 : Int} {x1 : Int} {x2 : Int} {x3 : Int} {x4 : (List (List Int))} {x5 : Int} {x6 : Int} {x7 : Bool} {x8 : Int} {x9 : Int} {x10 : Int} {x11 : Int} {x12 : (List (List Int))} {x13 : Int} {x14 : Int} {x15 : Bool} {y : ((Bool × Unit) × (Unit × (Unit × Unit)))} (h : t22 G23 x0 x1 x2 x3 x4 x5 x6 x7 x8 x9 x10 x11 x12 x13 x14 x15 = some y) : G22 ((x0, x1, x2, x3, x4, x5, x6, x7, ()), (x8, x9, x10, x11, x12, x13, x14, x15, ()), ()) = (true, y) := toM_some (ma := M22a) (mo := M22o) h

/-- drawbridgekit.Bytes -/
@[reducible] def M25a : Md := (.cons (.ro (.sl (.int .u8))) (.cons (.ro (.sl (.int .u8))) .nil))
@[reducible] def M25o : Md := (.cons (.ro .bool) .nil)
noncomputable def cx25 (n : Nat) : Cx := { S := noS, P := Try.prog, gl := noG, hint := [], pin := [], nin := 0, fuel := n }
def t25 (x0 : (List Int)) (x1 : (List Int)) : Option ((Bool × Unit) × (Unit × (Unit × Unit))) :=
 (some ((((bstr x0) == (bstr x1)), ()), ((), (), ())))
theorem eq25 (n : Nat) (x0 : (List Int)) (x1 : (List Int)) : runM (cx25 n) (fnOf 25) (body 25) M25a M25o (x0, x1, ()) = t25 x0 x1 := by kernel_rfl
def raw25 (x : ((List Int) × ((List Int) × Unit))) : Option ((Bool × Unit) × (Unit × (Unit × Unit))) := t25 x.1 x.2.1
theorem ok25 : FnOK Try.prog noG 25 (fnM M25a M25o (toM (ma := M25a) (mo := M25o) (raw25))) :=
  fnM_sound (cx25 0) SpecOK.none mixed noG_ok (by kernel_rfl) (by kernel_rfl) (by kernel_rfl) (by kernel_rfl) (by kernel_rfl) (by kernel_rfl) (by kernel_rfl) (toM_run fun x => ⟨0, by have h := eq25 0 x.1 x.2.1; exact h⟩)

noncomputable def G25 : ((List Int) × ((List Int) × Unit)) → Bool × ((Bool × Unit) × (Unit × (Unit × Unit))) := toM (ma := M25a) (mo := M25o) (raw25)
theorem fok25 : FnOK Try.prog noG 25 (fnM M25a M25o G25) := ok25
theorem G25_of {x0 : (List Int)} {x1 : (List Int)} {y : ((Bool × Unit) × (Unit × (Unit × Unit)))} (h : t25 x0 x1 = some y) : G25 (x0, x1, ()) = (true, y) := toM_some (ma := M25a) (mo := M25o) h

/-- drawbridgelaw18.LinkSends -/
@[reducible] def K5a : Kd := (.cons (.cons (.int .u64) (.cons (.int .u64) (.cons (.int .u64) (.cons (.int .u64) (.cons (.sl (.sl (.int .u8))) (.cons (.int .i64) (.cons (.int .i64) (.cons .bool .nil)))))))) .nil)
@[reducible] def K5o : Kd := .cons .bool .nil
noncomputable def cx5 (F19 : ((Int × (Int × (Int × (Int × ((List (List Int)) × (Int × (Int × (Bool × Unit)))))))) × Unit) → Bool × ((Int × Unit) × (Unit × Unit))) (F21 : ((Int × (Int × (Int × (Int × ((List (List Int)) × (Int × (Int × (Bool × Unit)))))))) × Unit) → Bool × (((Int × (Int × (Int × (Int × ((List Int) × Unit))))) × ((Int × (Int × (Int × (Int × ((List (List Int)) × (Int × (Int × (Bool × Unit)))))))) × (Bool × Unit))) × (Unit × Unit))) (F24 : ((Int × (Int × (Int × (Int × ((List (List Int)) × (Int × (Int × (Bool × Unit)))))))) × Unit) → Bool × (((Int × (Int × (Int × (Int × ((List (List Int)) × (Int × (Int × (Bool × Unit)))))))) × (Int × Unit)) × (Unit × Unit))) (F9 : Unit → Bool × ((Bool × Unit) × Unit)) (F20 : ((Int × (Int × (Int × (Int × ((List (List Int)) × (Int × (Int × (Bool × Unit)))))))) × (Int × (Int × Unit))) → Bool × ((Bool × Unit) × (Unit × (Unit × (Unit × Unit))))) (F23 : ((List (List Int)) × ((List (List Int)) × Unit)) → Bool × ((Bool × Unit) × (Unit × (Unit × Unit)))) (F22 : ((Int × (Int × (Int × (Int × ((List (List Int)) × (Int × (Int × (Bool × Unit)))))))) × ((Int × (Int × (Int × (Int × ((List (List Int)) × (Int × (Int × (Bool × Unit)))))))) × Unit)) → Bool × ((Bool × Unit) × (Unit × (Unit × Unit)))) (F25 : ((List Int) × ((List Int) × Unit)) → Bool × ((Bool × Unit) × (Unit × (Unit × Unit)))) (n : Nat) : Cx := { S := (addV (addV (addV (addV (addV (addV (addV (addV noS 19 (fnM M19a M19o F19)) 21 (fnM M21a M21o F21)) 24 (fnM M24a M24o F24)) 9 (fnM M9a M9o F9)) 20 (fnM M20a M20o F20)) 23 (fnM M23a M23o F23)) 22 (fnM M22a M22o F22)) 25 (fnM M25a M25o F25)), P := Try.prog, gl := noG, hint := [(2042, [1, 7, 9])], pin := [], nin := 0, fuel := n }
noncomputable def l5_2042_0' (F19 : ((Int × (Int × (Int × (Int × ((List (List Int)) × (Int × (Int × (Bool × Unit)))))))) × Unit) → Bool × ((Int × Unit) × (Unit × Unit))) (F21 : ((Int × (Int × (Int × (Int × ((List (List Int)) × (Int × (Int × (Bool × Unit)))))))) × Unit) → Bool × (((Int × (Int × (Int × (Int × ((List Int) × Unit))))) × ((Int × (Int × (Int × (Int × ((List (List Int)) × (Int × (Int × (Bool × Unit)))))))) × (Bool × Unit))) × (Unit × Unit))) (F24 : ((Int × (Int × (Int × (Int × ((List (List Int)) × (Int × (Int × (Bool × Unit)))))))) × Unit) → Bool × (((Int × (Int × (Int × (Int × ((List (List Int)) × (Int × (Int × (Bool × Unit)))))))) × (Int × Unit)) × (Unit × Unit))) (F9 : Unit → Bool × ((Bool × Unit) × Unit)) (F20 : ((Int × (Int × (Int × (Int × ((List (List Int)) × (Int × (Int × (Bool × Unit)))))))) × (Int × (Int × Unit))) → Bool × ((Bool × Unit) × (Unit × (Unit × (Unit × Unit))))) (F23 : ((List (List Int)) × ((List (List Int)) × Unit)) → Bool × ((Bool × Unit) × (Unit × (Unit × Unit)))) (F22 : ((Int × (Int × (Int × (Int × ((List (List Int)) × (Int × (Int × (Bool × Unit)))))))) × ((Int × (Int × (Int × (Int × ((List (List Int)) × (Int × (Int × (Bool × Unit)))))))) × Unit)) → Bool × ((Bool × Unit) × (Unit × (Unit × Unit)))) (F25 : ((List Int) × ((List Int) × Unit)) → Bool × ((Bool × Unit) × (Unit × (Unit × Unit)))) (n k : Nat) (v0 : Int) (v1 : Int) (v2 : Int) (v3 : Int) (v4 : Int) (v5 : List (List Int)) (v6 : Int) (v7 : Int) (v8 : Bool) (v9 : Int) (v10 : Int) (v11 : Int) (v12 : Int) (v13 : List (List Int)) (v14 : Int) (v15 : Int) (v16 : Bool) : Option (Bool × Unit) :=
  loopAt (cx5 F19 F21 F24 F9 F20 F23 F22 F25 n) (body 5) (bits 2042) [] k { tm := [(1, .ptr 0 0 []), (7, .ptr 1 0 []), (9, .int .i64 v0)], hp := [(1, some (.box (.cons (.int .u64 v1) (.cons (.int .u64 v2) (.cons (.int .u64 v3) (.cons (.int .u64 v4) (.cons (.rs (.sl (.int .u8)) v5 false false) (.cons (.int .i64 v6) (.cons (.int .i64 v7) (.cons (.bool v8) (.nil))))))))))), (0, some (.box (.cons (.int .u64 v9) (.cons (.int .u64 v10) (.cons (.int .u64 v11) (.cons (.int .u64 v12) (.cons (.rs (.sl (.int .u8)) v13 false false) (.cons (.int .i64 v14) (.cons (.int .i64 v15) (.cons (.bool v16) (.nil)))))))))))], nx := 2 } (finish Try.prog (fnOf 5) K5o)
noncomputable def l5_2042_0 : (((Int × (Int × (Int × (Int × ((List (List Int)) × (Int × (Int × (Bool × Unit)))))))) × Unit) → Bool × ((Int × Unit) × (Unit × Unit))) → (((Int × (Int × (Int × (Int × ((List (List Int)) × (Int × (Int × (Bool × Unit)))))))) × Unit) → Bool × (((Int × (Int × (Int × (Int × ((List Int) × Unit))))) × ((Int × (Int × (Int × (Int × ((List (List Int)) × (Int × (Int × (Bool × Unit)))))))) × (Bool × Unit))) × (Unit × Unit))) → (((Int × (Int × (Int × (Int × ((List (List Int)) × (Int × (Int × (Bool × Unit)))))))) × Unit) → Bool × (((Int × (Int × (Int × (Int × ((List (List Int)) × (Int × (Int × (Bool × Unit)))))))) × (Int × Unit)) × (Unit × Unit))) → (Unit → Bool × ((Bool × Unit) × Unit)) → (((Int × (Int × (Int × (Int × ((List (List Int)) × (Int × (Int × (Bool × Unit)))))))) × (Int × (Int × Unit))) → Bool × ((Bool × Unit) × (Unit × (Unit × (Unit × Unit))))) → (((List (List Int)) × ((List (List Int)) × Unit)) → Bool × ((Bool × Unit) × (Unit × (Unit × Unit)))) → (((Int × (Int × (Int × (Int × ((List (List Int)) × (Int × (Int × (Bool × Unit)))))))) × ((Int × (Int × (Int × (Int × ((List (List Int)) × (Int × (Int × (Bool × Unit)))))))) × Unit)) → Bool × ((Bool × Unit) × (Unit × (Unit × Unit)))) → (((List Int) × ((List Int) × Unit)) → Bool × ((Bool × Unit) × (Unit × (Unit × Unit)))) → Nat → Nat → Int → Int → Int → Int → Int → List (List Int) → Int → Int → Bool → Int → Int → Int → Int → List (List Int) → Int → Int → Bool → Option (Bool × Unit) := (sealed l5_2042_0').1
theorem l5_2042_0_e : l5_2042_0' = l5_2042_0 := (sealed l5_2042_0').2.symm
theorem l5_2042_0_s' (F19 : ((Int × (Int × (Int × (Int × ((List (List Int)) × (Int × (Int × (Bool × Unit)))))))) × Unit) → Bool × ((Int × Unit) × (Unit × Unit))) (F21 : ((Int × (Int × (Int × (Int × ((List (List Int)) × (Int × (Int × (Bool × Unit)))))))) × Unit) → Bool × (((Int × (Int × (Int × (Int × ((List Int) × Unit))))) × ((Int × (Int × (Int × (Int × ((List (List Int)) × (Int × (Int × (Bool × Unit)))))))) × (Bool × Unit))) × (Unit × Unit))) (F24 : ((Int × (Int × (Int × (Int × ((List (List Int)) × (Int × (Int × (Bool × Unit)))))))) × Unit) → Bool × (((Int × (Int × (Int × (Int × ((List (List Int)) × (Int × (Int × (Bool × Unit)))))))) × (Int × Unit)) × (Unit × Unit))) (F9 : Unit → Bool × ((Bool × Unit) × Unit)) (F20 : ((Int × (Int × (Int × (Int × ((List (List Int)) × (Int × (Int × (Bool × Unit)))))))) × (Int × (Int × Unit))) → Bool × ((Bool × Unit) × (Unit × (Unit × (Unit × Unit))))) (F23 : ((List (List Int)) × ((List (List Int)) × Unit)) → Bool × ((Bool × Unit) × (Unit × (Unit × Unit)))) (F22 : ((Int × (Int × (Int × (Int × ((List (List Int)) × (Int × (Int × (Bool × Unit)))))))) × ((Int × (Int × (Int × (Int × ((List (List Int)) × (Int × (Int × (Bool × Unit)))))))) × Unit)) → Bool × ((Bool × Unit) × (Unit × (Unit × Unit)))) (F25 : ((List Int) × ((List Int) × Unit)) → Bool × ((Bool × Unit) × (Unit × (Unit × Unit)))) (n k : Nat) (v0 : Int) (v1 : Int) (v2 : Int) (v3 : Int) (v4 : Int) (v5 : List (List Int)) (v6 : Int) (v7 : Int) (v8 : Bool) (v9 : Int) (v10 : Int) (v11 : Int) (v12 : Int) (v13 : List (List Int)) (v14 : Int) (v15 : Int) (v16 : Bool) : l5_2042_0' F19 F21 F24 F9 F20 F23 F22 F25 n (k + 1) v0 v1 v2 v3 v4 v5 v6 v7 v8 v9 v10 v11 v12 v13 v14 v15 v16 =
 (bif (decide (v0 < v15)) then
 (cl (F24 ((v1, v2, v3, v4, v5, v6, v7, v8, ()), ())) fun r79 =>
 (bif (r79.1.2.1 != (0 : Int)) then
 (some (false, ()))
 else
 (l5_2042_0' F19 F21 F24 F9 F20 F23 F22 F25 n k (IntKind.i64.wrap (v0 + (1 : Int))) r79.1.1.1 r79.1.1.2.1 r79.1.1.2.2.1 r79.1.1.2.2.2.1 r79.1.1.2.2.2.2.1 r79.1.1.2.2.2.2.2.1 r79.1.1.2.2.2.2.2.2.1 r79.1.1.2.2.2.2.2.2.2.1 v9 v10 v11 v12 v13 v14 v15 v16)))
 else
 (cl (F21 ((v1, v2, v3, v4, v5, v6, v7, v8, ()), ())) fun r76 =>
 (bif ((v13.length : Int) == (0 : Int)) then
 (some ((!r76.1.2.2.1), ()))
 else
 (bif r76.1.2.2.1 then
 (bif (r76.1.1.2.2.1 == (IntKind.u64.wrap (v11 - (IntKind.u64.wrap (v13.length : Int))))) then
 (ck (rng (0 : Int) v13.length)
 (cl (F25 (r76.1.1.2.2.2.2.1, v13.getD 0 [], ())) fun r77 =>
 (bif r77.1.1 then
 (cl (F23 (r76.1.2.1.2.2.2.2.1, v13, ())) fun r78 =>
 (some (r78.1.1, ())))
 else
 (some (false, ())))))
 else
 (some (false, ())))
 else
 (some (false, ())))))) := by kernel_rfl
theorem l5_2042_0_s (F19 : ((Int × (Int × (Int × (Int × ((List (List Int)) × (Int × (Int × (Bool × Unit)))))))) × Unit) → Bool × ((Int × Unit) × (Unit × Unit))) (F21 : ((Int × (Int × (Int × (Int × ((List (List Int)) × (Int × (Int × (Bool × Unit)))))))) × Unit) → Bool × (((Int × (Int × (Int × (Int × ((List Int) × Unit))))) × ((Int × (Int × (Int × (Int × ((List (List Int)) × (Int × (Int × (Bool × Unit)))))))) × (Bool × Unit))) × (Unit × Unit))) (F24 : ((Int × (Int × (Int × (Int × ((List (List Int)) × (Int × (Int × (Bool × Unit)))))))) × Unit) → Bool × (((Int × (Int × (Int × (Int × ((List (List Int)) × (Int × (Int × (Bool × Unit)))))))) × (Int × Unit)) × (Unit × Unit))) (F9 : Unit → Bool × ((Bool × Unit) × Unit)) (F20 : ((Int × (Int × (Int × (Int × ((List (List Int)) × (Int × (Int × (Bool × Unit)))))))) × (Int × (Int × Unit))) → Bool × ((Bool × Unit) × (Unit × (Unit × (Unit × Unit))))) (F23 : ((List (List Int)) × ((List (List Int)) × Unit)) → Bool × ((Bool × Unit) × (Unit × (Unit × Unit)))) (F22 : ((Int × (Int × (Int × (Int × ((List (List Int)) × (Int × (Int × (Bool × Unit)))))))) × ((Int × (Int × (Int × (Int × ((List (List Int)) × (Int × (Int × (Bool × Unit)))))))) × Unit)) → Bool × ((Bool × Unit) × (Unit × (Unit × Unit)))) (F25 : ((List Int) × ((List Int) × Unit)) → Bool × ((Bool × Unit) × (Unit × (Unit × Unit)))) (n k : Nat) (v0 : Int) (v1 : Int) (v2 : Int) (v3 : Int) (v4 : Int) (v5 : List (List Int)) (v6 : Int) (v7 : Int) (v8 : Bool) (v9 : Int) (v10 : Int) (v11 : Int) (v12 : Int) (v13 : List (List Int)) (v14 : Int) (v15 : Int) (v16 : Bool) : l5_2042_0 F19 F21 F24 F9 F20 F23 F22 F25 n (k + 1) v0 v1 v2 v3 v4 v5 v6 v7 v8 v9 v10 v11 v12 v13 v14 v15 v16 =
 (bif (decide (v0 < v15)) then
 (cl (F24 ((v1, v2, v3, v4, v5, v6, v7, v8, ()), ())) fun r79 =>
 (bif (r79.1.2.1 != (0 : Int)) then
 (some (false, ()))
 else
 (l5_2042_0 F19 F21 F24 F9 F20 F23 F22 F25 n k (IntKind.i64.wrap (v0 + (1 : Int))) r79.1.1.1 r79.1.1.2.1 r79.1.1.2.2.1 r79.1.1.2.2.2.1 r79.1.1.2.2.2.2.1 r79.1.1.2.2.2.2.2.1 r79.1.1.2.2.2.2.2.2.1 r79.1.1.2.2.2.2.2.2.2.1 v9 v10 v11 v12 v13 v14 v15 v16)))
 else
 (cl (F21 ((v1, v2, v3, v4, v5, v6, v7, v8, ()), ())) fun r76 =>
 (bif ((v13.length : Int) == (0 : Int)) then
 (some ((!r76.1.2.2.1), ()))
 else
 (bif r76.1.2.2.1 then
 (bif (r76.1.1.2.2.1 == (IntKind.u64.wrap (v11 - (IntKind.u64.wrap (v13.length : Int))))) then
 (ck (rng (0 : Int) v13.length)
 (cl (F25 (r76.1.1.2.2.2.2.1, v13.getD 0 [], ())) fun r77 =>
 (bif r77.1.1 then
 (cl (F23 (r76.1.2.1.2.2.2.2.1, v13, ())) fun r78 =>
 (some (r78.1.1, ())))
 else
 (some (false, ())))))
 else
 (some (false, ())))
 else
 (some (false, ())))))) := by
  have h := l5_2042_0_s' F19 F21 F24 F9 F20 F23 F22 F25 n k v0 v1 v2 v3 v4 v5 v6 v7 v8 v9 v10 v11 v12 v13 v14 v15 v16
  rw [l5_2042_0_e] at h
  exact h
theorem l5_2042_0_z' (F19 : ((Int × (Int × (Int × (Int × ((List (List Int)) × (Int × (Int × (Bool × Unit)))))))) × Unit) → Bool × ((Int × Unit) × (Unit × Unit))) (F21 : ((Int × (Int × (Int × (Int × ((List (List Int)) × (Int × (Int × (Bool × Unit)))))))) × Unit) → Bool × (((Int × (Int × (Int × (Int × ((List Int) × Unit))))) × ((Int × (Int × (Int × (Int × ((List (List Int)) × (Int × (Int × (Bool × Unit)))))))) × (Bool × Unit))) × (Unit × Unit))) (F24 : ((Int × (Int × (Int × (Int × ((List (List Int)) × (Int × (Int × (Bool × Unit)))))))) × Unit) → Bool × (((Int × (Int × (Int × (Int × ((List (List Int)) × (Int × (Int × (Bool × Unit)))))))) × (Int × Unit)) × (Unit × Unit))) (F9 : Unit → Bool × ((Bool × Unit) × Unit)) (F20 : ((Int × (Int × (Int × (Int × ((List (List Int)) × (Int × (Int × (Bool × Unit)))))))) × (Int × (Int × Unit))) → Bool × ((Bool × Unit) × (Unit × (Unit × (Unit × Unit))))) (F23 : ((List (List Int)) × ((List (List Int)) × Unit)) → Bool × ((Bool × Unit) × (Unit × (Unit × Unit)))) (F22 : ((Int × (Int × (Int × (Int × ((List (List Int)) × (Int × (Int × (Bool × Unit)))))))) × ((Int × (Int × (Int × (Int × ((List (List Int)) × (Int × (Int × (Bool × Unit)))))))) × Unit)) → Bool × ((Bool × Unit) × (Unit × (Unit × Unit)))) (F25 : ((List Int) × ((List Int) × Unit)) → Bool × ((Bool × Unit) × (Unit × (Unit × Unit)))) (n : Nat) (v0 : Int) (v1 : Int) (v2 : Int) (v3 : Int) (v4 : Int) (v5 : List (List Int)) (v6 : Int) (v7 : Int) (v8 : Bool) (v9 : Int) (v10 : Int) (v11 : Int) (v12 : Int) (v13 : List (List Int)) (v14 : Int) (v15 : Int) (v16 : Bool) : l5_2042_0' F19 F21 F24 F9 F20 F23 F22 F25 n 0 v0 v1 v2 v3 v4 v5 v6 v7 v8 v9 v10 v11 v12 v13 v14 v15 v16 =
 none := by kernel_rfl
theorem l5_2042_0_z (F19 : ((Int × (Int × (Int × (Int × ((List (List Int)) × (Int × (Int × (Bool × Unit)))))))) × Unit) → Bool × ((Int × Unit) × (Unit × Unit))) (F21 : ((Int × (Int × (Int × (Int × ((List (List Int)) × (Int × (Int × (Bool × Unit)))))))) × Unit) → Bool × (((Int × (Int × (Int × (Int × ((List Int) × Unit))))) × ((Int × (Int × (Int × (Int × ((List (List Int)) × (Int × (Int × (Bool × Unit)))))))) × (Bool × Unit))) × (Unit × Unit))) (F24 : ((Int × (Int × (Int × (Int × ((List (List Int)) × (Int × (Int × (Bool × Unit)))))))) × Unit) → Bool × (((Int × (Int × (Int × (Int × ((List (List Int)) × (Int × (Int × (Bool × Unit)))))))) × (Int × Unit)) × (Unit × Unit))) (F9 : Unit → Bool × ((Bool × Unit) × Unit)) (F20 : ((Int × (Int × (Int × (Int × ((List (List Int)) × (Int × (Int × (Bool × Unit)))))))) × (Int × (Int × Unit))) → Bool × ((Bool × Unit) × (Unit × (Unit × (Unit × Unit))))) (F23 : ((List (List Int)) × ((List (List Int)) × Unit)) → Bool × ((Bool × Unit) × (Unit × (Unit × Unit)))) (F22 : ((Int × (Int × (Int × (Int × ((List (List Int)) × (Int × (Int × (Bool × Unit)))))))) × ((Int × (Int × (Int × (Int × ((List (List Int)) × (Int × (Int × (Bool × Unit)))))))) × Unit)) → Bool × ((Bool × Unit) × (Unit × (Unit × Unit)))) (F25 : ((List Int) × ((List Int) × Unit)) → Bool × ((Bool × Unit) × (Unit × (Unit × Unit)))) (n : Nat) (v0 : Int) (v1 : Int) (v2 : Int) (v3 : Int) (v4 : Int) (v5 : List (List Int)) (v6 : Int) (v7 : Int) (v8 : Bool) (v9 : Int) (v10 : Int) (v11 : Int) (v12 : Int) (v13 : List (List Int)) (v14 : Int) (v15 : Int) (v16 : Bool) : l5_2042_0 F19 F21 F24 F9 F20 F23 F22 F25 n 0 v0 v1 v2 v3 v4 v5 v6 v7 v8 v9 v10 v11 v12 v13 v14 v15 v16 =
 none := by
  have h := l5_2042_0_z' F19 F21 F24 F9 F20 F23 F22 F25 n v0 v1 v2 v3 v4 v5 v6 v7 v8 v9 v10 v11 v12 v13 v14 v15 v16
  rw [l5_2042_0_e] at h
  exact h
theorem eq5' (F19 : ((Int × (Int × (Int × (Int × ((List (List Int)) × (Int × (Int × (Bool × Unit)))))))) × Unit) → Bool × ((Int × Unit) × (Unit × Unit))) (F21 : ((Int × (Int × (Int × (Int × ((List (List Int)) × (Int × (Int × (Bool × Unit)))))))) × Unit) → Bool × (((Int × (Int × (Int × (Int × ((List Int) × Unit))))) × ((Int × (Int × (Int × (Int × ((List (List Int)) × (Int × (Int × (Bool × Unit)))))))) × (Bool × Unit))) × (Unit × Unit))) (F24 : ((Int × (Int × (Int × (Int × ((List (List Int)) × (Int × (Int × (Bool × Unit)))))))) × Unit) → Bool × (((Int × (Int × (Int × (Int × ((List (List Int)) × (Int × (Int × (Bool × Unit)))))))) × (Int × Unit)) × (Unit × Unit))) (F9 : Unit → Bool × ((Bool × Unit) × Unit)) (F20 : ((Int × (Int × (Int × (Int × ((List (List Int)) × (Int × (Int × (Bool × Unit)))))))) × (Int × (Int × Unit))) → Bool × ((Bool × Unit) × (Unit × (Unit × (Unit × Unit))))) (F23 : ((List (List Int)) × ((List (List Int)) × Unit)) → Bool × ((Bool × Unit) × (Unit × (Unit × Unit)))) (F22 : ((Int × (Int × (Int × (Int × ((List (List Int)) × (Int × (Int × (Bool × Unit)))))))) × ((Int × (Int × (Int × (Int × ((List (List Int)) × (Int × (Int × (Bool × Unit)))))))) × Unit)) → Bool × ((Bool × Unit) × (Unit × (Unit × Unit)))) (F25 : ((List Int) × ((List Int) × Unit)) → Bool × ((Bool × Unit) × (Unit × (Unit × Unit)))) (n : Nat) (x0 : Int) (x1 : Int) (x2 : Int) (x3 : Int) (x4 : (List (List Int))) (x5 : Int) (x6 : Int) (x7 : Bool) : runD (cx5 F19 F21 F24 F9 F20 F23 F22 F25 n) (fnOf 5) (body 5) K5a K5o ((x0, x1, x2, x3, x4, x5, x6, x7, ()), ()) =
 (cl (F9 ()) fun r65 =>
 (bif (!r65.1.1) then
 (some (false, ()))
 else
 (jn (fun (y357_0 : Bool) =>
 (bif y357_0 then
 (some (true, ()))
 else
 (cl (F21 ((x0, x1, x2, x3, x4, x5, x6, x7, ()), ())) fun r70 =>
 (bif (!r70.1.2.2.1) then
 (cl (F22 ((r70.1.2.1.1, r70.1.2.1.2.1, r70.1.2.1.2.2.1, r70.1.2.1.2.2.2.1, r70.1.2.1.2.2.2.2.1, r70.1.2.1.2.2.2.2.2.1, r70.1.2.1.2.2.2.2.2.2.1, r70.1.2.1.2.2.2.2.2.2.2.1, ()), (x0, x1, x2, x3, x4, x5, x6, x7, ()), ())) fun r73 =>
 (bif r73.1.1 then
 (bif (!x7) then
 (bif ((x4.length : Int) == (0 : Int)) then
 (some (true, ()))
 else
 (some ((decide (x5 < x6)), ())))
 else
 (some (false, ())))
 else
 (some (false, ()))))
 else
 (cl (F21 ((r70.1.2.1.1, r70.1.2.1.2.1, r70.1.2.1.2.2.1, r70.1.2.1.2.2.2.1, r70.1.2.1.2.2.2.2.1, r70.1.2.1.2.2.2.2.2.1, r70.1.2.1.2.2.2.2.2.2.1, r70.1.2.1.2.2.2.2.2.2.2.1, ()), ())) fun r74 =>
 (jn (fun (y415_0 : Bool) =>
 (bif y415_0 then
 (some (false, ()))
 else
 (l5_2042_0' F19 F21 F24 F9 F20 F23 F22 F25 n n (0 : Int) r74.1.2.1.1 r74.1.2.1.2.1 r74.1.2.1.2.2.1 r74.1.2.1.2.2.2.1 r74.1.2.1.2.2.2.2.1 r74.1.2.1.2.2.2.2.2.1 r74.1.2.1.2.2.2.2.2.2.1 r74.1.2.1.2.2.2.2.2.2.2.1 x0 x1 x2 x3 x4 x5 x6 x7))) fun (j415 : Bool → Option (Bool × Unit)) =>
 (bif r74.1.2.2.1 then
 (j415 true)
 else
 (bif r70.1.2.1.2.2.2.2.2.2.2.1 then
 (j415 true)
 else
 (bif (r70.1.1.1 != x0) then
 (j415 true)
 else
 (bif (r70.1.1.2.1 != x1) then
 (j415 true)
 else
 (bif (r70.1.1.2.2.2.1 != x3) then
 (j415 true)
 else
 (cl (F23 (r70.1.2.1.2.2.2.2.1, x4, ())) fun r75 =>
 (j415 (!r75.1.1)))))))))))))) fun (j357 : Bool → Option (Bool × Unit)) =>
 (cl (F19 ((x0, x1, x2, x3, x4, x5, x6, x7, ()), ())) fun r66 =>
 (bif (r66.1.1 != (0 : Int)) then
 (j357 true)
 else
 (cl (F20 ((x0, x1, x2, x3, x4, x5, x6, x7, ()), (64 : Int), (300 : Int), ())) fun r69 =>
 (j357 (!r69.1.1)))))))) := by kernel_rfl
theorem eq5 (F19 : ((Int × (Int × (Int × (Int × ((List (List Int)) × (Int × (Int × (Bool × Unit)))))))) × Unit) → Bool × ((Int × Unit) × (Unit × Unit))) (F21 : ((Int × (Int × (Int × (Int × ((List (List Int)) × (Int × (Int × (Bool × Unit)))))))) × Unit) → Bool × (((Int × (Int × (Int × (Int × ((List Int) × Unit))))) × ((Int × (Int × (Int × (Int × ((List (List Int)) × (Int × (Int × (Bool × Unit)))))))) × (Bool × Unit))) × (Unit × Unit))) (F24 : ((Int × (Int × (Int × (Int × ((List (List Int)) × (Int × (Int × (Bool × Unit)))))))) × Unit) → Bool × (((Int × (Int × (Int × (Int × ((List (List Int)) × (Int × (Int × (Bool × Unit)))))))) × (Int × Unit)) × (Unit × Unit))) (F9 : Unit → Bool × ((Bool × Unit) × Unit)) (F20 : ((Int × (Int × (Int × (Int × ((List (List Int)) × (Int × (Int × (Bool × Unit)))))))) × (Int × (Int × Unit))) → Bool × ((Bool × Unit) × (Unit × (Unit × (Unit × Unit))))) (F23 : ((List (List Int)) × ((List (List Int)) × Unit)) → Bool × ((Bool × Unit) × (Unit × (Unit × Unit)))) (F22 : ((Int × (Int × (Int × (Int × ((List (List Int)) × (Int × (Int × (Bool × Unit)))))))) × ((Int × (Int × (Int × (Int × ((List (List Int)) × (Int × (Int × (Bool × Unit)))))))) × Unit)) → Bool × ((Bool × Unit) × (Unit × (Unit × Unit)))) (F25 : ((List Int) × ((List Int) × Unit)) → Bool × ((Bool × Unit) × (Unit × (Unit × Unit)))) (n : Nat) (x0 : Int) (x1 : Int) (x2 : Int) (x3 : Int) (x4 : (List (List Int))) (x5 : Int) (x6 : Int) (x7 : Bool) : runD (cx5 F19 F21 F24 F9 F20 F23 F22 F25 n) (fnOf 5) (body 5) K5a K5o ((x0, x1, x2, x3, x4, x5, x6, x7, ()), ()) =
 (cl (F9 ()) fun r65 =>
 (bif (!r65.1.1) then
 (some (false, ()))
 else
 (jn (fun (y357_0 : Bool) =>
 (bif y357_0 then
 (some (true, ()))
 else
 (cl (F21 ((x0, x1, x2, x3, x4, x5, x6, x7, ()), ())) fun r70 =>
 (bif (!r70.1.2.2.1) then
 (cl (F22 ((r70.1.2.1.1, r70.1.2.1.2.1, r70.1.2.1.2.2.1, r70.1.2.1.2.2.2.1, r70.1.2.1.2.2.2.2.1, r70.1.2.1.2.2.2.2.2.1, r70.1.2.1.2.2.2.2.2.2.1, r70.1.2.1.2.2.2.2.2.2.2.1, ()), (x0, x1, x2, x3, x4, x5, x6, x7, ()), ())) fun r73 =>
 (bif r73.1.1 then
 (bif (!x7) then
 (bif ((x4.length : Int) == (0 : Int)) then
 (some (true, ()))
 else
 (some ((decide (x5 < x6)), ())))
 else
 (some (false, ())))
 else
 (some (false, ()))))
 else
 (cl (F21 ((r70.1.2.1.1, r70.1.2.1.2.1, r70.1.2.1.2.2.1, r70.1.2.1.2.2.2.1, r70.1.2.1.2.2.2.2.1, r70.1.2.1.2.2.2.2.2.1, r70.1.2.1.2.2.2.2.2.2.1, r70.1.2.1.2.2.2.2.2.2.2.1, ()), ())) fun r74 =>
 (jn (fun (y415_0 : Bool) =>
 (bif y415_0 then
 (some (false, ()))
 else
 (l5_2042_0 F19 F21 F24 F9 F20 F23 F22 F25 n n (0 : Int) r74.1.2.1.1 r74.1.2.1.2.1 r74.1.2.1.2.2.1 r74.1.2.1.2.2.2.1 r74.1.2.1.2.2.2.2.1 r74.1.2.1.2.2.2.2.2.1 r74.1.2.1.2.2.2.2.2.2.1 r74.1.2.1.2.2.2.2.2.2.2.1 x0 x1 x2 x3 x4 x5 x6 x7))) fun (j415 : Bool → Option (Bool × Unit)) =>
 (bif r74.1.2.2.1 then
 (j415 true)
 else
 (bif r70.1.2.1.2.2.2.2.2.2.2.1 then
 (j415 true)
 else
 (bif (r70.1.1.1 != x0) then
 (j415 true)
 else
 (bif (r70.1.1.2.1 != x1) then
 (j415 true)
 else
 (bif (r70.1.1.2.2.2.1 != x3) then
 (j415 true)
 else
 (cl (F23 (r70.1.2.1.2.2.2.2.1, x4, ())) fun r75 =>
 (j415 (!r75.1.1)))))))))))))) fun (j357 : Bool → Option (Bool × Unit)) =>
 (cl (F19 ((x0, x1, x2, x3, x4, x5, x6, x7, ()), ())) fun r66 =>
 (bif (r66.1.1 != (0 : Int)) then
 (j357 true)
 else
 (cl (F20 ((x0, x1, x2, x3, x4, x5, x6, x7, ()), (64 : Int), (300 : Int), ())) fun r69 =>
 (j357 (!r69.1.1)))))))) := by
  have h := eq5' F19 F21 F24 F9 F20 F23 F22 F25 n x0 x1 x2 x3 x4 x5 x6 x7
  rw [l5_2042_0_e] at h
  exact h

theorem called5 {w : World} {vs : List Value} {x : K5a.T} (hrun : ∀ x, K5a.ok x → ∃ n, runD (cx5 G19 G21 G24 G9 G20 G23 G22 G25 n) (fnOf 5) (body 5) K5a K5o x = some (true, ())) (h : KVs (fun b => b < w.heap.size) w K5a x vs) : Calls Try.prog 5 vs.toArray w fun e w' => e = .returned (.bool true) ∧ Go.RowKit.Below w.heap.size w w' :=
  law_ok (fun n => cx5 G19 G21 G24 G9 G20 G23 G22 G25 n) (fun _ => (SpecOK.addV (SpecOK.addV (SpecOK.addV (SpecOK.addV (SpecOK.addV (SpecOK.addV (SpecOK.addV (SpecOK.addV SpecOK.none fok19) fok21) fok24) fok9) fok20) fok23) fok22) fok25)) (fun _ => mixed) (fun _ => noG_ok) (fun _ => rfl) (by kernel_rfl) (by kernel_rfl) (by kernel_rfl) (by kernel_rfl) hrun (fun _ _ _ h => by cases h) h

/-- octet.Number -/
@[reducible] def M54a : Md := (.cons (.ro (.sl (.int .u8))) (.cons (.ro (.int .u64)) .nil))
@[reducible] def M54o : Md := (.cons (.ow (.int .u8)) .nil)
noncomputable def cx54 (F42 : ((List Int) × Unit) → Bool × (((List Int) × Unit) × (Unit × Unit))) (n : Nat) : Cx := { S := (addV noS 42 (fnM M42a M42o F42)), P := Try.prog, gl := noG, hint := [(122, [0, 1, 5, 6]), (506, [0, 1, 7])], pin := [], nin := 0, fuel := n }
noncomputable def l54_122_0' (F42 : ((List Int) × Unit) → Bool × (((List Int) × Unit) × (Unit × Unit))) (n k : Nat) (v0 : Int) (v1 : Int) (v2 : Int) (v3 : List Int) : Option (((List Int) × Unit) × (Unit × (Unit × Unit))) :=
  loopAt (cx54 F42 n) (body 54) (bits 122) [] k { tm := [(0, .hw 0), (1, .int .u64 v0), (5, .int .i64 v1), (6, .int .u64 v2)], hp := [(0, some (.row (.int .u8) v3))], nx := 1 } (finM Try.prog (fnOf 54) M54a M54o)
noncomputable def l54_122_0 : (((List Int) × Unit) → Bool × (((List Int) × Unit) × (Unit × Unit))) → Nat → Nat → Int → Int → Int → List Int → Option (((List Int) × Unit) × (Unit × (Unit × Unit))) := (sealed l54_122_0').1
theorem l54_122_0_e : l54_122_0' = l54_122_0 := (sealed l54_122_0').2.symm
noncomputable def l54_506_1' (F42 : ((List Int) × Unit) → Bool × (((List Int) × Unit) × (Unit × Unit))) (n k : Nat) (v0 : Int) (v1 : Int) (v2 : List Int) : Option (((List Int) × Unit) × (Unit × (Unit × Unit))) :=
  loopAt (cx54 F42 n) (body 54) (bits 506) [] k { tm := [(0, .hw 0), (1, .int .u64 v0), (7, .int .i64 v1)], hp := [(0, some (.row (.int .u8) v2))], nx := 1 } (finM Try.prog (fnOf 54) M54a M54o)
noncomputable def l54_506_1 : (((List Int) × Unit) → Bool × (((List Int) × Unit) × (Unit × Unit))) → Nat → Nat → Int → Int → List Int → Option (((List Int) × Unit) × (Unit × (Unit × Unit))) := (sealed l54_506_1').1
theorem l54_506_1_e : l54_506_1' = l54_506_1 := (sealed l54_506_1').2.symm
theorem l54_122_0_s' (F42 : ((List Int) × Unit) → Bool × (((List Int) × Unit) × (Unit × Unit))) (n k : Nat) (v0 : Int) (v1 : Int) (v2 : Int) (v3 : List Int) : l54_122_0' F42 n (k + 1) v0 v1 v2 v3 =
 (bif (decide (v2 > (0 : Int))) then
 (l54_122_0' F42 n k v0 (IntKind.i64.wrap (v1 + (1 : Int))) (v2.fdiv (2 ^ 8)) v3)
 else
 (ck (fits (v3.length + 1) 1)
 (l54_506_1' F42 n n v0 (IntKind.i64.wrap (v1 - (1 : Int))) (v3 ++ [(IntKind.u8.wrap v1)])))) := by kernel_rfl
theorem l54_122_0_s (F42 : ((List Int) × Unit) → Bool × (((List Int) × Unit) × (Unit × Unit))) (n k : Nat) (v0 : Int) (v1 : Int) (v2 : Int) (v3 : List Int) : l54_122_0 F42 n (k + 1) v0 v1 v2 v3 =
 (bif (decide (v2 > (0 : Int))) then
 (l54_122_0 F42 n k v0 (IntKind.i64.wrap (v1 + (1 : Int))) (v2.fdiv (2 ^ 8)) v3)
 else
 (ck (fits (v3.length + 1) 1)
 (l54_506_1 F42 n n v0 (IntKind.i64.wrap (v1 - (1 : Int))) (v3 ++ [(IntKind.u8.wrap v1)])))) := by
  have h := l54_122_0_s' F42 n k v0 v1 v2 v3
  rw [l54_122_0_e, l54_506_1_e] at h
  exact h
theorem l54_122_0_z' (F42 : ((List Int) × Unit) → Bool × (((List Int) × Unit) × (Unit × Unit))) (n : Nat) (v0 : Int) (v1 : Int) (v2 : Int) (v3 : List Int) : l54_122_0' F42 n 0 v0 v1 v2 v3 =
 none := by kernel_rfl
theorem l54_122_0_z (F42 : ((List Int) × Unit) → Bool × (((List Int) × Unit) × (Unit × Unit))) (n : Nat) (v0 : Int) (v1 : Int) (v2 : Int) (v3 : List Int) : l54_122_0 F42 n 0 v0 v1 v2 v3 =
 none := by
  have h := l54_122_0_z' F42 n v0 v1 v2 v3
  rw [l54_122_0_e] at h
  exact h
theorem l54_506_1_s' (F42 : ((List Int) × Unit) → Bool × (((List Int) × Unit) × (Unit × Unit))) (n k : Nat) (v0 : Int) (v1 : Int) (v2 : List Int) : l54_506_1' F42 n (k + 1) v0 v1 v2 =
 (bif (decide (v1 ≥ (0 : Int))) then
 (ck (decide (0 ≤ (IntKind.u64.wrap ((8 : Int) * (IntKind.u64.wrap v1)))))
 (ck (fits (v2.length + 1) 1)
 (l54_506_1' F42 n k v0 (IntKind.i64.wrap (v1 - (1 : Int))) (v2 ++ [(IntKind.u8.wrap (v0.fdiv (2 ^ (min (IntKind.u64.wrap ((8 : Int) * (IntKind.u64.wrap v1))).toNat 64))))]))))
 else
 (some ((v2, ()), ((), (), ())))) := by kernel_rfl
theorem l54_506_1_s (F42 : ((List Int) × Unit) → Bool × (((List Int) × Unit) × (Unit × Unit))) (n k : Nat) (v0 : Int) (v1 : Int) (v2 : List Int) : l54_506_1 F42 n (k + 1) v0 v1 v2 =
 (bif (decide (v1 ≥ (0 : Int))) then
 (ck (decide (0 ≤ (IntKind.u64.wrap ((8 : Int) * (IntKind.u64.wrap v1)))))
 (ck (fits (v2.length + 1) 1)
 (l54_506_1 F42 n k v0 (IntKind.i64.wrap (v1 - (1 : Int))) (v2 ++ [(IntKind.u8.wrap (v0.fdiv (2 ^ (min (IntKind.u64.wrap ((8 : Int) * (IntKind.u64.wrap v1))).toNat 64))))]))))
 else
 (some ((v2, ()), ((), (), ())))) := by
  have h := l54_506_1_s' F42 n k v0 v1 v2
  rw [l54_506_1_e] at h
  exact h
theorem l54_506_1_z' (F42 : ((List Int) × Unit) → Bool × (((List Int) × Unit) × (Unit × Unit))) (n : Nat) (v0 : Int) (v1 : Int) (v2 : List Int) : l54_506_1' F42 n 0 v0 v1 v2 =
 none := by kernel_rfl
theorem l54_506_1_z (F42 : ((List Int) × Unit) → Bool × (((List Int) × Unit) × (Unit × Unit))) (n : Nat) (v0 : Int) (v1 : Int) (v2 : List Int) : l54_506_1 F42 n 0 v0 v1 v2 =
 none := by
  have h := l54_506_1_z' F42 n v0 v1 v2
  rw [l54_506_1_e] at h
  exact h
theorem eq54' (F42 : ((List Int) × Unit) → Bool × (((List Int) × Unit) × (Unit × Unit))) (n : Nat) (x0 : (List Int)) (x1 : Int) : runM (cx54 F42 n) (fnOf 54) (body 54) M54a M54o (x0, x1, ()) =
 (cl (F42 (x0, ())) fun r86 =>
 (l54_122_0' F42 n n x1 (0 : Int) x1 r86.1.1)) := by kernel_rfl
theorem eq54 (F42 : ((List Int) × Unit) → Bool × (((List Int) × Unit) × (Unit × Unit))) (n : Nat) (x0 : (List Int)) (x1 : Int) : runM (cx54 F42 n) (fnOf 54) (body 54) M54a M54o (x0, x1, ()) =
 (cl (F42 (x0, ())) fun r86 =>
 (l54_122_0 F42 n n x1 (0 : Int) x1 r86.1.1)) := by
  have h := eq54' F42 n x0 x1
  rw [l54_122_0_e] at h
  exact h
theorem ok54 (F42 : ((List Int) × Unit) → Bool × (((List Int) × Unit) × (Unit × Unit))) (h42 : FnOK Try.prog noG 42 (fnM M42a M42o F42)) (f : ((List Int) × (Int × Unit)) → Bool × (((List Int) × Unit) × (Unit × (Unit × Unit)))) (hrun : ∀ x, (f x).1 = true → ∃ n, runM (cx54 F42 n) (fnOf 54) (body 54) M54a M54o x = some (f x).2) : FnOK Try.prog noG 54 (fnM M54a M54o f) :=
  fnM_sound (cx54 F42 0) (SpecOK.addV SpecOK.none h42) mixed noG_ok (by kernel_rfl) (by kernel_rfl) (by kernel_rfl) (by kernel_rfl) (by kernel_rfl) (by kernel_rfl) (by kernel_rfl) (fun x h => by obtain ⟨n, hn⟩ := hrun x h; exact ⟨n + 0, hn⟩)

def G54 (x : List Int × (Int × Unit)) : Bool × ((List Int × Unit) × (Unit × (Unit × Unit))) :=
  (decide (0 ≤ x.2.1) && decide (x.2.1 < 18446744073709551616) && decide (x.1.length + 9 ≤ 140737488355328), ((x.1 ++ numB x.2.1, ()), ((), (), ())))
theorem lb54 (n x : Nat) : ∀ (c k : Nat) (acc : List Int), c ≤ 8 → c < k → acc.length + c ≤ 140737488355328 → l54_506_1 G42 n k x ((c : Int) - 1) acc = some ((acc ++ be c x, ()), ((), (), ())) := by
  intro c
  induction c with
  | zero =>
    intro k acc h1 h2 h3
    obtain ⟨k, rfl⟩ : ∃ m, k = m + 1 := ⟨k - 1, by omega⟩
    rw [l54_506_1_s, decide_eq_false (by omega)]
    simp [be]
  | succ c ih =>
    intro k acc h1 h2 h3
    obtain ⟨k, rfl⟩ : ∃ m, k = m + 1 := ⟨k - 1, by omega⟩
    rw [l54_506_1_s, show ((c + 1 : Nat) : Int) - 1 = (c : Int) by omega, decide_eq_true (show (c : Int) ≥ 0 by omega)]
    rw [wrap_i64 (show -9223372036854775808 ≤ (c : Int) - 1 by omega) (by omega), wrap_u64 (show 0 ≤ (c : Int) by omega) (by omega), wrap_u64 (show 0 ≤ 8 * (c : Int) by omega) (by omega), decide_eq_true (show 0 ≤ 8 * (c : Int) by omega), show fits (acc.length + 1) 1 = true from decide_eq_true (by omega)]
    simp only [cond_true, ck_true]
    rw [ih k _ (by omega) (by omega) (by simp; omega), wrap_u8_mod, show (8 * (c : Int)).toNat = 8 * c by omega, Nat.min_eq_left (by omega), Int.fdiv_eq_ediv_of_nonneg _ (Int.pow_nonneg (by omega))]
    have e : (2 : Int) ^ (8 * c) = ((256 ^ c : Nat) : Int) := by
      rw [show (256 : Nat) = 2 ^ 8 from rfl, ← Nat.pow_mul]; simp
    rw [e, show (x : Int) / ((256 ^ c : Nat) : Int) % 256 = ((x / 256 ^ c % 256 : Nat) : Int) by simp]
    simp [be]
theorem la54 (n x : Nat) (hn : 8 < n) : ∀ (m k v j : Nat) (acc : List Int), v < 256 ^ m → m < k → j + m ≤ 8 → acc.length + 9 ≤ 140737488355328 → l54_122_0 G42 n k x j v acc = some ((acc ++ ((j + nlf m v : Nat) : Int) :: be (j + nlf m v) x, ()), ((), (), ())) := by
  have fin : ∀ (k j : Nat) (acc : List Int), j ≤ 8 → acc.length + 9 ≤ 140737488355328 → l54_122_0 G42 n (k + 1) x j 0 acc = some ((acc ++ ((j : Nat) : Int) :: be j x, ()), ((), (), ())) := by
    intro k j acc h1 h2
    rw [l54_122_0_s, decide_eq_false (by omega)]
    rw [wrap_i64 (show -9223372036854775808 ≤ (j : Int) - 1 by omega) (by omega), wrap_u8 (show 0 ≤ (j : Int) by omega) (by omega), show fits (acc.length + 1) 1 = true from decide_eq_true (by omega)]
    simp only [cond_false, ck_true]
    rw [lb54 n x j n _ (by omega) (by omega) (by simp; omega)]
    simp
  intro m
  induction m with
  | zero =>
    intro k v j acc h1 h2 h3 h4
    obtain ⟨k, rfl⟩ : ∃ m, k = m + 1 := ⟨k - 1, by omega⟩
    obtain rfl : v = 0 := by simpa using h1
    exact fin k j acc (by omega) h4
  | succ m ih =>
    intro k v j acc h1 h2 h3 h4
    obtain ⟨k, rfl⟩ : ∃ m, k = m + 1 := ⟨k - 1, by omega⟩
    by_cases hv : v = 0
    · subst hv
      rw [show nlf (m + 1) 0 = 0 from rfl]
      exact fin k j acc (by omega) h4
    · rw [l54_122_0_s, decide_eq_true (by omega)]
      have e1 : (v : Int).fdiv (2 ^ 8) = ((v / 256 : Nat) : Int) := by
        rw [Int.fdiv_eq_ediv_of_nonneg _ (by decide)]; simp
      rw [e1, wrap_i64 (show -9223372036854775808 ≤ (j : Int) + 1 by omega) (by omega), show (j : Int) + 1 = ((j + 1 : Nat) : Int) by omega]
      simp only [cond_true]
      rw [ih k (v / 256) (j + 1) acc (by rw [Nat.pow_succ] at h1; omega) (by omega) (by omega) h4, nlf, if_neg hv, show j + 1 + nlf m (v / 256) = j + (nlf m (v / 256) + 1) by omega]
theorem run54 (x : List Int × (Int × Unit)) (h : (G54 x).1 = true) : ∃ n, runM (cx54 G42 n) (fnOf 54) (body 54) M54a M54o x = some (G54 x).2 := by
  obtain ⟨b, v, ⟨⟩⟩ := x
  simp only [G54, Bool.and_eq_true, decide_eq_true_eq] at h
  obtain ⟨⟨h1, h2⟩, h3⟩ := h
  obtain ⟨v, rfl⟩ : ∃ m : Nat, v = m := ⟨v.toNat, by omega⟩
  refine ⟨20, ?_⟩
  rw [eq54, clone42 b (by omega), cl_true]
  have := la54 20 v (by omega) 8 20 v 0 b (by omega) (by omega) (by omega) h3
  simp only [Nat.zero_add] at this
  exact this
theorem number54 (b : List Int) (v : Int) (h : b.length + 9 ≤ 140737488355328) (h0 : 0 ≤ v) (h1 : v < 18446744073709551616) : G54 (b, v, ()) = (true, ((b ++ numB v, ()), ((), (), ()))) := by
  simp [G54, h, h0, h1]

theorem fok54 : FnOK Try.prog noG 54 (fnM M54a M54o G54) := ok54 G42 fok42 G54 run54

/-- octet.Block -/
@[reducible] def M55a : Md := (.cons (.ro (.sl (.int .u8))) (.cons (.ro (.sl (.int .u8))) .nil))
@[reducible] def M55o : Md := (.cons (.ro (.sl (.int .u8))) (.cons (.ro (.int .i64)) .nil))
noncomputable def cx55 (F54 : ((List Int) × (Int × Unit)) → Bool × (((List Int) × Unit) × (Unit × (Unit × Unit)))) (n : Nat) : Cx := { S := (addV noS 54 (fnM M54a M54o F54)), P := Try.prog, gl := noG, hint := [], pin := [], nin := 0, fuel := n }
def t55 (F54 : ((List Int) × (Int × Unit)) → Bool × (((List Int) × Unit) × (Unit × (Unit × Unit)))) (x0 : (List Int)) (x1 : (List Int)) : Option (((List Int) × (Int × Unit)) × (Unit × (Unit × Unit))) :=
 (bif (decide ((x1.length : Int) > (1048576 : Int))) then
 (some (([], (3 : Int), ()), ((), (), ())))
 else
 (cl (F54 (x0, (IntKind.u64.wrap (x1.length : Int)), ())) fun r92 =>
 (ck (fits (r92.1.1.length + x1.length) 1)
 (some ((r92.1.1 ++ x1, (0 : Int), ()), ((), (), ()))))))
theorem eq55 (F54 : ((List Int) × (Int × Unit)) → Bool × (((List Int) × Unit) × (Unit × (Unit × Unit)))) (n : Nat) (x0 : (List Int)) (x1 : (List Int)) : runM (cx55 F54 n) (fnOf 55) (body 55) M55a M55o (x0, x1, ()) = t55 F54 x0 x1 := by kernel_rfl
def raw55 (F54 : ((List Int) × (Int × Unit)) → Bool × (((List Int) × Unit) × (Unit × (Unit × Unit)))) (x : ((List Int) × ((List Int) × Unit))) : Option (((List Int) × (Int × Unit)) × (Unit × (Unit × Unit))) := t55 F54 x.1 x.2.1
theorem ok55 (F54 : ((List Int) × (Int × Unit)) → Bool × (((List Int) × Unit) × (Unit × (Unit × Unit)))) (h54 : FnOK Try.prog noG 54 (fnM M54a M54o F54)) : FnOK Try.prog noG 55 (fnM M55a M55o (toM (ma := M55a) (mo := M55o) (raw55 F54))) :=
  fnM_sound (cx55 F54 0) (SpecOK.addV SpecOK.none h54) mixed noG_ok (by kernel_rfl) (by kernel_rfl) (by kernel_rfl) (by kernel_rfl) (by kernel_rfl) (by kernel_rfl) (by kernel_rfl) (toM_run fun x => ⟨0, by have h := eq55 F54 0 x.1 x.2.1; exact h⟩)

noncomputable def G55 : ((List Int) × ((List Int) × Unit)) → Bool × (((List Int) × (Int × Unit)) × (Unit × (Unit × Unit))) := toM (ma := M55a) (mo := M55o) (raw55 G54)
theorem fok55 : FnOK Try.prog noG 55 (fnM M55a M55o G55) := ok55 G54 fok54
theorem G55_of {x0 : (List Int)} {x1 : (List Int)} {y : (((List Int) × (Int × Unit)) × (Unit × (Unit × Unit)))} (h : t55 G54 x0 x1 = some y) : G55 (x0, x1, ()) = (true, y) := toM_some (ma := M55a) (mo := M55o) h

/-- link.PieceBytes -/
@[reducible] def M29a : Md := (.cons (.ro (.cons (.int .u64) (.cons (.int .u64) (.cons (.int .u64) (.cons (.int .u64) (.cons (.sl (.int .u8)) .nil)))))) .nil)
@[reducible] def M29o : Md := (.cons (.ro (.sl (.int .u8))) (.cons (.ro (.int .i64)) .nil))
noncomputable def cx29 (F27 : ((Int × (Int × (Int × (Int × ((List Int) × Unit))))) × Unit) → Bool × ((Int × Unit) × (Unit × Unit))) (F54 : ((List Int) × (Int × Unit)) → Bool × (((List Int) × Unit) × (Unit × (Unit × Unit)))) (F55 : ((List Int) × ((List Int) × Unit)) → Bool × (((List Int) × (Int × Unit)) × (Unit × (Unit × Unit)))) (n : Nat) : Cx := { S := (addV (addV (addV noS 27 (fnM M27a M27o F27)) 54 (fnM M54a M54o F54)) 55 (fnM M55a M55o F55)), P := Try.prog, gl := noG, hint := [(122, [1, 5, 21, 22, 23])], pin := [], nin := 0, fuel := (n + 5) }
def t29 (F27 : ((Int × (Int × (Int × (Int × ((List Int) × Unit))))) × Unit) → Bool × ((Int × Unit) × (Unit × Unit))) (F54 : ((List Int) × (Int × Unit)) → Bool × (((List Int) × Unit) × (Unit × (Unit × Unit)))) (F55 : ((List Int) × ((List Int) × Unit)) → Bool × (((List Int) × (Int × Unit)) × (Unit × (Unit × Unit)))) (x0 : Int) (x1 : Int) (x2 : Int) (x3 : Int) (x4 : (List Int)) : Option (((List Int) × (Int × Unit)) × (Unit × Unit)) :=
 (cl (F27 ((x0, x1, x2, x3, x4, ()), ())) fun r94 =>
 (bif (r94.1.1 != (0 : Int)) then
 (some (([], r94.1.1, ()), ((), ())))
 else
 (cl (F54 ([], ([x0, x1, x2, x3].getD 0 (0 : Int)), ())) fun r95 =>
 (cl (F54 (r95.1.1, ([x0, x1, x2, x3].getD 1 (0 : Int)), ())) fun r96 =>
 (cl (F54 (r96.1.1, ([x0, x1, x2, x3].getD 2 (0 : Int)), ())) fun r97 =>
 (cl (F54 (r97.1.1, ([x0, x1, x2, x3].getD 3 (0 : Int)), ())) fun r98 =>
 (cl (F55 (r98.1.1, x4, ())) fun r99 =>
 (some ((r99.1.1, r99.1.2.1, ()), ((), ()))))))))))
theorem eq29 (F27 : ((Int × (Int × (Int × (Int × ((List Int) × Unit))))) × Unit) → Bool × ((Int × Unit) × (Unit × Unit))) (F54 : ((List Int) × (Int × Unit)) → Bool × (((List Int) × Unit) × (Unit × (Unit × Unit)))) (F55 : ((List Int) × ((List Int) × Unit)) → Bool × (((List Int) × (Int × Unit)) × (Unit × (Unit × Unit)))) (n : Nat) (x0 : Int) (x1 : Int) (x2 : Int) (x3 : Int) (x4 : (List Int)) : runM (cx29 F27 F54 F55 n) (fnOf 29) (body 29) M29a M29o ((x0, x1, x2, x3, x4, ()), ()) = t29 F27 F54 F55 x0 x1 x2 x3 x4 := by kernel_rfl
def raw29 (F27 : ((Int × (Int × (Int × (Int × ((List Int) × Unit))))) × Unit) → Bool × ((Int × Unit) × (Unit × Unit))) (F54 : ((List Int) × (Int × Unit)) → Bool × (((List Int) × Unit) × (Unit × (Unit × Unit)))) (F55 : ((List Int) × ((List Int) × Unit)) → Bool × (((List Int) × (Int × Unit)) × (Unit × (Unit × Unit)))) (x : ((Int × (Int × (Int × (Int × ((List Int) × Unit))))) × Unit)) : Option (((List Int) × (Int × Unit)) × (Unit × Unit)) := t29 F27 F54 F55 x.1.1 x.1.2.1 x.1.2.2.1 x.1.2.2.2.1 x.1.2.2.2.2.1
theorem ok29 (F27 : ((Int × (Int × (Int × (Int × ((List Int) × Unit))))) × Unit) → Bool × ((Int × Unit) × (Unit × Unit))) (F54 : ((List Int) × (Int × Unit)) → Bool × (((List Int) × Unit) × (Unit × (Unit × Unit)))) (F55 : ((List Int) × ((List Int) × Unit)) → Bool × (((List Int) × (Int × Unit)) × (Unit × (Unit × Unit)))) (h27 : FnOK Try.prog noG 27 (fnM M27a M27o F27)) (h54 : FnOK Try.prog noG 54 (fnM M54a M54o F54)) (h55 : FnOK Try.prog noG 55 (fnM M55a M55o F55)) : FnOK Try.prog noG 29 (fnM M29a M29o (toM (ma := M29a) (mo := M29o) (raw29 F27 F54 F55))) :=
  fnM_sound (cx29 F27 F54 F55 0) (SpecOK.addV (SpecOK.addV (SpecOK.addV SpecOK.none h27) h54) h55) mixed noG_ok (by kernel_rfl) (by kernel_rfl) (by kernel_rfl) (by kernel_rfl) (by kernel_rfl) (by kernel_rfl) (by kernel_rfl) (toM_run fun x => ⟨5, by have h := eq29 F27 F54 F55 0 x.1.1 x.1.2.1 x.1.2.2.1 x.1.2.2.2.1 x.1.2.2.2.2.1; exact h⟩)

noncomputable def G29 : ((Int × (Int × (Int × (Int × ((List Int) × Unit))))) × Unit) → Bool × (((List Int) × (Int × Unit)) × (Unit × Unit)) := toM (ma := M29a) (mo := M29o) (raw29 G27 G54 G55)
theorem fok29 : FnOK Try.prog noG 29 (fnM M29a M29o G29) := ok29 G27 G54 G55 fok27 fok54 fok55
theorem G29_of {x0 : Int} {x1 : Int} {x2 : Int} {x3 : Int} {x4 : (List Int)} {y : (((List Int) × (Int × Unit)) × (Unit × Unit))} (h : t29 G27 G54 G55 x0 x1 x2 x3 x4 = some y) : G29 ((x0, x1, x2, x3, x4, ()), ()) = (true, y) := toM_some (ma := M29a) (mo := M29o) h

/-- octet.New -/
@[reducible] def M48a : Md := (.cons (.ro (.sl (.int .u8))) .nil)
@[reducible] def M48o : Md := (.cons (.bx (.cons (.ow (.int .u8)) (.cons (.ro (.int .i64)) (.cons (.ro .bool) .nil)))) .nil)
noncomputable def cx48 (F42 : ((List Int) × Unit) → Bool × (((List Int) × Unit) × (Unit × Unit))) (n : Nat) : Cx := { S := (addV noS 42 (fnM M42a M42o F42)), P := Try.prog, gl := noG, hint := [], pin := [], nin := 0, fuel := n }
def t48 (F42 : ((List Int) × Unit) → Bool × (((List Int) × Unit) × (Unit × Unit))) (x0 : (List Int)) : Option ((((List Int) × (Int × (Bool × Unit))) × Unit) × (Unit × Unit)) :=
 (cl (F42 (x0, ())) fun r102 =>
 (some (((r102.1.1, (0 : Int), true, ()), ()), ((), ()))))
theorem eq48 (F42 : ((List Int) × Unit) → Bool × (((List Int) × Unit) × (Unit × Unit))) (n : Nat) (x0 : (List Int)) : runM (cx48 F42 n) (fnOf 48) (body 48) M48a M48o (x0, ()) = t48 F42 x0 := by kernel_rfl
def raw48 (F42 : ((List Int) × Unit) → Bool × (((List Int) × Unit) × (Unit × Unit))) (x : ((List Int) × Unit)) : Option ((((List Int) × (Int × (Bool × Unit))) × Unit) × (Unit × Unit)) := t48 F42 x.1
theorem ok48 (F42 : ((List Int) × Unit) → Bool × (((List Int) × Unit) × (Unit × Unit))) (h42 : FnOK Try.prog noG 42 (fnM M42a M42o F42)) : FnOK Try.prog noG 48 (fnM M48a M48o (toM (ma := M48a) (mo := M48o) (raw48 F42))) :=
  fnM_sound (cx48 F42 0) (SpecOK.addV SpecOK.none h42) mixed noG_ok (by kernel_rfl) (by kernel_rfl) (by kernel_rfl) (by kernel_rfl) (by kernel_rfl) (by kernel_rfl) (by kernel_rfl) (toM_run fun x => ⟨0, by have h := eq48 F42 0 x.1; exact h⟩)

noncomputable def G48 : ((List Int) × Unit) → Bool × ((((List Int) × (Int × (Bool × Unit))) × Unit) × (Unit × Unit)) := toM (ma := M48a) (mo := M48o) (raw48 G42)
theorem fok48 : FnOK Try.prog noG 48 (fnM M48a M48o G48) := ok48 G42 fok42
theorem G48_of {x0 : (List Int)} {y : ((((List Int) × (Int × (Bool × Unit))) × Unit) × (Unit × Unit))} (h : t48 G42 x0 = some y) : G48 (x0, ()) = (true, y) := toM_some (ma := M48a) (mo := M48o) h
theorem new48 (b : List Int) (h : b.length ≤ 140737488355328) : G48 (b, ()) = (true, (((b, 0, true, ()), ()), ((), ()))) := by
  refine G48_of ?_
  unfold t48
  rw [clone42 b h, cl_true]


/-- (*octet.Reader).dead -/
@[reducible] def M64a : Md := (.cons (.bx (.cons (.ow (.int .u8)) (.cons (.ro (.int .i64)) (.cons (.ro .bool) .nil)))) .nil)
@[reducible] def M64o : Md := (.cons (.ro .bool) .nil)
noncomputable def cx64 (n : Nat) : Cx := { S := noS, P := Try.prog, gl := noG, hint := [], pin := [0], nin := 2, fuel := n }
def t64 (x0 : List Int) (x1 : Int) (x2 : Bool) : Option ((Bool × Unit) × (((List Int) × (Int × (Bool × Unit))) × Unit)) :=
 (jn (fun (y557_0 : Bool) =>
 some ((y557_0, ()), ((x0, x1, x2, ()), ()))) fun (j557 : Bool → Option ((Bool × Unit) × (((List Int) × (Int × (Bool × Unit))) × Unit))) =>
 (bif (!x2) then
 (j557 true)
 else
 (j557 (x1 != (0 : Int)))))
theorem eq64 (n : Nat) (x0 : List Int) (x1 : Int) (x2 : Bool) : runM (cx64 n) (fnOf 64) (body 64) M64a M64o ((x0, x1, x2, ()), ()) = t64 x0 x1 x2 := by kernel_rfl
def raw64 (x : (((List Int) × (Int × (Bool × Unit))) × Unit)) : Option ((Bool × Unit) × (((List Int) × (Int × (Bool × Unit))) × Unit)) := t64 x.1.1 x.1.2.1 x.1.2.2.1
theorem ok64 : FnOK Try.prog noG 64 (fnM M64a M64o (toM (ma := M64a) (mo := M64o) (raw64))) :=
  fnM_sound (cx64 0) SpecOK.none mixed noG_ok (by kernel_rfl) (by kernel_rfl) (by kernel_rfl) (by kernel_rfl) (by kernel_rfl) (by kernel_rfl) (by kernel_rfl) (toM_run fun x => ⟨0, by have h := eq64 0 x.1.1 x.1.2.1 x.1.2.2.1; exact h⟩)

noncomputable def G64 : (((List Int) × (Int × (Bool × Unit))) × Unit) → Bool × ((Bool × Unit) × (((List Int) × (Int × (Bool × Unit))) × Unit)) := toM (ma := M64a) (mo := M64o) (raw64)
theorem fok64 : FnOK Try.prog noG 64 (fnM M64a M64o G64) := ok64
theorem G64_of {x0 : List Int} {x1 : Int} {x2 : Bool} {y : ((Bool × Unit) × (((List Int) × (Int × (Bool × Unit))) × Unit))} (h : t64 x0 x1 x2 = some y) : G64 ((x0, x1, x2, ()), ()) = (true, y) := toM_some (ma := M64a) (mo := M64o) h

/-- (*octet.Reader).fail -/
@[reducible] def M65a : Md := (.cons (.bx (.cons (.ow (.int .u8)) (.cons (.ro (.int .i64)) (.cons (.ro .bool) .nil)))) (.cons (.ro (.int .i64)) .nil))
@[reducible] def M65o : Md := .nil
noncomputable def cx65 (n : Nat) : Cx := { S := noS, P := Try.prog, gl := noG, hint := [], pin := [0], nin := 2, fuel := n }
def t65 (x0 : List Int) (x1 : Int) (x2 : Bool) (x3 : Int) : Option (Unit × (((List Int) × (Int × (Bool × Unit))) × (Unit × Unit))) :=
 some ((), ((x0, x3, x2, ()), (), ()))
theorem eq65 (n : Nat) (x0 : List Int) (x1 : Int) (x2 : Bool) (x3 : Int) : runM (cx65 n) (fnOf 65) (body 65) M65a M65o ((x0, x1, x2, ()), x3, ()) = t65 x0 x1 x2 x3 := by kernel_rfl
def raw65 (x : (((List Int) × (Int × (Bool × Unit))) × (Int × Unit))) : Option (Unit × (((List Int) × (Int × (Bool × Unit))) × (Unit × Unit))) := t65 x.1.1 x.1.2.1 x.1.2.2.1 x.2.1
theorem ok65 : FnOK Try.prog noG 65 (fnM M65a M65o (toM (ma := M65a) (mo := M65o) (raw65))) :=
  fnM_sound (cx65 0) SpecOK.none mixed noG_ok (by kernel_rfl) (by kernel_rfl) (by kernel_rfl) (by kernel_rfl) (by kernel_rfl) (by kernel_rfl) (by kernel_rfl) (toM_run fun x => ⟨0, by have h := eq65 0 x.1.1 x.1.2.1 x.1.2.2.1 x.2.1; exact h⟩)

noncomputable def G65 : (((List Int) × (Int × (Bool × Unit))) × (Int × Unit)) → Bool × (Unit × (((List Int) × (Int × (Bool × Unit))) × (Unit × Unit))) := toM (ma := M65a) (mo := M65o) (raw65)
theorem fok65 : FnOK Try.prog noG 65 (fnM M65a M65o G65) := ok65
theorem G65_of {x0 : List Int} {x1 : Int} {x2 : Bool} {x3 : Int} {y : (Unit × (((List Int) × (Int × (Bool × Unit))) × (Unit × Unit)))} (h : t65 x0 x1 x2 x3 = some y) : G65 ((x0, x1, x2, ()), x3, ()) = (true, y) := toM_some (ma := M65a) (mo := M65o) h

/-- (*octet.Reader).Number -/
@[reducible] def M49a : Md := (.cons (.bx (.cons (.ow (.int .u8)) (.cons (.ro (.int .i64)) (.cons (.ro .bool) .nil)))) .nil)
@[reducible] def M49o : Md := (.cons (.ro (.int .u64)) .nil)
noncomputable def cx49 (F64 : (((List Int) × (Int × (Bool × Unit))) × Unit) → Bool × ((Bool × Unit) × (((List Int) × (Int × (Bool × Unit))) × Unit))) (F65 : (((List Int) × (Int × (Bool × Unit))) × (Int × Unit)) → Bool × (Unit × (((List Int) × (Int × (Bool × Unit))) × (Unit × Unit)))) (n : Nat) : Cx := { S := (addV (addV noS 64 (fnM M64a M64o F64)) 65 (fnM M65a M65o F65)), P := Try.prog, gl := noG, hint := [(1018, [0, 3, 4, 60, 61, 62])], pin := [0], nin := 2, fuel := n }
noncomputable def l49_1018_0' (F64 : (((List Int) × (Int × (Bool × Unit))) × Unit) → Bool × ((Bool × Unit) × (((List Int) × (Int × (Bool × Unit))) × Unit))) (F65 : (((List Int) × (Int × (Bool × Unit))) × (Int × Unit)) → Bool × (Unit × (((List Int) × (Int × (Bool × Unit))) × (Unit × Unit)))) (n k : Nat) (v0 : Int) (v1 : Int) (v2 : Nat) (v3 : Nat) (v4 : Int) (v5 : Int) (v6 : List Int) (v7 : Int) (v8 : Bool) : Option ((Int × Unit) × (((List Int) × (Int × (Bool × Unit))) × Unit)) :=
  loopAt (cx49 F64 F65 n) (body 49) (bits 1018) [] k { tm := [(0, .ptr 0 0 []), (3, .int .i64 v0), (4, .int .u64 v1), (60, .hs 2 v2 v3), (61, .int .i64 v4), (62, .int .i64 v5)], hp := [(2, some (.row (.int .u8) v6)), (0, some (.box (.cons (.hw 2) (.cons (.int .i64 v7) (.cons (.bool v8) (.nil))))))], nx := 3 } (finM Try.prog (fnOf 49) M49a M49o)
noncomputable def l49_1018_0 : ((((List Int) × (Int × (Bool × Unit))) × Unit) → Bool × ((Bool × Unit) × (((List Int) × (Int × (Bool × Unit))) × Unit))) → ((((List Int) × (Int × (Bool × Unit))) × (Int × Unit)) → Bool × (Unit × (((List Int) × (Int × (Bool × Unit))) × (Unit × Unit)))) → Nat → Nat → Int → Int → Nat → Nat → Int → Int → List Int → Int → Bool → Option ((Int × Unit) × (((List Int) × (Int × (Bool × Unit))) × Unit)) := (sealed l49_1018_0').1
theorem l49_1018_0_e : l49_1018_0' = l49_1018_0 := (sealed l49_1018_0').2.symm
theorem l49_1018_0_s' (F64 : (((List Int) × (Int × (Bool × Unit))) × Unit) → Bool × ((Bool × Unit) × (((List Int) × (Int × (Bool × Unit))) × Unit))) (F65 : (((List Int) × (Int × (Bool × Unit))) × (Int × Unit)) → Bool × (Unit × (((List Int) × (Int × (Bool × Unit))) × (Unit × Unit)))) (n k : Nat) (v0 : Int) (v1 : Int) (v2 : Nat) (v3 : Nat) (v4 : Int) (v5 : Int) (v6 : List Int) (v7 : Int) (v8 : Bool) : l49_1018_0' F64 F65 n (k + 1) v0 v1 v2 v3 v4 v5 v6 v7 v8 =
 (bif (decide (v5 < v4)) then
 (ck (rng v5 v3)
 (l49_1018_0' F64 F65 n k v0 (IntKind.u64.wrap ((BitVec.ofInt 64 (IntKind.u64.wrap (v1 * 2 ^ 8)) ||| BitVec.ofInt 64 (IntKind.u64.wrap (v6.getD (v2 + v5.toNat) (0 : Int)))).toNat : Int)) v2 v3 v4 (IntKind.i64.wrap (v5 + (1 : Int))) v6 v7 v8))
 else
 (ck (decide (0 ≤ (IntKind.i64.wrap ((1 : Int) + v0))) && decide ((IntKind.i64.wrap ((1 : Int) + v0)) ≤ ((v6.length : Nat) : Int)))
 (some ((v1, ()), (((v6.drop ((IntKind.i64.wrap ((1 : Int) + v0)).toNat)).take (v6.length - (IntKind.i64.wrap ((1 : Int) + v0)).toNat), v7, v8, ()), ()))))) := by kernel_rfl
theorem l49_1018_0_s (F64 : (((List Int) × (Int × (Bool × Unit))) × Unit) → Bool × ((Bool × Unit) × (((List Int) × (Int × (Bool × Unit))) × Unit))) (F65 : (((List Int) × (Int × (Bool × Unit))) × (Int × Unit)) → Bool × (Unit × (((List Int) × (Int × (Bool × Unit))) × (Unit × Unit)))) (n k : Nat) (v0 : Int) (v1 : Int) (v2 : Nat) (v3 : Nat) (v4 : Int) (v5 : Int) (v6 : List Int) (v7 : Int) (v8 : Bool) : l49_1018_0 F64 F65 n (k + 1) v0 v1 v2 v3 v4 v5 v6 v7 v8 =
 (bif (decide (v5 < v4)) then
 (ck (rng v5 v3)
 (l49_1018_0 F64 F65 n k v0 (IntKind.u64.wrap ((BitVec.ofInt 64 (IntKind.u64.wrap (v1 * 2 ^ 8)) ||| BitVec.ofInt 64 (IntKind.u64.wrap (v6.getD (v2 + v5.toNat) (0 : Int)))).toNat : Int)) v2 v3 v4 (IntKind.i64.wrap (v5 + (1 : Int))) v6 v7 v8))
 else
 (ck (decide (0 ≤ (IntKind.i64.wrap ((1 : Int) + v0))) && decide ((IntKind.i64.wrap ((1 : Int) + v0)) ≤ ((v6.length : Nat) : Int)))
 (some ((v1, ()), (((v6.drop ((IntKind.i64.wrap ((1 : Int) + v0)).toNat)).take (v6.length - (IntKind.i64.wrap ((1 : Int) + v0)).toNat), v7, v8, ()), ()))))) := by
  have h := l49_1018_0_s' F64 F65 n k v0 v1 v2 v3 v4 v5 v6 v7 v8
  rw [l49_1018_0_e] at h
  exact h
theorem l49_1018_0_z' (F64 : (((List Int) × (Int × (Bool × Unit))) × Unit) → Bool × ((Bool × Unit) × (((List Int) × (Int × (Bool × Unit))) × Unit))) (F65 : (((List Int) × (Int × (Bool × Unit))) × (Int × Unit)) → Bool × (Unit × (((List Int) × (Int × (Bool × Unit))) × (Unit × Unit)))) (n : Nat) (v0 : Int) (v1 : Int) (v2 : Nat) (v3 : Nat) (v4 : Int) (v5 : Int) (v6 : List Int) (v7 : Int) (v8 : Bool) : l49_1018_0' F64 F65 n 0 v0 v1 v2 v3 v4 v5 v6 v7 v8 =
 none := by kernel_rfl
theorem l49_1018_0_z (F64 : (((List Int) × (Int × (Bool × Unit))) × Unit) → Bool × ((Bool × Unit) × (((List Int) × (Int × (Bool × Unit))) × Unit))) (F65 : (((List Int) × (Int × (Bool × Unit))) × (Int × Unit)) → Bool × (Unit × (((List Int) × (Int × (Bool × Unit))) × (Unit × Unit)))) (n : Nat) (v0 : Int) (v1 : Int) (v2 : Nat) (v3 : Nat) (v4 : Int) (v5 : Int) (v6 : List Int) (v7 : Int) (v8 : Bool) : l49_1018_0 F64 F65 n 0 v0 v1 v2 v3 v4 v5 v6 v7 v8 =
 none := by
  have h := l49_1018_0_z' F64 F65 n v0 v1 v2 v3 v4 v5 v6 v7 v8
  rw [l49_1018_0_e] at h
  exact h
theorem eq49' (F64 : (((List Int) × (Int × (Bool × Unit))) × Unit) → Bool × ((Bool × Unit) × (((List Int) × (Int × (Bool × Unit))) × Unit))) (F65 : (((List Int) × (Int × (Bool × Unit))) × (Int × Unit)) → Bool × (Unit × (((List Int) × (Int × (Bool × Unit))) × (Unit × Unit)))) (n : Nat) (x0 : List Int) (x1 : Int) (x2 : Bool) : runM (cx49 F64 F65 n) (fnOf 49) (body 49) M49a M49o ((x0, x1, x2, ()), ()) =
 (cl (F64 ((x0, x1, x2, ()), ())) fun r109 =>
 (bif r109.1.1 then
 (some (((0 : Int), ()), ((r109.2.1.1, r109.2.1.2.1, r109.2.1.2.2.1, ()), ())))
 else
 (bif ((r109.2.1.1.length : Int) == (0 : Int)) then
 (cl (F65 ((r109.2.1.1, r109.2.1.2.1, r109.2.1.2.2.1, ()), (5 : Int), ())) fun r110 =>
 (some (((0 : Int), ()), ((r110.2.1.1, r110.2.1.2.1, r110.2.1.2.2.1, ()), ()))))
 else
 (ck (rng (0 : Int) r109.2.1.1.length)
 (bif (decide ((IntKind.i64.wrap (r109.2.1.1.getD 0 (0 : Int))) > (8 : Int))) then
 (cl (F65 ((r109.2.1.1, r109.2.1.2.1, r109.2.1.2.2.1, ()), (4 : Int), ())) fun r111 =>
 (some (((0 : Int), ()), ((r111.2.1.1, r111.2.1.2.1, r111.2.1.2.2.1, ()), ()))))
 else
 (bif (decide ((r109.2.1.1.length : Int) < (IntKind.i64.wrap ((1 : Int) + (IntKind.i64.wrap (r109.2.1.1.getD 0 (0 : Int))))))) then
 (cl (F65 ((r109.2.1.1, r109.2.1.2.1, r109.2.1.2.2.1, ()), (5 : Int), ())) fun r112 =>
 (some (((0 : Int), ()), ((r112.2.1.1, r112.2.1.2.1, r112.2.1.2.2.1, ()), ()))))
 else
 (jn (fun (y599_0 : Bool) =>
 (bif y599_0 then
 (cl (F65 ((r109.2.1.1, r109.2.1.2.1, r109.2.1.2.2.1, ()), (4 : Int), ())) fun r113 =>
 (some (((0 : Int), ()), ((r113.2.1.1, r113.2.1.2.1, r113.2.1.2.2.1, ()), ()))))
 else
 (ck ((decide (0 ≤ (IntKind.i64.wrap ((1 : Int) + (IntKind.i64.wrap (r109.2.1.1.getD 0 (0 : Int)))))) && decide ((IntKind.i64.wrap ((1 : Int) + (IntKind.i64.wrap (r109.2.1.1.getD 0 (0 : Int))))) ≤ ((r109.2.1.1.length : Nat) : Int))) && (decide (0 ≤ (1 : Int)) && decide ((1 : Int) ≤ (IntKind.i64.wrap ((1 : Int) + (IntKind.i64.wrap (r109.2.1.1.getD 0 (0 : Int))))))))
 (l49_1018_0' F64 F65 n n (IntKind.i64.wrap (r109.2.1.1.getD 0 (0 : Int))) (0 : Int) 1 ((IntKind.i64.wrap ((1 : Int) + (IntKind.i64.wrap (r109.2.1.1.getD 0 (0 : Int))))).toNat - 1) ((((IntKind.i64.wrap ((1 : Int) + (IntKind.i64.wrap (r109.2.1.1.getD 0 (0 : Int))))).toNat - 1) : Nat) : Int) (0 : Int) r109.2.1.1 r109.2.1.2.1 r109.2.1.2.2.1)))) fun (j599 : Bool → Option ((Int × Unit) × (((List Int) × (Int × (Bool × Unit))) × Unit))) =>
 (bif (decide ((IntKind.i64.wrap (r109.2.1.1.getD 0 (0 : Int))) > (0 : Int))) then
 (ck (rng (1 : Int) r109.2.1.1.length)
 (j599 ((r109.2.1.1.getD 1 (0 : Int)) == (0 : Int))))
 else
 (j599 false))))))))) := by kernel_rfl
theorem eq49 (F64 : (((List Int) × (Int × (Bool × Unit))) × Unit) → Bool × ((Bool × Unit) × (((List Int) × (Int × (Bool × Unit))) × Unit))) (F65 : (((List Int) × (Int × (Bool × Unit))) × (Int × Unit)) → Bool × (Unit × (((List Int) × (Int × (Bool × Unit))) × (Unit × Unit)))) (n : Nat) (x0 : List Int) (x1 : Int) (x2 : Bool) : runM (cx49 F64 F65 n) (fnOf 49) (body 49) M49a M49o ((x0, x1, x2, ()), ()) =
 (cl (F64 ((x0, x1, x2, ()), ())) fun r109 =>
 (bif r109.1.1 then
 (some (((0 : Int), ()), ((r109.2.1.1, r109.2.1.2.1, r109.2.1.2.2.1, ()), ())))
 else
 (bif ((r109.2.1.1.length : Int) == (0 : Int)) then
 (cl (F65 ((r109.2.1.1, r109.2.1.2.1, r109.2.1.2.2.1, ()), (5 : Int), ())) fun r110 =>
 (some (((0 : Int), ()), ((r110.2.1.1, r110.2.1.2.1, r110.2.1.2.2.1, ()), ()))))
 else
 (ck (rng (0 : Int) r109.2.1.1.length)
 (bif (decide ((IntKind.i64.wrap (r109.2.1.1.getD 0 (0 : Int))) > (8 : Int))) then
 (cl (F65 ((r109.2.1.1, r109.2.1.2.1, r109.2.1.2.2.1, ()), (4 : Int), ())) fun r111 =>
 (some (((0 : Int), ()), ((r111.2.1.1, r111.2.1.2.1, r111.2.1.2.2.1, ()), ()))))
 else
 (bif (decide ((r109.2.1.1.length : Int) < (IntKind.i64.wrap ((1 : Int) + (IntKind.i64.wrap (r109.2.1.1.getD 0 (0 : Int))))))) then
 (cl (F65 ((r109.2.1.1, r109.2.1.2.1, r109.2.1.2.2.1, ()), (5 : Int), ())) fun r112 =>
 (some (((0 : Int), ()), ((r112.2.1.1, r112.2.1.2.1, r112.2.1.2.2.1, ()), ()))))
 else
 (jn (fun (y599_0 : Bool) =>
 (bif y599_0 then
 (cl (F65 ((r109.2.1.1, r109.2.1.2.1, r109.2.1.2.2.1, ()), (4 : Int), ())) fun r113 =>
 (some (((0 : Int), ()), ((r113.2.1.1, r113.2.1.2.1, r113.2.1.2.2.1, ()), ()))))
 else
 (ck ((decide (0 ≤ (IntKind.i64.wrap ((1 : Int) + (IntKind.i64.wrap (r109.2.1.1.getD 0 (0 : Int)))))) && decide ((IntKind.i64.wrap ((1 : Int) + (IntKind.i64.wrap (r109.2.1.1.getD 0 (0 : Int))))) ≤ ((r109.2.1.1.length : Nat) : Int))) && (decide (0 ≤ (1 : Int)) && decide ((1 : Int) ≤ (IntKind.i64.wrap ((1 : Int) + (IntKind.i64.wrap (r109.2.1.1.getD 0 (0 : Int))))))))
 (l49_1018_0 F64 F65 n n (IntKind.i64.wrap (r109.2.1.1.getD 0 (0 : Int))) (0 : Int) 1 ((IntKind.i64.wrap ((1 : Int) + (IntKind.i64.wrap (r109.2.1.1.getD 0 (0 : Int))))).toNat - 1) ((((IntKind.i64.wrap ((1 : Int) + (IntKind.i64.wrap (r109.2.1.1.getD 0 (0 : Int))))).toNat - 1) : Nat) : Int) (0 : Int) r109.2.1.1 r109.2.1.2.1 r109.2.1.2.2.1)))) fun (j599 : Bool → Option ((Int × Unit) × (((List Int) × (Int × (Bool × Unit))) × Unit))) =>
 (bif (decide ((IntKind.i64.wrap (r109.2.1.1.getD 0 (0 : Int))) > (0 : Int))) then
 (ck (rng (1 : Int) r109.2.1.1.length)
 (j599 ((r109.2.1.1.getD 1 (0 : Int)) == (0 : Int))))
 else
 (j599 false))))))))) := by
  have h := eq49' F64 F65 n x0 x1 x2
  rw [l49_1018_0_e] at h
  exact h
theorem ok49 (F64 : (((List Int) × (Int × (Bool × Unit))) × Unit) → Bool × ((Bool × Unit) × (((List Int) × (Int × (Bool × Unit))) × Unit))) (F65 : (((List Int) × (Int × (Bool × Unit))) × (Int × Unit)) → Bool × (Unit × (((List Int) × (Int × (Bool × Unit))) × (Unit × Unit)))) (h64 : FnOK Try.prog noG 64 (fnM M64a M64o F64)) (h65 : FnOK Try.prog noG 65 (fnM M65a M65o F65)) (f : (((List Int) × (Int × (Bool × Unit))) × Unit) → Bool × ((Int × Unit) × (((List Int) × (Int × (Bool × Unit))) × Unit))) (hrun : ∀ x, (f x).1 = true → ∃ n, runM (cx49 F64 F65 n) (fnOf 49) (body 49) M49a M49o x = some (f x).2) : FnOK Try.prog noG 49 (fnM M49a M49o f) :=
  fnM_sound (cx49 F64 F65 0) (SpecOK.addV (SpecOK.addV SpecOK.none h64) h65) mixed noG_ok (by kernel_rfl) (by kernel_rfl) (by kernel_rfl) (by kernel_rfl) (by kernel_rfl) (by kernel_rfl) (by kernel_rfl) (fun x h => by obtain ⟨n, hn⟩ := hrun x h; exact ⟨n + 0, hn⟩)

theorem dead64 (b : List Int) (e : Int) (m : Bool) : G64 ((b, e, m, ()), ()) = (true, ((!m || e != 0, ()), ((b, e, m, ()), ()))) := by
  refine G64_of ?_
  unfold t64
  cases m <;> simp [jn]
theorem fail65 (b : List Int) (e : Int) (m : Bool) (e' : Int) : G65 ((b, e, m, ()), e', ()) = (true, ((), ((b, e', m, ()), (), ()))) := G65_of rfl
def G49 (x : (List Int × (Int × (Bool × Unit))) × Unit) : Bool × ((Int × Unit) × ((List Int × (Int × (Bool × Unit))) × Unit)) :=
  (okB x.1.1 && decide (x.1.1.length < 9223372036854775808), if x.1.2.2.1 = true ∧ x.1.2.1 = 0 then (((rdN x.1.1).1, ()), (((rdN x.1.1).2.2, (rdN x.1.1).2.1, true, ()), ())) else ((0, ()), (x.1, ())))
theorem lp49 (n c : Nat) (t : List Int) (hc : c ≤ t.length) (hc8 : c ≤ 8) (ht : okB t = true) (ht2 : t.length < 9223372036854775808) (a e : Int) (m : Bool) : ∀ (k i v : Nat), i ≤ c → c - i < k → v < 256 ^ i →
    l49_1018_0 G64 G65 n k c v 1 c c i (a :: t) e m = some ((unF v ((t.drop i).take (c - i)), ()), ((t.drop c, e, m, ()), ())) := by
  intro k
  induction k with
  | zero => intro i v h1 h2; omega
  | succ k ih =>
    intro i v h1 h2 h3
    rw [l49_1018_0_s]
    by_cases hi : i < c
    · have hg := okB_get ht i
      have hp : (256 : Nat) ^ (i + 1) ≤ 256 ^ 8 := Nat.pow_le_pow_right (by omega) (by omega)
      have hq : (256 : Nat) ^ i ≤ 256 ^ 7 := Nat.pow_le_pow_right (by omega) (by omega)
      have e8 : (256 : Nat) ^ 7 = 2 ^ 56 := by decide
      have hcons : ((t.drop i).take (c - i)) = t.getD i 0 :: ((t.drop (i + 1)).take (c - (i + 1))) := by
        rw [List.drop_eq_getElem_cons (by omega), show c - i = (c - (i + 1)) + 1 by omega, List.take_succ_cons, List.getD_eq_getElem?_getD, List.getElem?_eq_getElem (by omega)]
        rfl
      rw [decide_eq_true (show (i : Int) < c by omega), show rng (i : Int) c = true from rng_ok (by omega) (by omega)]
      simp only [cond_true, ck_true]
      rw [Int.toNat_natCast, Nat.add_comm 1 i, List.getD_cons_succ, wrap_i64 (show -9223372036854775808 ≤ (i : Int) + 1 by omega) (by omega)]
      rw [hcons, unF_cons]
      generalize t.getD i 0 = d at hg
      obtain ⟨d, rfl⟩ : ∃ q : Nat, d = q := ⟨d.toNat, by omega⟩
      rw [or_byte (by omega) (by omega)]
      have := ih (i + 1) (v * 256 + d) (by omega) (by omega) (by rw [Nat.pow_succ]; omega)
      exact this
    · obtain rfl : i = c := by omega
      rw [decide_eq_false (by omega), wrap_i64 (show -9223372036854775808 ≤ 1 + (i : Int) by omega) (by omega), decide_eq_true (show 0 ≤ 1 + (i : Int) by omega), decide_eq_true (show 1 + (i : Int) ≤ (((a :: t).length : Nat) : Int) by rw [List.length_cons]; omega)]
      simp only [cond_false, ck_true, Bool.and_true, Nat.sub_self, List.take_zero]
      rw [show (1 + (i : Int)).toNat = i + 1 by omega, List.drop_succ_cons, List.length_cons, List.take_of_length_le (by simp)]
      rfl
theorem run49 (x : (List Int × (Int × (Bool × Unit))) × Unit) (h : (G49 x).1 = true) : ∃ n, runM (cx49 G64 G65 n) (fnOf 49) (body 49) M49a M49o x = some (G49 x).2 := by
  obtain ⟨⟨b, e, m, ⟨⟩⟩, ⟨⟩⟩ := x
  simp only [G49, Bool.and_eq_true, decide_eq_true_eq] at h ⊢
  obtain ⟨h1, h2⟩ := h
  refine ⟨20, ?_⟩
  rw [eq49, dead64, cl_true]
  by_cases hl : m = true ∧ e = 0
  case neg =>
    rw [if_neg hl]
    have : (!m || e != 0) = true := by
      cases m <;> simp at hl ⊢; exact hl
    rw [this]; rfl
  obtain ⟨rfl, rfl⟩ := hl
  rw [if_pos ⟨rfl, rfl⟩]
  cases b with
  | nil => simp [fail65, cl_true, rdN]; rfl
  | cons a t =>
    obtain ⟨⟨a1, a2⟩, ht⟩ := okB_cons.1 h1
    have h3 : t.length + 1 < 9223372036854775808 := by simpa using h2
    rw [rdN_cons]
    simp only [List.getD_cons_zero]
    rw [wrap_i64 (show -9223372036854775808 ≤ a by omega) (by omega), wrap_i64 (show -9223372036854775808 ≤ 1 + a by omega) (by omega)]
    have c0 : ¬ (((a :: t).length : Int) = 0) := by rw [List.length_cons]; omega
    have r0 : rng 0 (a :: t).length = true := rng_ok (by omega) (by rw [List.length_cons]; omega)
    by_cases c1 : 8 < a
    · simp only [show (((a :: t).length : Int) == 0) = false by simpa using c0, cond_false, r0, ck_true, decide_eq_true (show a > 8 by omega), cond_true, if_pos c1, fail65, cl_true]
      rfl
    by_cases c2 : (t.length : Int) < a
    · simp only [show (((a :: t).length : Int) == 0) = false by simpa using c0, cond_false, r0, ck_true, decide_eq_false (show ¬ (a > 8) by omega), decide_eq_true (show ((a :: t).length : Int) < 1 + a by rw [List.length_cons]; omega), cond_true, if_neg c1, if_pos c2, fail65, cl_true]
      rfl
    obtain ⟨c, rfl⟩ : ∃ q : Nat, a = q := ⟨a.toNat, by omega⟩
    have hfin := lp49 20 c t (by omega) (by omega) ht (by omega) c 0 true 20 0 0 (by omega) (by omega) (by simp)
    have e1 : (1 + (c : Int)).toNat - 1 = c := by omega
    by_cases c3 : 0 < c
    · have r1 : rng 1 ((c : Int) :: t).length = true := rng_ok (by omega) (by rw [List.length_cons]; omega)
      have e2 : ((c : Int) :: t).getD 1 0 = t.getD 0 0 := by simp
      by_cases c4 : t.getD 0 0 = 0
      · rw [if_neg c1, if_neg c2, if_pos (show 0 < (c : Int) ∧ t.getD 0 0 = 0 from ⟨by omega, c4⟩)]
        simp only [show ((((c : Int) :: t).length : Int) == 0) = false by simpa using c0, cond_false, r0, ck_true, jn, decide_eq_false (show ¬ ((c : Int) > 8) by omega), decide_eq_false (show ¬ ((((c : Int) :: t).length : Int) < 1 + c) by simp; omega), decide_eq_true (show (c : Int) > 0 by omega), cond_true, r1, e2, c4]
        rw [fail65, cl_true]
        rfl
      · rw [if_neg c1, if_neg c2, if_neg (show ¬ (0 < (c : Int) ∧ t.getD 0 0 = 0) from fun hh => c4 hh.2)]
        simp only [show ((((c : Int) :: t).length : Int) == 0) = false by simpa using c0, cond_false, r0, ck_true, jn, decide_eq_false (show ¬ ((c : Int) > 8) by omega), decide_eq_false (show ¬ ((((c : Int) :: t).length : Int) < 1 + c) by simp; omega), decide_eq_true (show (c : Int) > 0 by omega), cond_true, r1, e2, show (t.getD 0 0 == 0) = false by simpa using c4]
        rw [decide_eq_true (show 0 ≤ 1 + (c : Int) by omega), decide_eq_true (show 1 + (c : Int) ≤ (((((c : Int) :: t).length : Nat)) : Int) by simp; omega), decide_eq_true (show (0 : Int) ≤ 1 by omega), decide_eq_true (show (1 : Int) ≤ 1 + (c : Int) by omega), e1]
        exact hfin
    · obtain rfl : c = 0 := by omega
      rw [if_neg c1, if_neg c2, if_neg (by omega)]
      simp only [show (((((0 : Nat) : Int) :: t).length : Int) == 0) = false by simpa using c0, cond_false, r0, ck_true, jn, decide_eq_false (show ¬ (((0 : Nat) : Int) > 8) by omega), decide_eq_false (show ¬ (((((0 : Nat) : Int) :: t).length : Int) < 1 + ((0 : Nat) : Int)) by simp; omega), decide_eq_false (show ¬ (((0 : Nat) : Int) > 0) by omega)]
      rw [decide_eq_true (show 0 ≤ 1 + ((0 : Nat) : Int) by omega), decide_eq_true (show 1 + ((0 : Nat) : Int) ≤ ((((((0 : Nat) : Int) :: t).length : Nat)) : Int) by simp; omega), decide_eq_true (show (0 : Int) ≤ 1 by omega), decide_eq_true (show (1 : Int) ≤ 1 + ((0 : Nat) : Int) by omega), e1]
      exact hfin
theorem st49 (b : List Int) (e : Int) (h : okB b = true) (h2 : b.length < 9223372036854775808) : G49 ((b, e, true, ()), ()) = (true, (((st (b, e)).1, ()), (((st (b, e)).2.1, (st (b, e)).2.2, true, ()), ()))) := by
  simp only [G49, st]
  by_cases he : e = 0
  · simp [he, h, h2]
  · simp [he, h, h2]

theorem fok49 : FnOK Try.prog noG 49 (fnM M49a M49o G49) := ok49 G64 G65 fok64 fok65 G49 run49

/-- (*octet.Reader).Fixed -/
@[reducible] def M66a : Md := (.cons (.bx (.cons (.ow (.int .u8)) (.cons (.ro (.int .i64)) (.cons (.ro .bool) .nil)))) (.cons (.ro (.int .i64)) .nil))
@[reducible] def M66o : Md := (.cons (.ro (.sl (.int .u8))) .nil)
noncomputable def cx66 (F64 : (((List Int) × (Int × (Bool × Unit))) × Unit) → Bool × ((Bool × Unit) × (((List Int) × (Int × (Bool × Unit))) × Unit))) (F65 : (((List Int) × (Int × (Bool × Unit))) × (Int × Unit)) → Bool × (Unit × (((List Int) × (Int × (Bool × Unit))) × (Unit × Unit)))) (n : Nat) : Cx := { S := (addV (addV noS 64 (fnM M64a M64o F64)) 65 (fnM M65a M65o F65)), P := Try.prog, gl := noG, hint := [], pin := [0], nin := 2, fuel := n }
def t66 (F64 : (((List Int) × (Int × (Bool × Unit))) × Unit) → Bool × ((Bool × Unit) × (((List Int) × (Int × (Bool × Unit))) × Unit))) (F65 : (((List Int) × (Int × (Bool × Unit))) × (Int × Unit)) → Bool × (Unit × (((List Int) × (Int × (Bool × Unit))) × (Unit × Unit)))) (x0 : List Int) (x1 : Int) (x2 : Bool) (x3 : Int) : Option (((List Int) × Unit) × (((List Int) × (Int × (Bool × Unit))) × (Unit × Unit))) :=
 (cl (F64 ((x0, x1, x2, ()), ())) fun r123 =>
 (bif r123.1.1 then
 (some (([], ()), ((r123.2.1.1, r123.2.1.2.1, r123.2.1.2.2.1, ()), (), ())))
 else
 (bif (decide ((r123.2.1.1.length : Int) < (if x3 > (0 : Int) then x3 else (0 : Int)))) then
 (cl (F65 ((r123.2.1.1, r123.2.1.2.1, r123.2.1.2.2.1, ()), (5 : Int), ())) fun r124 =>
 (some (([], ()), ((r124.2.1.1, r124.2.1.2.1, r124.2.1.2.2.1, ()), (), ()))))
 else
 (ck ((decide (0 ≤ (if x3 > (0 : Int) then x3 else (0 : Int))) && decide ((if x3 > (0 : Int) then x3 else (0 : Int)) ≤ ((r123.2.1.1.length : Nat) : Int))) && true)
 (ck (fits (0 + ((r123.2.1.1.drop 0).take ((if x3 > (0 : Int) then x3 else (0 : Int)).toNat)).length) 1)
 (ck (decide (0 ≤ (if x3 > (0 : Int) then x3 else (0 : Int))) && decide ((if x3 > (0 : Int) then x3 else (0 : Int)) ≤ ((r123.2.1.1.length : Nat) : Int)))
 (some (([] ++ ((r123.2.1.1.drop 0).take ((if x3 > (0 : Int) then x3 else (0 : Int)).toNat)), ()), (((r123.2.1.1.drop ((if x3 > (0 : Int) then x3 else (0 : Int)).toNat)).take (r123.2.1.1.length - (if x3 > (0 : Int) then x3 else (0 : Int)).toNat), r123.2.1.2.1, r123.2.1.2.2.1, ()), (), ())))))))))
theorem eq66 (F64 : (((List Int) × (Int × (Bool × Unit))) × Unit) → Bool × ((Bool × Unit) × (((List Int) × (Int × (Bool × Unit))) × Unit))) (F65 : (((List Int) × (Int × (Bool × Unit))) × (Int × Unit)) → Bool × (Unit × (((List Int) × (Int × (Bool × Unit))) × (Unit × Unit)))) (n : Nat) (x0 : List Int) (x1 : Int) (x2 : Bool) (x3 : Int) : runM (cx66 F64 F65 n) (fnOf 66) (body 66) M66a M66o ((x0, x1, x2, ()), x3, ()) = t66 F64 F65 x0 x1 x2 x3 := by kernel_rfl
def raw66 (F64 : (((List Int) × (Int × (Bool × Unit))) × Unit) → Bool × ((Bool × Unit) × (((List Int) × (Int × (Bool × Unit))) × Unit))) (F65 : (((List Int) × (Int × (Bool × Unit))) × (Int × Unit)) → Bool × (Unit × (((List Int) × (Int × (Bool × Unit))) × (Unit × Unit)))) (x : (((List Int) × (Int × (Bool × Unit))) × (Int × Unit))) : Option (((List Int) × Unit) × (((List Int) × (Int × (Bool × Unit))) × (Unit × Unit))) := t66 F64 F65 x.1.1 x.1.2.1 x.1.2.2.1 x.2.1
theorem ok66 (F64 : (((List Int) × (Int × (Bool × Unit))) × Unit) → Bool × ((Bool × Unit) × (((List Int) × (Int × (Bool × Unit))) × Unit))) (F65 : (((List Int) × (Int × (Bool × Unit))) × (Int × Unit)) → Bool × (Unit × (((List Int) × (Int × (Bool × Unit))) × (Unit × Unit)))) (h64 : FnOK Try.prog noG 64 (fnM M64a M64o F64)) (h65 : FnOK Try.prog noG 65 (fnM M65a M65o F65)) : FnOK Try.prog noG 66 (fnM M66a M66o (toM (ma := M66a) (mo := M66o) (raw66 F64 F65))) :=
  fnM_sound (cx66 F64 F65 0) (SpecOK.addV (SpecOK.addV SpecOK.none h64) h65) mixed noG_ok (by kernel_rfl) (by kernel_rfl) (by kernel_rfl) (by kernel_rfl) (by kernel_rfl) (by kernel_rfl) (by kernel_rfl) (toM_run fun x => ⟨0, by have h := eq66 F64 F65 0 x.1.1 x.1.2.1 x.1.2.2.1 x.2.1; exact h⟩)

noncomputable def G66 : (((List Int) × (Int × (Bool × Unit))) × (Int × Unit)) → Bool × (((List Int) × Unit) × (((List Int) × (Int × (Bool × Unit))) × (Unit × Unit))) := toM (ma := M66a) (mo := M66o) (raw66 G64 G65)
theorem fok66 : FnOK Try.prog noG 66 (fnM M66a M66o G66) := ok66 G64 G65 fok64 fok65
theorem G66_of {x0 : List Int} {x1 : Int} {x2 : Bool} {x3 : Int} {y : (((List Int) × Unit) × (((List Int) × (Int × (Bool × Unit))) × (Unit × Unit)))} (h : t66 G64 G65 x0 x1 x2 x3 = some y) : G66 ((x0, x1, x2, ()), x3, ()) = (true, y) := toM_some (ma := M66a) (mo := M66o) h

/-- (*octet.Reader).Block -/
@[reducible] def M50a : Md := (.cons (.bx (.cons (.ow (.int .u8)) (.cons (.ro (.int .i64)) (.cons (.ro .bool) .nil)))) .nil)
@[reducible] def M50o : Md := (.cons (.ro (.sl (.int .u8))) .nil)
noncomputable def cx50 (F64 : (((List Int) × (Int × (Bool × Unit))) × Unit) → Bool × ((Bool × Unit) × (((List Int) × (Int × (Bool × Unit))) × Unit))) (F65 : (((List Int) × (Int × (Bool × Unit))) × (Int × Unit)) → Bool × (Unit × (((List Int) × (Int × (Bool × Unit))) × (Unit × Unit)))) (F49 : (((List Int) × (Int × (Bool × Unit))) × Unit) → Bool × ((Int × Unit) × (((List Int) × (Int × (Bool × Unit))) × Unit))) (F66 : (((List Int) × (Int × (Bool × Unit))) × (Int × Unit)) → Bool × (((List Int) × Unit) × (((List Int) × (Int × (Bool × Unit))) × (Unit × Unit)))) (n : Nat) : Cx := { S := (addV (addV (addV (addV noS 64 (fnM M64a M64o F64)) 65 (fnM M65a M65o F65)) 49 (fnM M49a M49o F49)) 66 (fnM M66a M66o F66)), P := Try.prog, gl := noG, hint := [], pin := [0], nin := 2, fuel := n }
def t50 (F64 : (((List Int) × (Int × (Bool × Unit))) × Unit) → Bool × ((Bool × Unit) × (((List Int) × (Int × (Bool × Unit))) × Unit))) (F65 : (((List Int) × (Int × (Bool × Unit))) × (Int × Unit)) → Bool × (Unit × (((List Int) × (Int × (Bool × Unit))) × (Unit × Unit)))) (F49 : (((List Int) × (Int × (Bool × Unit))) × Unit) → Bool × ((Int × Unit) × (((List Int) × (Int × (Bool × Unit))) × Unit))) (F66 : (((List Int) × (Int × (Bool × Unit))) × (Int × Unit)) → Bool × (((List Int) × Unit) × (((List Int) × (Int × (Bool × Unit))) × (Unit × Unit)))) (x0 : List Int) (x1 : Int) (x2 : Bool) : Option (((List Int) × Unit) × (((List Int) × (Int × (Bool × Unit))) × Unit)) :=
 (cl (F49 ((x0, x1, x2, ()), ())) fun r126 =>
 (cl (F64 ((r126.2.1.1, r126.2.1.2.1, r126.2.1.2.2.1, ()), ())) fun r127 =>
 (bif r127.1.1 then
 (some (([], ()), ((r127.2.1.1, r127.2.1.2.1, r127.2.1.2.2.1, ()), ())))
 else
 (bif (decide (r126.1.1 > (1048576 : Int))) then
 (cl (F65 ((r127.2.1.1, r127.2.1.2.1, r127.2.1.2.2.1, ()), (3 : Int), ())) fun r128 =>
 (some (([], ()), ((r128.2.1.1, r128.2.1.2.1, r128.2.1.2.2.1, ()), ()))))
 else
 (cl (F66 ((r127.2.1.1, r127.2.1.2.1, r127.2.1.2.2.1, ()), (IntKind.i64.wrap r126.1.1), ())) fun r129 =>
 (some ((r129.1.1, ()), ((r129.2.1.1, r129.2.1.2.1, r129.2.1.2.2.1, ()), ()))))))))
theorem eq50 (F64 : (((List Int) × (Int × (Bool × Unit))) × Unit) → Bool × ((Bool × Unit) × (((List Int) × (Int × (Bool × Unit))) × Unit))) (F65 : (((List Int) × (Int × (Bool × Unit))) × (Int × Unit)) → Bool × (Unit × (((List Int) × (Int × (Bool × Unit))) × (Unit × Unit)))) (F49 : (((List Int) × (Int × (Bool × Unit))) × Unit) → Bool × ((Int × Unit) × (((List Int) × (Int × (Bool × Unit))) × Unit))) (F66 : (((List Int) × (Int × (Bool × Unit))) × (Int × Unit)) → Bool × (((List Int) × Unit) × (((List Int) × (Int × (Bool × Unit))) × (Unit × Unit)))) (n : Nat) (x0 : List Int) (x1 : Int) (x2 : Bool) : runM (cx50 F64 F65 F49 F66 n) (fnOf 50) (body 50) M50a M50o ((x0, x1, x2, ()), ()) = t50 F64 F65 F49 F66 x0 x1 x2 := by kernel_rfl
def raw50 (F64 : (((List Int) × (Int × (Bool × Unit))) × Unit) → Bool × ((Bool × Unit) × (((List Int) × (Int × (Bool × Unit))) × Unit))) (F65 : (((List Int) × (Int × (Bool × Unit))) × (Int × Unit)) → Bool × (Unit × (((List Int) × (Int × (Bool × Unit))) × (Unit × Unit)))) (F49 : (((List Int) × (Int × (Bool × Unit))) × Unit) → Bool × ((Int × Unit) × (((List Int) × (Int × (Bool × Unit))) × Unit))) (F66 : (((List Int) × (Int × (Bool × Unit))) × (Int × Unit)) → Bool × (((List Int) × Unit) × (((List Int) × (Int × (Bool × Unit))) × (Unit × Unit)))) (x : (((List Int) × (Int × (Bool × Unit))) × Unit)) : Option (((List Int) × Unit) × (((List Int) × (Int × (Bool × Unit))) × Unit)) := t50 F64 F65 F49 F66 x.1.1 x.1.2.1 x.1.2.2.1
theorem ok50 (F64 : (((List Int) × (Int × (Bool × Unit))) × Unit) → Bool × ((Bool × Unit) × (((List Int) × (Int × (Bool × Unit))) × Unit))) (F65 : (((List Int) × (Int × (Bool × Unit))) × (Int × Unit)) → Bool × (Unit × (((List Int) × (Int × (Bool × Unit))) × (Unit × Unit)))) (F49 : (((List Int) × (Int × (Bool × Unit))) × Unit) → Bool × ((Int × Unit) × (((List Int) × (Int × (Bool × Unit))) × Unit))) (F66 : (((List Int) × (Int × (Bool × Unit))) × (Int × Unit)) → Bool × (((List Int) × Unit) × (((List Int) × (Int × (Bool × Unit))) × (Unit × Unit)))) (h64 : FnOK Try.prog noG 64 (fnM M64a M64o F64)) (h65 : FnOK Try.prog noG 65 (fnM M65a M65o F65)) (h49 : FnOK Try.prog noG 49 (fnM M49a M49o F49)) (h66 : FnOK Try.prog noG 66 (fnM M66a M66o F66)) : FnOK Try.prog noG 50 (fnM M50a M50o (toM (ma := M50a) (mo := M50o) (raw50 F64 F65 F49 F66))) :=
  fnM_sound (cx50 F64 F65 F49 F66 0) (SpecOK.addV (SpecOK.addV (SpecOK.addV (SpecOK.addV SpecOK.none h64) h65) h49) h66) mixed noG_ok (by kernel_rfl) (by kernel_rfl) (by kernel_rfl) (by kernel_rfl) (by kernel_rfl) (by kernel_rfl) (by kernel_rfl) (toM_run fun x => ⟨0, by have h := eq50 F64 F65 F49 F66 0 x.1.1 x.1.2.1 x.1.2.2.1; exact h⟩)

noncomputable def G50 : (((List Int) × (Int × (Bool × Unit))) × Unit) → Bool × (((List Int) × Unit) × (((List Int) × (Int × (Bool × Unit))) × Unit)) := toM (ma := M50a) (mo := M50o) (raw50 G64 G65 G49 G66)
theorem fok50 : FnOK Try.prog noG 50 (fnM M50a M50o G50) := ok50 G64 G65 G49 G66 fok64 fok65 fok49 fok66
theorem G50_of {x0 : List Int} {x1 : Int} {x2 : Bool} {y : (((List Int) × Unit) × (((List Int) × (Int × (Bool × Unit))) × Unit))} (h : t50 G64 G65 G49 G66 x0 x1 x2 = some y) : G50 ((x0, x1, x2, ()), ()) = (true, y) := toM_some (ma := M50a) (mo := M50o) h

/-- (*octet.Reader).Err -/
@[reducible] def M67a : Md := (.cons (.bx (.cons (.ow (.int .u8)) (.cons (.ro (.int .i64)) (.cons (.ro .bool) .nil)))) .nil)
@[reducible] def M67o : Md := (.cons (.ro (.int .i64)) .nil)
noncomputable def cx67 (n : Nat) : Cx := { S := noS, P := Try.prog, gl := noG, hint := [], pin := [0], nin := 2, fuel := n }
def t67 (x0 : List Int) (x1 : Int) (x2 : Bool) : Option ((Int × Unit) × (((List Int) × (Int × (Bool × Unit))) × Unit)) :=
 (bif (!x2) then
 (some (((1 : Int), ()), ((x0, x1, x2, ()), ())))
 else
 (some ((x1, ()), ((x0, x1, x2, ()), ()))))
theorem eq67 (n : Nat) (x0 : List Int) (x1 : Int) (x2 : Bool) : runM (cx67 n) (fnOf 67) (body 67) M67a M67o ((x0, x1, x2, ()), ()) = t67 x0 x1 x2 := by kernel_rfl
def raw67 (x : (((List Int) × (Int × (Bool × Unit))) × Unit)) : Option ((Int × Unit) × (((List Int) × (Int × (Bool × Unit))) × Unit)) := t67 x.1.1 x.1.2.1 x.1.2.2.1
theorem ok67 : FnOK Try.prog noG 67 (fnM M67a M67o (toM (ma := M67a) (mo := M67o) (raw67))) :=
  fnM_sound (cx67 0) SpecOK.none mixed noG_ok (by kernel_rfl) (by kernel_rfl) (by kernel_rfl) (by kernel_rfl) (by kernel_rfl) (by kernel_rfl) (by kernel_rfl) (toM_run fun x => ⟨0, by have h := eq67 0 x.1.1 x.1.2.1 x.1.2.2.1; exact h⟩)

noncomputable def G67 : (((List Int) × (Int × (Bool × Unit))) × Unit) → Bool × ((Int × Unit) × (((List Int) × (Int × (Bool × Unit))) × Unit)) := toM (ma := M67a) (mo := M67o) (raw67)
theorem fok67 : FnOK Try.prog noG 67 (fnM M67a M67o G67) := ok67
theorem G67_of {x0 : List Int} {x1 : Int} {x2 : Bool} {y : ((Int × Unit) × (((List Int) × (Int × (Bool × Unit))) × Unit))} (h : t67 x0 x1 x2 = some y) : G67 ((x0, x1, x2, ()), ()) = (true, y) := toM_some (ma := M67a) (mo := M67o) h

/-- (*octet.Reader).End -/
@[reducible] def M51a : Md := (.cons (.bx (.cons (.ow (.int .u8)) (.cons (.ro (.int .i64)) (.cons (.ro .bool) .nil)))) .nil)
@[reducible] def M51o : Md := (.cons (.ro (.int .i64)) .nil)
noncomputable def cx51 (F65 : (((List Int) × (Int × (Bool × Unit))) × (Int × Unit)) → Bool × (Unit × (((List Int) × (Int × (Bool × Unit))) × (Unit × Unit)))) (F67 : (((List Int) × (Int × (Bool × Unit))) × Unit) → Bool × ((Int × Unit) × (((List Int) × (Int × (Bool × Unit))) × Unit))) (n : Nat) : Cx := { S := (addV (addV noS 65 (fnM M65a M65o F65)) 67 (fnM M67a M67o F67)), P := Try.prog, gl := noG, hint := [], pin := [0], nin := 2, fuel := n }
def t51 (F65 : (((List Int) × (Int × (Bool × Unit))) × (Int × Unit)) → Bool × (Unit × (((List Int) × (Int × (Bool × Unit))) × (Unit × Unit)))) (F67 : (((List Int) × (Int × (Bool × Unit))) × Unit) → Bool × ((Int × Unit) × (((List Int) × (Int × (Bool × Unit))) × Unit))) (x0 : List Int) (x1 : Int) (x2 : Bool) : Option ((Int × Unit) × (((List Int) × (Int × (Bool × Unit))) × Unit)) :=
 (cl (F67 ((x0, x1, x2, ()), ())) fun r133 =>
 (bif (r133.1.1 != (0 : Int)) then
 (some ((r133.1.1, ()), ((r133.2.1.1, r133.2.1.2.1, r133.2.1.2.2.1, ()), ())))
 else
 (jn (fun (y695_0 : List Int) (y695_1 : Int) (y695_2 : Bool) =>
 (some ((y695_1, ()), ((y695_0, y695_1, y695_2, ()), ())))) fun (j695 : List Int → Int → Bool → Option ((Int × Unit) × (((List Int) × (Int × (Bool × Unit))) × Unit))) =>
 (bif (decide ((r133.2.1.1.length : Int) > (0 : Int))) then
 (cl (F65 ((r133.2.1.1, r133.2.1.2.1, r133.2.1.2.2.1, ()), (4 : Int), ())) fun r134 =>
 (j695 r134.2.1.1 r134.2.1.2.1 r134.2.1.2.2.1))
 else
 (j695 r133.2.1.1 r133.2.1.2.1 r133.2.1.2.2.1)))))
theorem eq51 (F65 : (((List Int) × (Int × (Bool × Unit))) × (Int × Unit)) → Bool × (Unit × (((List Int) × (Int × (Bool × Unit))) × (Unit × Unit)))) (F67 : (((List Int) × (Int × (Bool × Unit))) × Unit) → Bool × ((Int × Unit) × (((List Int) × (Int × (Bool × Unit))) × Unit))) (n : Nat) (x0 : List Int) (x1 : Int) (x2 : Bool) : runM (cx51 F65 F67 n) (fnOf 51) (body 51) M51a M51o ((x0, x1, x2, ()), ()) = t51 F65 F67 x0 x1 x2 := by kernel_rfl
def raw51 (F65 : (((List Int) × (Int × (Bool × Unit))) × (Int × Unit)) → Bool × (Unit × (((List Int) × (Int × (Bool × Unit))) × (Unit × Unit)))) (F67 : (((List Int) × (Int × (Bool × Unit))) × Unit) → Bool × ((Int × Unit) × (((List Int) × (Int × (Bool × Unit))) × Unit))) (x : (((List Int) × (Int × (Bool × Unit))) × Unit)) : Option ((Int × Unit) × (((List Int) × (Int × (Bool × Unit))) × Unit)) := t51 F65 F67 x.1.1 x.1.2.1 x.1.2.2.1
theorem ok51 (F65 : (((List Int) × (Int × (Bool × Unit))) × (Int × Unit)) → Bool × (Unit × (((List Int) × (Int × (Bool × Unit))) × (Unit × Unit)))) (F67 : (((List Int) × (Int × (Bool × Unit))) × Unit) → Bool × ((Int × Unit) × (((List Int) × (Int × (Bool × Unit))) × Unit))) (h65 : FnOK Try.prog noG 65 (fnM M65a M65o F65)) (h67 : FnOK Try.prog noG 67 (fnM M67a M67o F67)) : FnOK Try.prog noG 51 (fnM M51a M51o (toM (ma := M51a) (mo := M51o) (raw51 F65 F67))) :=
  fnM_sound (cx51 F65 F67 0) (SpecOK.addV (SpecOK.addV SpecOK.none h65) h67) mixed noG_ok (by kernel_rfl) (by kernel_rfl) (by kernel_rfl) (by kernel_rfl) (by kernel_rfl) (by kernel_rfl) (by kernel_rfl) (toM_run fun x => ⟨0, by have h := eq51 F65 F67 0 x.1.1 x.1.2.1 x.1.2.2.1; exact h⟩)

noncomputable def G51 : (((List Int) × (Int × (Bool × Unit))) × Unit) → Bool × ((Int × Unit) × (((List Int) × (Int × (Bool × Unit))) × Unit)) := toM (ma := M51a) (mo := M51o) (raw51 G65 G67)
theorem fok51 : FnOK Try.prog noG 51 (fnM M51a M51o G51) := ok51 G65 G67 fok65 fok67
theorem G51_of {x0 : List Int} {x1 : Int} {x2 : Bool} {y : ((Int × Unit) × (((List Int) × (Int × (Bool × Unit))) × Unit))} (h : t51 G65 G67 x0 x1 x2 = some y) : G51 ((x0, x1, x2, ()), ()) = (true, y) := toM_some (ma := M51a) (mo := M51o) h
theorem end51 (b : List Int) (e : Int) : G51 ((b, e, true, ()), ()) = (true, ((if e = 0 ∧ b ≠ [] then 4 else e, ()), ((b, if e = 0 ∧ b ≠ [] then 4 else e, true, ()), ()))) := by
  have he : G67 ((b, e, true, ()), ()) = (true, ((e, ()), ((b, e, true, ()), ()))) := G67_of rfl
  have hf : ∀ e', G65 ((b, e, true, ()), e', ()) = (true, ((), ((b, e', true, ()), (), ()))) := fun e' => G65_of rfl
  refine G51_of ?_
  unfold t51
  rw [he, cl_true]
  by_cases h0 : e = 0
  · subst h0
    cases b with
    | nil => simp [jn]
    | cons a t => simp [jn, hf, cl_true, Bool.cond_eq_ite, show ((0 : Int) < (t.length : Int) + 1) by omega]
  · simp [h0, jn, Bool.cond_eq_ite]


/-- link.ReadPiece -/
@[reducible] def M26a : Md := (.cons (.ro (.sl (.int .u8))) .nil)
@[reducible] def M26o : Md := (.cons (.ro (.cons (.int .u64) (.cons (.int .u64) (.cons (.int .u64) (.cons (.int .u64) (.cons (.sl (.int .u8)) .nil)))))) (.cons (.ro (.int .i64)) .nil))
noncomputable def cx26 (F27 : ((Int × (Int × (Int × (Int × ((List Int) × Unit))))) × Unit) → Bool × ((Int × Unit) × (Unit × Unit))) (F48 : ((List Int) × Unit) → Bool × ((((List Int) × (Int × (Bool × Unit))) × Unit) × (Unit × Unit))) (F49 : (((List Int) × (Int × (Bool × Unit))) × Unit) → Bool × ((Int × Unit) × (((List Int) × (Int × (Bool × Unit))) × Unit))) (F50 : (((List Int) × (Int × (Bool × Unit))) × Unit) → Bool × (((List Int) × Unit) × (((List Int) × (Int × (Bool × Unit))) × Unit))) (F51 : (((List Int) × (Int × (Bool × Unit))) × Unit) → Bool × ((Int × Unit) × (((List Int) × (Int × (Bool × Unit))) × Unit))) (n : Nat) : Cx := { S := (addV (addV (addV (addV (addV noS 27 (fnM M27a M27o F27)) 48 (fnM M48a M48o F48)) 49 (fnM M49a M49o F49)) 50 (fnM M50a M50o F50)) 51 (fnM M51a M51o F51)), P := Try.prog, gl := noG, hint := [(122, [2, 4, 5, 14, 15, 16])], pin := [], nin := 0, fuel := (n + 5) }
def t26 (F27 : ((Int × (Int × (Int × (Int × ((List Int) × Unit))))) × Unit) → Bool × ((Int × Unit) × (Unit × Unit))) (F48 : ((List Int) × Unit) → Bool × ((((List Int) × (Int × (Bool × Unit))) × Unit) × (Unit × Unit))) (F49 : (((List Int) × (Int × (Bool × Unit))) × Unit) → Bool × ((Int × Unit) × (((List Int) × (Int × (Bool × Unit))) × Unit))) (F50 : (((List Int) × (Int × (Bool × Unit))) × Unit) → Bool × (((List Int) × Unit) × (((List Int) × (Int × (Bool × Unit))) × Unit))) (F51 : (((List Int) × (Int × (Bool × Unit))) × Unit) → Bool × ((Int × Unit) × (((List Int) × (Int × (Bool × Unit))) × Unit))) (x0 : (List Int)) : Option (((Int × (Int × (Int × (Int × ((List Int) × Unit))))) × (Int × Unit)) × (Unit × Unit)) :=
 (cl (F48 (x0, ())) fun r137 =>
 (cl (F49 ((r137.1.1.1, r137.1.1.2.1, r137.1.1.2.2.1, ()), ())) fun r138 =>
 (cl (F49 ((r138.2.1.1, r138.2.1.2.1, r138.2.1.2.2.1, ()), ())) fun r139 =>
 (cl (F49 ((r139.2.1.1, r139.2.1.2.1, r139.2.1.2.2.1, ()), ())) fun r140 =>
 (cl (F49 ((r140.2.1.1, r140.2.1.2.1, r140.2.1.2.2.1, ()), ())) fun r141 =>
 (cl (F50 ((r141.2.1.1, r141.2.1.2.1, r141.2.1.2.2.1, ()), ())) fun r142 =>
 (jn (fun (y725_0 : Bool) =>
 (bif y725_0 then
 (some ((((0 : Int), (0 : Int), (0 : Int), (0 : Int), [], ()), (4 : Int), ()), ((), ())))
 else
 (some (((r138.1.1, r139.1.1, r140.1.1, r141.1.1, r142.1.1, ()), (0 : Int), ()), ((), ()))))) fun (j725 : Bool → Option (((Int × (Int × (Int × (Int × ((List Int) × Unit))))) × (Int × Unit)) × (Unit × Unit))) =>
 (cl (F51 ((r142.2.1.1, r142.2.1.2.1, r142.2.1.2.2.1, ()), ())) fun r143 =>
 (bif (r143.1.1 != (0 : Int)) then
 (j725 true)
 else
 (cl (F27 ((r138.1.1, r139.1.1, r140.1.1, r141.1.1, r142.1.1, ()), ())) fun r144 =>
 (j725 (r144.1.1 != (0 : Int)))))))))))))
theorem eq26 (F27 : ((Int × (Int × (Int × (Int × ((List Int) × Unit))))) × Unit) → Bool × ((Int × Unit) × (Unit × Unit))) (F48 : ((List Int) × Unit) → Bool × ((((List Int) × (Int × (Bool × Unit))) × Unit) × (Unit × Unit))) (F49 : (((List Int) × (Int × (Bool × Unit))) × Unit) → Bool × ((Int × Unit) × (((List Int) × (Int × (Bool × Unit))) × Unit))) (F50 : (((List Int) × (Int × (Bool × Unit))) × Unit) → Bool × (((List Int) × Unit) × (((List Int) × (Int × (Bool × Unit))) × Unit))) (F51 : (((List Int) × (Int × (Bool × Unit))) × Unit) → Bool × ((Int × Unit) × (((List Int) × (Int × (Bool × Unit))) × Unit))) (n : Nat) (x0 : (List Int)) : runM (cx26 F27 F48 F49 F50 F51 n) (fnOf 26) (body 26) M26a M26o (x0, ()) = t26 F27 F48 F49 F50 F51 x0 := by kernel_rfl
def raw26 (F27 : ((Int × (Int × (Int × (Int × ((List Int) × Unit))))) × Unit) → Bool × ((Int × Unit) × (Unit × Unit))) (F48 : ((List Int) × Unit) → Bool × ((((List Int) × (Int × (Bool × Unit))) × Unit) × (Unit × Unit))) (F49 : (((List Int) × (Int × (Bool × Unit))) × Unit) → Bool × ((Int × Unit) × (((List Int) × (Int × (Bool × Unit))) × Unit))) (F50 : (((List Int) × (Int × (Bool × Unit))) × Unit) → Bool × (((List Int) × Unit) × (((List Int) × (Int × (Bool × Unit))) × Unit))) (F51 : (((List Int) × (Int × (Bool × Unit))) × Unit) → Bool × ((Int × Unit) × (((List Int) × (Int × (Bool × Unit))) × Unit))) (x : ((List Int) × Unit)) : Option (((Int × (Int × (Int × (Int × ((List Int) × Unit))))) × (Int × Unit)) × (Unit × Unit)) := t26 F27 F48 F49 F50 F51 x.1
theorem ok26 (F27 : ((Int × (Int × (Int × (Int × ((List Int) × Unit))))) × Unit) → Bool × ((Int × Unit) × (Unit × Unit))) (F48 : ((List Int) × Unit) → Bool × ((((List Int) × (Int × (Bool × Unit))) × Unit) × (Unit × Unit))) (F49 : (((List Int) × (Int × (Bool × Unit))) × Unit) → Bool × ((Int × Unit) × (((List Int) × (Int × (Bool × Unit))) × Unit))) (F50 : (((List Int) × (Int × (Bool × Unit))) × Unit) → Bool × (((List Int) × Unit) × (((List Int) × (Int × (Bool × Unit))) × Unit))) (F51 : (((List Int) × (Int × (Bool × Unit))) × Unit) → Bool × ((Int × Unit) × (((List Int) × (Int × (Bool × Unit))) × Unit))) (h27 : FnOK Try.prog noG 27 (fnM M27a M27o F27)) (h48 : FnOK Try.prog noG 48 (fnM M48a M48o F48)) (h49 : FnOK Try.prog noG 49 (fnM M49a M49o F49)) (h50 : FnOK Try.prog noG 50 (fnM M50a M50o F50)) (h51 : FnOK Try.prog noG 51 (fnM M51a M51o F51)) : FnOK Try.prog noG 26 (fnM M26a M26o (toM (ma := M26a) (mo := M26o) (raw26 F27 F48 F49 F50 F51))) :=
  fnM_sound (cx26 F27 F48 F49 F50 F51 0) (SpecOK.addV (SpecOK.addV (SpecOK.addV (SpecOK.addV (SpecOK.addV SpecOK.none h27) h48) h49) h50) h51) mixed noG_ok (by kernel_rfl) (by kernel_rfl) (by kernel_rfl) (by kernel_rfl) (by kernel_rfl) (by kernel_rfl) (by kernel_rfl) (toM_run fun x => ⟨5, by have h := eq26 F27 F48 F49 F50 F51 0 x.1; exact h⟩)

noncomputable def G26 : ((List Int) × Unit) → Bool × (((Int × (Int × (Int × (Int × ((List Int) × Unit))))) × (Int × Unit)) × (Unit × Unit)) := toM (ma := M26a) (mo := M26o) (raw26 G27 G48 G49 G50 G51)
theorem fok26 : FnOK Try.prog noG 26 (fnM M26a M26o G26) := ok26 G27 G48 G49 G50 G51 fok27 fok48 fok49 fok50 fok51
theorem G26_of {x0 : (List Int)} {y : (((Int × (Int × (Int × (Int × ((List Int) × Unit))))) × (Int × Unit)) × (Unit × Unit))} (h : t26 G27 G48 G49 G50 G51 x0 = some y) : G26 (x0, ()) = (true, y) := toM_some (ma := M26a) (mo := M26o) h

/-- drawbridgekit.Piece -/
@[reducible] def M30a : Md := (.cons (.ro (.cons (.int .u64) (.cons (.int .u64) (.cons (.int .u64) (.cons (.int .u64) (.cons (.sl (.int .u8)) .nil)))))) (.cons (.ro (.cons (.int .u64) (.cons (.int .u64) (.cons (.int .u64) (.cons (.int .u64) (.cons (.sl (.int .u8)) .nil)))))) .nil))
@[reducible] def M30o : Md := (.cons (.ro .bool) .nil)
noncomputable def cx30 (F25 : ((List Int) × ((List Int) × Unit)) → Bool × ((Bool × Unit) × (Unit × (Unit × Unit)))) (n : Nat) : Cx := { S := (addV noS 25 (fnM M25a M25o F25)), P := Try.prog, gl := noG, hint := [], pin := [], nin := 0, fuel := n }
def t30 (F25 : ((List Int) × ((List Int) × Unit)) → Bool × ((Bool × Unit) × (Unit × (Unit × Unit)))) (x0 : Int) (x1 : Int) (x2 : Int) (x3 : Int) (x4 : (List Int)) (x5 : Int) (x6 : Int) (x7 : Int) (x8 : Int) (x9 : (List Int)) : Option ((Bool × Unit) × (Unit × (Unit × Unit))) :=
 (jn (fun (y733_0 : Bool) =>
 some ((y733_0, ()), ((), (), ()))) fun (j733 : Bool → Option ((Bool × Unit) × (Unit × (Unit × Unit)))) =>
 (bif (x0 == x5) then
 (bif (x1 == x6) then
 (bif (x2 == x7) then
 (bif (x3 == x8) then
 (cl (F25 (x4, x9, ())) fun r147 =>
 (j733 r147.1.1))
 else
 (j733 false))
 else
 (j733 false))
 else
 (j733 false))
 else
 (j733 false)))
theorem eq30 (F25 : ((List Int) × ((List Int) × Unit)) → Bool × ((Bool × Unit) × (Unit × (Unit × Unit)))) (n : Nat) (x0 : Int) (x1 : Int) (x2 : Int) (x3 : Int) (x4 : (List Int)) (x5 : Int) (x6 : Int) (x7 : Int) (x8 : Int) (x9 : (List Int)) : runM (cx30 F25 n) (fnOf 30) (body 30) M30a M30o ((x0, x1, x2, x3, x4, ()), (x5, x6, x7, x8, x9, ()), ()) = t30 F25 x0 x1 x2 x3 x4 x5 x6 x7 x8 x9 := by kernel_rfl
def raw30 (F25 : ((List Int) × ((List Int) × Unit)) → Bool × ((Bool × Unit) × (Unit × (Unit × Unit)))) (x : ((Int × (Int × (Int × (Int × ((List Int) × Unit))))) × ((Int × (Int × (Int × (Int × ((List Int) × Unit))))) × Unit))) : Option ((Bool × Unit) × (Unit × (Unit × Unit))) := t30 F25 x.1.1 x.1.2.1 x.1.2.2.1 x.1.2.2.2.1 x.1.2.2.2.2.1 x.2.1.1 x.2.1.2.1 x.2.1.2.2.1 x.2.1.2.2.2.1 x.2.1.2.2.2.2.1
theorem ok30 (F25 : ((List Int) × ((List Int) × Unit)) → Bool × ((Bool × Unit) × (Unit × (Unit × Unit)))) (h25 : FnOK Try.prog noG 25 (fnM M25a M25o F25)) : FnOK Try.prog noG 30 (fnM M30a M30o (toM (ma := M30a) (mo := M30o) (raw30 F25))) :=
  fnM_sound (cx30 F25 0) (SpecOK.addV SpecOK.none h25) mixed noG_ok (by kernel_rfl) (by kernel_rfl) (by kernel_rfl) (by kernel_rfl) (by kernel_rfl) (by kernel_rfl) (by kernel_rfl) (toM_run fun x => ⟨0, by have h := eq30 F25 0 x.1.1 x.1.2.1 x.1.2.2.1 x.1.2.2.2.1 x.1.2.2.2.2.1 x.2.1.1 x.2.1.2.1 x.2.1.2.2.1 x.2.1.2.2.2.1 x.2.1.2.2.2.2.1; exact h⟩)

noncomputable def G30 : ((Int × (Int × (Int × (Int × ((List Int) × Unit))))) × ((Int × (Int × (Int × (Int × ((List Int) × Unit))))) × Unit)) → Bool × ((Bool × Unit) × (Unit × (Unit × Unit))) := toM (ma := M30a) (mo := M30o) (raw30 G25)
theorem fok30 : FnOK Try.prog noG 30 (fnM M30a M30o G30) := ok30 G25 fok25
theorem G30_of {x0 : Int} {x1 : Int} {x2 : Int} {x3 : Int} {x4 : (List Int)} {x5 : Int} {x6 : Int} {x7 : Int} {x8 : Int} {x9 : (List Int)} {y : ((Bool × Unit) × (Unit × (Unit × Unit)))} (h : t30 G25 x0 x1 x2 x3 x4 x5 x6 x7 x8 x9 = some y) : G30 ((x0, x1, x2, x3, x4, ()), (x5, x6, x7, x8, x9, ()), ()) = (true, y) := toM_some (ma := M30a) (mo := M30o) h

/-- drawbridgelaw18.LinkPassed -/
@[reducible] def K7a : Kd := (.cons (.cons (.int .u64) (.cons (.int .u64) (.cons (.int .u64) (.cons (.int .u64) (.cons (.sl (.sl (.int .u8))) (.cons (.int .i64) (.cons (.int .i64) (.cons .bool .nil)))))))) (.cons (.cons (.int .u64) (.cons (.int .u64) (.cons (.int .u64) (.cons (.int .u64) (.cons (.sl (.int .u8)) .nil))))) .nil))
@[reducible] def K7o : Kd := .cons .bool .nil
noncomputable def cx7 (F19 : ((Int × (Int × (Int × (Int × ((List (List Int)) × (Int × (Int × (Bool × Unit)))))))) × Unit) → Bool × ((Int × Unit) × (Unit × Unit))) (F27 : ((Int × (Int × (Int × (Int × ((List Int) × Unit))))) × Unit) → Bool × ((Int × Unit) × (Unit × Unit))) (F31 : ((Int × (Int × (Int × (Int × ((List (List Int)) × (Int × (Int × (Bool × Unit)))))))) × ((Int × (Int × (Int × (Int × ((List Int) × Unit))))) × Unit)) → Bool × (((List Int) × (Bool × ((Int × (Int × (Int × (Int × ((List (List Int)) × (Int × (Int × (Bool × Unit)))))))) × (Int × Unit)))) × (Unit × (Unit × Unit)))) (F9 : Unit → Bool × ((Bool × Unit) × Unit)) (F20 : ((Int × (Int × (Int × (Int × ((List (List Int)) × (Int × (Int × (Bool × Unit)))))))) × (Int × (Int × Unit))) → Bool × ((Bool × Unit) × (Unit × (Unit × (Unit × Unit))))) (F23 : ((List (List Int)) × ((List (List Int)) × Unit)) → Bool × ((Bool × Unit) × (Unit × (Unit × Unit)))) (F22 : ((Int × (Int × (Int × (Int × ((List (List Int)) × (Int × (Int × (Bool × Unit)))))))) × ((Int × (Int × (Int × (Int × ((List (List Int)) × (Int × (Int × (Bool × Unit)))))))) × Unit)) → Bool × ((Bool × Unit) × (Unit × (Unit × Unit)))) (F29 : ((Int × (Int × (Int × (Int × ((List Int) × Unit))))) × Unit) → Bool × (((List Int) × (Int × Unit)) × (Unit × Unit))) (F26 : ((List Int) × Unit) → Bool × (((Int × (Int × (Int × (Int × ((List Int) × Unit))))) × (Int × Unit)) × (Unit × Unit))) (F30 : ((Int × (Int × (Int × (Int × ((List Int) × Unit))))) × ((Int × (Int × (Int × (Int × ((List Int) × Unit))))) × Unit)) → Bool × ((Bool × Unit) × (Unit × (Unit × Unit)))) (n : Nat) : Cx := { S := (addV (addV (addV (addV (addV (addV (addV (addV (addV (addV noS 19 (fnM M19a M19o F19)) 27 (fnM M27a M27o F27)) 31 (fnM M31a M31o F31)) 9 (fnM M9a M9o F9)) 20 (fnM M20a M20o F20)) 23 (fnM M23a M23o F23)) 22 (fnM M22a M22o F22)) 29 (fnM M29a M29o F29)) 26 (fnM M26a M26o F26)) 30 (fnM M30a M30o F30)), P := Try.prog, gl := noG, hint := [], pin := [], nin := 0, fuel := n }
def t7 (F19 : ((Int × (Int × (Int × (Int × ((List (List Int)) × (Int × (Int × (Bool × Unit)))))))) × Unit) → Bool × ((Int × Unit) × (Unit × Unit))) (F27 : ((Int × (Int × (Int × (Int × ((List Int) × Unit))))) × Unit) → Bool × ((Int × Unit) × (Unit × Unit))) (F31 : ((Int × (Int × (Int × (Int × ((List (List Int)) × (Int × (Int × (Bool × Unit)))))))) × ((Int × (Int × (Int × (Int × ((List Int) × Unit))))) × Unit)) → Bool × (((List Int) × (Bool × ((Int × (Int × (Int × (Int × ((List (List Int)) × (Int × (Int × (Bool × Unit)))))))) × (Int × Unit)))) × (Unit × (Unit × Unit)))) (F9 : Unit → Bool × ((Bool × Unit) × Unit)) (F20 : ((Int × (Int × (Int × (Int × ((List (List Int)) × (Int × (Int × (Bool × Unit)))))))) × (Int × (Int × Unit))) → Bool × ((Bool × Unit) × (Unit × (Unit × (Unit × Unit))))) (F23 : ((List (List Int)) × ((List (List Int)) × Unit)) → Bool × ((Bool × Unit) × (Unit × (Unit × Unit)))) (F22 : ((Int × (Int × (Int × (Int × ((List (List Int)) × (Int × (Int × (Bool × Unit)))))))) × ((Int × (Int × (Int × (Int × ((List (List Int)) × (Int × (Int × (Bool × Unit)))))))) × Unit)) → Bool × ((Bool × Unit) × (Unit × (Unit × Unit)))) (F29 : ((Int × (Int × (Int × (Int × ((List Int) × Unit))))) × Unit) → Bool × (((List Int) × (Int × Unit)) × (Unit × Unit))) (F26 : ((List Int) × Unit) → Bool × (((Int × (Int × (Int × (Int × ((List Int) × Unit))))) × (Int × Unit)) × (Unit × Unit))) (F30 : ((Int × (Int × (Int × (Int × ((List Int) × Unit))))) × ((Int × (Int × (Int × (Int × ((List Int) × Unit))))) × Unit)) → Bool × ((Bool × Unit) × (Unit × (Unit × Unit)))) (x0 : Int) (x1 : Int) (x2 : Int) (x3 : Int) (x4 : (List (List Int))) (x5 : Int) (x6 : Int) (x7 : Bool) (x8 : Int) (x9 : Int) (x10 : Int) (x11 : Int) (x12 : (List Int)) : Option (Bool × Unit) :=
 (cl (F9 ()) fun r80 =>
 (bif (!r80.1.1) then
 (some (false, ()))
 else
 (jn (fun (y440_0 : Bool) =>
 (bif y440_0 then
 (some (true, ()))
 else
 (cl (F29 ((x8, x9, x10, x11, x12, ()), ())) fun r100 =>
 (cl (F26 (r100.1.1, ())) fun r145 =>
 (jn (fun (y729_0 : Bool) =>
 (bif y729_0 then
 (some (false, ()))
 else
 (cl (F31 ((x0, x1, x2, x3, x4, x5, x6, x7, ()), (x8, x9, x10, x11, x12, ()), ())) fun r149 =>
 (jn (fun (y737_0 : Bool) =>
 (bif y737_0 then
 (some (false, ()))
 else
 (jn (fun (y740_0 : Bool) =>
 (bif y740_0 then
 (some (true, ()))
 else
 (jn (fun (y743_0 : Bool) =>
 (bif y743_0 then
 (some (false, ()))
 else
 (bif (decide (x8 > x1)) then
 (some (true, ()))
 else
 (cl (F22 ((r149.1.2.2.1.1, r149.1.2.2.1.2.1, r149.1.2.2.1.2.2.1, r149.1.2.2.1.2.2.2.1, r149.1.2.2.1.2.2.2.2.1, r149.1.2.2.1.2.2.2.2.2.1, r149.1.2.2.1.2.2.2.2.2.2.1, x7, ()), (x0, x1, x2, x3, x4, x5, x6, x7, ()), ())) fun r152 =>
 (some (r152.1.1, ())))))) fun (j743 : Bool → Option (Bool × Unit)) =>
 (bif r149.1.2.1 then
 (j743 true)
 else
 (bif ((r149.1.1.length : Int) != (0 : Int)) then
 (j743 true)
 else
 (cl (F23 (r149.1.2.2.1.2.2.2.2.1, x4, ())) fun r151 =>
 (j743 (!r151.1.1)))))))) fun (j740 : Bool → Option (Bool × Unit)) =>
 (bif (decide (x8 ≥ x1)) then
 (j740 (x9 == x0))
 else
 (j740 false))))) fun (j737 : Bool → Option (Bool × Unit)) =>
 (bif (r149.1.2.2.2.1 != (0 : Int)) then
 (j737 true)
 else
 (bif (r149.1.2.2.1.1 != x0) then
 (j737 true)
 else
 (bif (decide (x8 < x1)) then
 (cl (F22 ((r149.1.2.2.1.1, r149.1.2.2.1.2.1, r149.1.2.2.1.2.2.1, r149.1.2.2.1.2.2.2.1, r149.1.2.2.1.2.2.2.2.1, r149.1.2.2.1.2.2.2.2.2.1, r149.1.2.2.1.2.2.2.2.2.2.1, r149.1.2.2.1.2.2.2.2.2.2.2.1, ()), (x0, x1, x2, x3, x4, x5, x6, x7, ()), ())) fun r150 =>
 (j737 (!r150.1.1)))
 else
 (j737 false)))))))) fun (j729 : Bool → Option (Bool × Unit)) =>
 (bif (r100.1.2.1 != (0 : Int)) then
 (j729 true)
 else
 (bif (r145.1.2.1 != (0 : Int)) then
 (j729 true)
 else
 (cl (F30 ((x8, x9, x10, x11, x12, ()), (r145.1.1.1, r145.1.1.2.1, r145.1.1.2.2.1, r145.1.1.2.2.2.1, r145.1.1.2.2.2.2.1, ()), ())) fun r148 =>
 (j729 (!r148.1.1)))))))))) fun (j440 : Bool → Option (Bool × Unit)) =>
 (cl (F19 ((x0, x1, x2, x3, x4, x5, x6, x7, ()), ())) fun r81 =>
 (bif (r81.1.1 != (0 : Int)) then
 (j440 true)
 else
 (cl (F20 ((x0, x1, x2, x3, x4, x5, x6, x7, ()), (64 : Int), (300 : Int), ())) fun r82 =>
 (bif (!r82.1.1) then
 (j440 true)
 else
 (cl (F27 ((x8, x9, x10, x11, x12, ()), ())) fun r83 =>
 (bif (r83.1.1 != (0 : Int)) then
 (j440 true)
 else
 (j440 (decide ((x12.length : Int) > (3000 : Int)))))))))))))
theorem eq7 (F19 : ((Int × (Int × (Int × (Int × ((List (List Int)) × (Int × (Int × (Bool × Unit)))))))) × Unit) → Bool × ((Int × Unit) × (Unit × Unit))) (F27 : ((Int × (Int × (Int × (Int × ((List Int) × Unit))))) × Unit) → Bool × ((Int × Unit) × (Unit × Unit))) (F31 : ((Int × (Int × (Int × (Int × ((List (List Int)) × (Int × (Int × (Bool × Unit)))))))) × ((Int × (Int × (Int × (Int × ((List Int) × Unit))))) × Unit)) → Bool × (((List Int) × (Bool × ((Int × (Int × (Int × (Int × ((List (List Int)) × (Int × (Int × (Bool × Unit)))))))) × (Int × Unit)))) × (Unit × (Unit × Unit)))) (F9 : Unit → Bool × ((Bool × Unit) × Unit)) (F20 : ((Int × (Int × (Int × (Int × ((List (List Int)) × (Int × (Int × (Bool × Unit)))))))) × (Int × (Int × Unit))) → Bool × ((Bool × Unit) × (Unit × (Unit × (Unit × Unit))))) (F23 : ((List (List Int)) × ((List (List Int)) × Unit)) → Bool × ((Bool × Unit) × (Unit × (Unit × Unit)))) (F22 : ((Int × (Int × (Int × (Int × ((List (List Int)) × (Int × (Int × (Bool × Unit)))))))) × ((Int × (Int × (Int × (Int × ((List (List Int)) × (Int × (Int × (Bool × Unit)))))))) × Unit)) → Bool × ((Bool × Unit) × (Unit × (Unit × Unit)))) (F29 : ((Int × (Int × (Int × (Int × ((List Int) × Unit))))) × Unit) → Bool × (((List Int) × (Int × Unit)) × (Unit × Unit))) (F26 : ((List Int) × Unit) → Bool × (((Int × (Int × (Int × (Int × ((List Int) × Unit))))) × (Int × Unit)) × (Unit × Unit))) (F30 : ((Int × (Int × (Int × (Int × ((List Int) × Unit))))) × ((Int × (Int × (Int × (Int × ((List Int) × Unit))))) × Unit)) → Bool × ((Bool × Unit) × (Unit × (Unit × Unit)))) (n : Nat) (x0 : Int) (x1 : Int) (x2 : Int) (x3 : Int) (x4 : (List (List Int))) (x5 : Int) (x6 : Int) (x7 : Bool) (x8 : Int) (x9 : Int) (x10 : Int) (x11 : Int) (x12 : (List Int)) : runD (cx7 F19 F27 F31 F9 F20 F23 F22 F29 F26 F30 n) (fnOf 7) (body 7) K7a K7o ((x0, x1, x2, x3, x4, x5, x6, x7, ()), (x8, x9, x10, x11, x12, ()), ()) = t7 F19 F27 F31 F9 F20 F23 F22 F29 F26 F30 x0 x1 x2 x3 x4 x5 x6 x7 x8 x9 x10 x11 x12 := by kernel_rfl

theorem called7 {w : World} {vs : List Value} {x : K7a.T} (hrun : ∀ x, K7a.ok x → ∃ n, runD (cx7 G19 G27 G31 G9 G20 G23 G22 G29 G26 G30 n) (fnOf 7) (body 7) K7a K7o x = some (true, ())) (h : KVs (fun b => b < w.heap.size) w K7a x vs) : Calls Try.prog 7 vs.toArray w fun e w' => e = .returned (.bool true) ∧ Go.RowKit.Below w.heap.size w w' :=
  law_ok (fun n => cx7 G19 G27 G31 G9 G20 G23 G22 G29 G26 G30 n) (fun _ => (SpecOK.addV (SpecOK.addV (SpecOK.addV (SpecOK.addV (SpecOK.addV (SpecOK.addV (SpecOK.addV (SpecOK.addV (SpecOK.addV (SpecOK.addV SpecOK.none fok19) fok27) fok31) fok9) fok20) fok23) fok22) fok29) fok26) fok30)) (fun _ => mixed) (fun _ => noG_ok) (fun _ => rfl) (by kernel_rfl) (by kernel_rfl) (by kernel_rfl) (by kernel_rfl) hrun (fun _ _ _ h => by cases h) h

end Go.Proofs.Ytkmeimhapokdlaa.Ae
