/- Functions of the program: the next part. Printed by gen2.py. -/
import Derived.Test.YtkmeimhapokdlaaFnsB
set_option linter.unusedVariables false
set_option maxRecDepth 100000
namespace Go.Proofs.Ytkmeimhapokdlaa.Ae
open Go

/-- drawbridgeref18.Check -/
@[reducible] def M33a : Md := (.cons (.ro (.cons (.int .u64) (.cons (.int .u64) (.cons (.int .u64) (.cons (.int .u64) (.cons (.sl (.sl (.int .u8))) (.cons (.int .i64) (.cons (.int .i64) (.cons .bool .nil))))))))) .nil)
@[reducible] def M33o : Md := (.cons (.ro (.int .i64)) .nil)
noncomputable def cx33 (n : Nat) : Cx := { S := noS, P := Try.prog, gl := noG, hint := [(58, [1, 3])], pin := [], nin := 0, fuel := n }
noncomputable def l33_58_0' (n k : Nat) (v0 : Int) (v1 : Int) (v2 : Int) (v3 : Int) (v4 : Int) (v5 : List (List Int)) (v6 : Int) (v7 : Int) (v8 : Bool) : Option ((Int × Unit) × (Unit × Unit)) :=
  loopAt (cx33 n) (body 33) (bits 58) [] k { tm := [(1, .ptr 0 0 []), (3, .int .i64 v0)], hp := [(0, some (.box (.cons (.int .u64 v1) (.cons (.int .u64 v2) (.cons (.int .u64 v3) (.cons (.int .u64 v4) (.cons (.rs (.sl (.int .u8)) v5 false false) (.cons (.int .i64 v6) (.cons (.int .i64 v7) (.cons (.bool v8) (.nil)))))))))))], nx := 1 } (finM Try.prog (fnOf 33) M33a M33o)
noncomputable def l33_58_0 : Nat → Nat → Int → Int → Int → Int → Int → List (List Int) → Int → Int → Bool → Option ((Int × Unit) × (Unit × Unit)) := (sealed l33_58_0').1
theorem l33_58_0_e : l33_58_0' = l33_58_0 := (sealed l33_58_0').2.symm
theorem l33_58_0_s' (n k : Nat) (v0 : Int) (v1 : Int) (v2 : Int) (v3 : Int) (v4 : Int) (v5 : List (List Int)) (v6 : Int) (v7 : Int) (v8 : Bool) : l33_58_0' n (k + 1) v0 v1 v2 v3 v4 v5 v6 v7 v8 =
 (bif (decide (v0 < (v5.length : Int))) then
 (ck (rng v0 v5.length)
 (bif (decide (((v5.getD v0.toNat []).length : Int) > (1048576 : Int))) then
 (some (((3 : Int), ()), ((), ())))
 else
 (l33_58_0' n k (IntKind.i64.wrap (v0 + (1 : Int))) v1 v2 v3 v4 v5 v6 v7 v8)))
 else
 (jn (fun (y784_0 : Bool) =>
 (bif y784_0 then
 (some (((2 : Int), ()), ((), ())))
 else
 (some (((0 : Int), ()), ((), ()))))) fun (j784 : Bool → Option ((Int × Unit) × (Unit × Unit))) =>
 (bif (decide (v1 < (1 : Int))) then
 (j784 true)
 else
 (bif (decide (v1 > (9223372036854775808 : Int))) then
 (j784 true)
 else
 (bif (decide (v3 < (1 : Int))) then
 (j784 true)
 else
 (bif (decide (v3 > (9223372036854775808 : Int))) then
 (j784 true)
 else
 (bif (decide ((IntKind.u64.wrap (v3 - (1 : Int))) < (IntKind.u64.wrap (v5.length : Int)))) then
 (j784 true)
 else
 (bif (decide (v7 < (1 : Int))) then
 (j784 true)
 else
 (bif (decide (v7 > (1024 : Int))) then
 (j784 true)
 else
 (bif (decide (v6 < (0 : Int))) then
 (j784 true)
 else
 (bif (decide (v6 > v7)) then
 (j784 true)
 else
 (bif (v2 == (0 : Int)) then
 (j784 (v4 != (0 : Int)))
 else
 (j784 false))))))))))))) := by kernel_rfl
theorem l33_58_0_s (n k : Nat) (v0 : Int) (v1 : Int) (v2 : Int) (v3 : Int) (v4 : Int) (v5 : List (List Int)) (v6 : Int) (v7 : Int) (v8 : Bool) : l33_58_0 n (k + 1) v0 v1 v2 v3 v4 v5 v6 v7 v8 =
 (bif (decide (v0 < (v5.length : Int))) then
 (ck (rng v0 v5.length)
 (bif (decide (((v5.getD v0.toNat []).length : Int) > (1048576 : Int))) then
 (some (((3 : Int), ()), ((), ())))
 else
 (l33_58_0 n k (IntKind.i64.wrap (v0 + (1 : Int))) v1 v2 v3 v4 v5 v6 v7 v8)))
 else
 (jn (fun (y784_0 : Bool) =>
 (bif y784_0 then
 (some (((2 : Int), ()), ((), ())))
 else
 (some (((0 : Int), ()), ((), ()))))) fun (j784 : Bool → Option ((Int × Unit) × (Unit × Unit))) =>
 (bif (decide (v1 < (1 : Int))) then
 (j784 true)
 else
 (bif (decide (v1 > (9223372036854775808 : Int))) then
 (j784 true)
 else
 (bif (decide (v3 < (1 : Int))) then
 (j784 true)
 else
 (bif (decide (v3 > (9223372036854775808 : Int))) then
 (j784 true)
 else
 (bif (decide ((IntKind.u64.wrap (v3 - (1 : Int))) < (IntKind.u64.wrap (v5.length : Int)))) then
 (j784 true)
 else
 (bif (decide (v7 < (1 : Int))) then
 (j784 true)
 else
 (bif (decide (v7 > (1024 : Int))) then
 (j784 true)
 else
 (bif (decide (v6 < (0 : Int))) then
 (j784 true)
 else
 (bif (decide (v6 > v7)) then
 (j784 true)
 else
 (bif (v2 == (0 : Int)) then
 (j784 (v4 != (0 : Int)))
 else
 (j784 false))))))))))))) := by
  have h := l33_58_0_s' n k v0 v1 v2 v3 v4 v5 v6 v7 v8
  rw [l33_58_0_e] at h
  exact h
theorem l33_58_0_z' (n : Nat) (v0 : Int) (v1 : Int) (v2 : Int) (v3 : Int) (v4 : Int) (v5 : List (List Int)) (v6 : Int) (v7 : Int) (v8 : Bool) : l33_58_0' n 0 v0 v1 v2 v3 v4 v5 v6 v7 v8 =
 none := by kernel_rfl
theorem l33_58_0_z (n : Nat) (v0 : Int) (v1 : Int) (v2 : Int) (v3 : Int) (v4 : Int) (v5 : List (List Int)) (v6 : Int) (v7 : Int) (v8 : Bool) : l33_58_0 n 0 v0 v1 v2 v3 v4 v5 v6 v7 v8 =
 none := by
  have h := l33_58_0_z' n v0 v1 v2 v3 v4 v5 v6 v7 v8
  rw [l33_58_0_e] at h
  exact h
theorem eq33' (n : Nat) (x0 : Int) (x1 : Int) (x2 : Int) (x3 : Int) (x4 : (List (List Int))) (x5 : Int) (x6 : Int) (x7 : Bool) : runM (cx33 n) (fnOf 33) (body 33) M33a M33o ((x0, x1, x2, x3, x4, x5, x6, x7, ()), ()) =
 (bif (decide ((x4.length : Int) > (64 : Int))) then
 (some (((3 : Int), ()), ((), ())))
 else
 (l33_58_0' n n (0 : Int) x0 x1 x2 x3 x4 x5 x6 x7)) := by kernel_rfl
theorem eq33 (n : Nat) (x0 : Int) (x1 : Int) (x2 : Int) (x3 : Int) (x4 : (List (List Int))) (x5 : Int) (x6 : Int) (x7 : Bool) : runM (cx33 n) (fnOf 33) (body 33) M33a M33o ((x0, x1, x2, x3, x4, x5, x6, x7, ()), ()) =
 (bif (decide ((x4.length : Int) > (64 : Int))) then
 (some (((3 : Int), ()), ((), ())))
 else
 (l33_58_0 n n (0 : Int) x0 x1 x2 x3 x4 x5 x6 x7)) := by
  have h := eq33' n x0 x1 x2 x3 x4 x5 x6 x7
  rw [l33_58_0_e] at h
  exact h
theorem ok33 (f : ((Int × (Int × (Int × (Int × ((List (List Int)) × (Int × (Int × (Bool × Unit)))))))) × Unit) → Bool × ((Int × Unit) × (Unit × Unit))) (hrun : ∀ x, (f x).1 = true → ∃ n, runM (cx33 n) (fnOf 33) (body 33) M33a M33o x = some (f x).2) : FnOK Try.prog noG 33 (fnM M33a M33o f) :=
  fnM_sound (cx33 0) SpecOK.none mixed noG_ok (by kernel_rfl) (by kernel_rfl) (by kernel_rfl) (by kernel_rfl) (by kernel_rfl) (by kernel_rfl) (by kernel_rfl) (fun x h => by obtain ⟨n, hn⟩ := hrun x h; exact ⟨n + 0, hn⟩)

/-- The document's Check. -/
def rchk (a b c d : Int) (q : List (List Int)) (w r : Int) : Int :=
  if 64 < q.length ∨ (q.any fun b => decide (1048576 < b.length)) = true then 3
  else if a < 1 ∨ 9223372036854775808 < a ∨ c < 1 ∨ 9223372036854775808 < c ∨ IntKind.u64.wrap (c - 1) < (q.length : Int) ∨ r < 1 ∨ 1024 < r ∨ w < 0 ∨ r < w ∨ (b = 0 ∧ d ≠ 0) then 2 else 0
def G33 (x : (Int × (Int × (Int × (Int × (List (List Int) × (Int × (Int × (Bool × Unit)))))))) × Unit) : Bool × ((Int × Unit) × (Unit × Unit)) :=
  (true, ((rchk x.1.1 x.1.2.1 x.1.2.2.1 x.1.2.2.2.1 x.1.2.2.2.2.1 x.1.2.2.2.2.2.1 x.1.2.2.2.2.2.2.1, ()), ((), ())))
theorem or1033 {α : Type} (b1 b2 b3 b4 b5 b6 b7 b8 b9 b10 x : Bool) (J : Bool → α) :
    (bif b1 then J true else bif b2 then J true else bif b3 then J true else bif b4 then J true else bif b5 then J true else bif b6 then J true else bif b7 then J true else bif b8 then J true else bif b9 then J true else bif b10 then J x else J false) =
      J (b1 || (b2 || (b3 || (b4 || (b5 || (b6 || (b7 || (b8 || (b9 || (b10 && x)))))))))) := by
  cases b1 <;> try rfl
  cases b2 <;> try rfl
  cases b3 <;> try rfl
  cases b4 <;> try rfl
  cases b5 <;> try rfl
  cases b6 <;> try rfl
  cases b7 <;> try rfl
  cases b8 <;> try rfl
  cases b9 <;> try rfl
  cases b10 <;> rfl
theorem lp33 (n : Nat) (a b c d : Int) (q : List (List Int)) (w r : Int) (o : Bool) (hq : q.length ≤ 64) : ∀ (k i : Nat), i ≤ q.length → q.length - i < k →
    l33_58_0 n k i a b c d q w r o = some ((if ((q.drop i).any fun b => decide (1048576 < b.length)) = true then 3 else if a < 1 ∨ 9223372036854775808 < a ∨ c < 1 ∨ 9223372036854775808 < c ∨ IntKind.u64.wrap (c - 1) < (q.length : Int) ∨ r < 1 ∨ 1024 < r ∨ w < 0 ∨ r < w ∨ (b = 0 ∧ d ≠ 0) then 2 else 0, ()), ((), ())) := by
  intro k
  induction k with
  | zero => intro i h1 h2; omega
  | succ k ih =>
    intro i h1 h2
    rw [l33_58_0_s]
    by_cases hi : i < q.length
    · rw [decide_eq_true (show (i : Int) < q.length by omega), show rng (i : Int) q.length = true from rng_ok (by omega) (by omega), Int.toNat_natCast, wrap_i64 (show -9223372036854775808 ≤ (i : Int) + 1 by omega) (by omega), drop_get q [] i hi, List.any_cons]
      simp only [cond_true, ck_true]
      by_cases h : 1048576 < (q.getD i []).length
      · rw [decide_eq_true (show ((q.getD i []).length : Int) > 1048576 by omega), decide_eq_true h, Bool.true_or, if_pos rfl]
        rfl
      · rw [decide_eq_false (show ¬ ((q.getD i []).length : Int) > 1048576 by omega), decide_eq_false h, Bool.false_or]
        exact ih (i + 1) (by omega) (by omega)
    · rw [decide_eq_false (show ¬ (i : Int) < q.length by omega), drop_end q i (by omega), wrap_u64 (show 0 ≤ (q.length : Int) by omega) (by omega)]
      rw [show (([] : List (List Int)).any fun b => decide (1048576 < b.length)) = false from rfl, if_neg (show ¬ false = true by decide)]
      generalize IntKind.u64.wrap (c - 1) = z
      have hh := or1033 (decide (a < 1)) (decide (a > 9223372036854775808)) (decide (c < 1)) (decide (c > 9223372036854775808)) (decide (z < (q.length : Int))) (decide (r < 1)) (decide (r > 1024)) (decide (w < 0)) (decide (w > r)) (b == 0) (d != 0) (fun y => bif y then (some (((2 : Int), ()), ((), ()))) else (some (((0 : Int), ()), ((), ()))))
      refine Eq.trans hh ?_
      have e : (decide (a < 1) || (decide (a > 9223372036854775808) || (decide (c < 1) || (decide (c > 9223372036854775808) || (decide (z < (q.length : Int)) || (decide (r < 1) || (decide (r > 1024) || (decide (w < 0) || (decide (w > r) || ((b == 0) && (d != 0)))))))))))
          = decide (a < 1 ∨ 9223372036854775808 < a ∨ c < 1 ∨ 9223372036854775808 < c ∨ z < (q.length : Int) ∨ r < 1 ∨ 1024 < r ∨ w < 0 ∨ r < w ∨ (b = 0 ∧ d ≠ 0)) := by
        rw [Bool.eq_iff_iff]
        simp only [Bool.or_eq_true, Bool.and_eq_true, decide_eq_true_eq, beq_iff_eq, bne_iff_ne, gt_iff_lt]
      rw [e]
      by_cases hC : a < 1 ∨ 9223372036854775808 < a ∨ c < 1 ∨ 9223372036854775808 < c ∨ z < (q.length : Int) ∨ r < 1 ∨ 1024 < r ∨ w < 0 ∨ r < w ∨ (b = 0 ∧ d ≠ 0)
      · rw [decide_eq_true hC, if_pos hC]; rfl
      · rw [decide_eq_false hC, if_neg hC]; rfl
theorem run33 (x : (Int × (Int × (Int × (Int × (List (List Int) × (Int × (Int × (Bool × Unit)))))))) × Unit) (h : (G33 x).1 = true) : ∃ n, runM (cx33 n) (fnOf 33) (body 33) M33a M33o x = some (G33 x).2 := by
  obtain ⟨⟨a, b, c, d, q, w, r, o, ⟨⟩⟩, ⟨⟩⟩ := x
  refine ⟨65, ?_⟩
  rw [eq33]
  by_cases hq : 64 < q.length
  · rw [decide_eq_true (show (q.length : Int) > 64 by omega)]
    simp only [G33, rchk, if_pos (show 64 < q.length ∨ (q.any fun b => decide (1048576 < b.length)) = true from .inl hq)]
    rfl
  · rw [decide_eq_false (show ¬ (q.length : Int) > 64 by omega)]
    refine (lp33 65 a b c d q w r o (by omega) 65 0 (by omega) (by omega)).trans ?_
    rw [List.drop_zero]
    simp only [G33, rchk]
    by_cases h2 : (q.any fun b => decide (1048576 < b.length)) = true
    · rw [if_pos h2, if_pos (show 64 < q.length ∨ (q.any fun b => decide (1048576 < b.length)) = true from .inr h2)]
    · rw [if_neg h2, if_neg (show ¬ (64 < q.length ∨ (q.any fun b => decide (1048576 < b.length)) = true) from fun hh => hh.elim hq h2)]

theorem fok33 : FnOK Try.prog noG 33 (fnM M33a M33o G33) := ok33 G33 run33

/-- drawbridgeref18.New -/
@[reducible] def M32a : Md := (.cons (.ro (.int .u64)) (.cons (.ro (.int .i64)) .nil))
@[reducible] def M32o : Md := (.cons (.ro (.cons (.int .u64) (.cons (.int .u64) (.cons (.int .u64) (.cons (.int .u64) (.cons (.sl (.sl (.int .u8))) (.cons (.int .i64) (.cons (.int .i64) (.cons .bool .nil))))))))) (.cons (.ro (.int .i64)) .nil))
noncomputable def cx32 (F33 : ((Int × (Int × (Int × (Int × ((List (List Int)) × (Int × (Int × (Bool × Unit)))))))) × Unit) → Bool × ((Int × Unit) × (Unit × Unit))) (n : Nat) : Cx := { S := (addV noS 33 (fnM M33a M33o F33)), P := Try.prog, gl := noG, hint := [], pin := [], nin := 0, fuel := n }
def t32 (F33 : ((Int × (Int × (Int × (Int × ((List (List Int)) × (Int × (Int × (Bool × Unit)))))))) × Unit) → Bool × ((Int × Unit) × (Unit × Unit))) (x0 : Int) (x1 : Int) : Option (((Int × (Int × (Int × (Int × ((List (List Int)) × (Int × (Int × (Bool × Unit)))))))) × (Int × Unit)) × (Unit × (Unit × Unit))) :=
 (cl (F33 ((x0, (0 : Int), (1 : Int), (0 : Int), [], x1, x1, false, ()), ())) fun r157 =>
 (bif (r157.1.1 != (0 : Int)) then
 (some ((((0 : Int), (0 : Int), (0 : Int), (0 : Int), [], (0 : Int), (0 : Int), false, ()), (2 : Int), ()), ((), (), ())))
 else
 (some (((x0, (0 : Int), (1 : Int), (0 : Int), [], x1, x1, false, ()), (0 : Int), ()), ((), (), ())))))
theorem eq32 (F33 : ((Int × (Int × (Int × (Int × ((List (List Int)) × (Int × (Int × (Bool × Unit)))))))) × Unit) → Bool × ((Int × Unit) × (Unit × Unit))) (n : Nat) (x0 : Int) (x1 : Int) : runM (cx32 F33 n) (fnOf 32) (body 32) M32a M32o (x0, x1, ()) = t32 F33 x0 x1 := by kernel_rfl
def raw32 (F33 : ((Int × (Int × (Int × (Int × ((List (List Int)) × (Int × (Int × (Bool × Unit)))))))) × Unit) → Bool × ((Int × Unit) × (Unit × Unit))) (x : (Int × (Int × Unit))) : Option (((Int × (Int × (Int × (Int × ((List (List Int)) × (Int × (Int × (Bool × Unit)))))))) × (Int × Unit)) × (Unit × (Unit × Unit))) := t32 F33 x.1 x.2.1
theorem ok32 (F33 : ((Int × (Int × (Int × (Int × ((List (List Int)) × (Int × (Int × (Bool × Unit)))))))) × Unit) → Bool × ((Int × Unit) × (Unit × Unit))) (h33 : FnOK Try.prog noG 33 (fnM M33a M33o F33)) : FnOK Try.prog noG 32 (fnM M32a M32o (toM (ma := M32a) (mo := M32o) (raw32 F33))) :=
  fnM_sound (cx32 F33 0) (SpecOK.addV SpecOK.none h33) mixed noG_ok (by kernel_rfl) (by kernel_rfl) (by kernel_rfl) (by kernel_rfl) (by kernel_rfl) (by kernel_rfl) (by kernel_rfl) (toM_run fun x => ⟨0, by have h := eq32 F33 0 x.1 x.2.1; exact h⟩)

noncomputable def G32 : (Int × (Int × Unit)) → Bool × (((Int × (Int × (Int × (Int × ((List (List Int)) × (Int × (Int × (Bool × Unit)))))))) × (Int × Unit)) × (Unit × (Unit × Unit))) := toM (ma := M32a) (mo := M32o) (raw32 G33)
theorem fok32 : FnOK Try.prog noG 32 (fnM M32a M32o G32) := ok32 G33 fok33
theorem G32_of {x0 : Int} {x1 : Int} {y : (((Int × (Int × (Int × (Int × ((List (List Int)) × (Int × (Int × (Bool × Unit)))))))) × (Int × Unit)) × (Unit × (Unit × Unit)))} (h : t32 G33 x0 x1 = some y) : G32 (x0, x1, ()) = (true, y) := toM_some (ma := M32a) (mo := M32o) h

/-- drawbridgeref18.CheckPiece -/
@[reducible] def M34a : Md := (.cons (.ro (.cons (.int .u64) (.cons (.int .u64) (.cons (.int .u64) (.cons (.int .u64) (.cons (.sl (.int .u8)) .nil)))))) .nil)
@[reducible] def M34o : Md := (.cons (.ro (.int .i64)) .nil)
noncomputable def cx34 (n : Nat) : Cx := { S := noS, P := Try.prog, gl := noG, hint := [], pin := [], nin := 0, fuel := n }
def t34 (x0 : Int) (x1 : Int) (x2 : Int) (x3 : Int) (x4 : (List Int)) : Option ((Int × Unit) × (Unit × Unit)) :=
 (bif (decide ((x4.length : Int) > (1048576 : Int))) then
 (some (((3 : Int), ()), ((), ())))
 else
 (jn (fun (y813_0 : Bool) =>
 (bif y813_0 then
 (some (((2 : Int), ()), ((), ())))
 else
 (some (((0 : Int), ()), ((), ()))))) fun (j813 : Bool → Option ((Int × Unit) × (Unit × Unit))) =>
 (bif (decide (x0 < (1 : Int))) then
 (j813 true)
 else
 (bif (decide (x0 > (9223372036854775808 : Int))) then
 (j813 true)
 else
 (bif (decide (x1 > (9223372036854775808 : Int))) then
 (j813 true)
 else
 (bif (decide (x2 > (9223372036854775808 : Int))) then
 (j813 true)
 else
 (bif (decide (x3 > (9223372036854775808 : Int))) then
 (j813 true)
 else
 (bif (x2 == (0 : Int)) then
 (j813 (decide ((x4.length : Int) > (0 : Int))))
 else
 (j813 false)))))))))
theorem eq34 (n : Nat) (x0 : Int) (x1 : Int) (x2 : Int) (x3 : Int) (x4 : (List Int)) : runM (cx34 n) (fnOf 34) (body 34) M34a M34o ((x0, x1, x2, x3, x4, ()), ()) = t34 x0 x1 x2 x3 x4 := by kernel_rfl
def raw34 (x : ((Int × (Int × (Int × (Int × ((List Int) × Unit))))) × Unit)) : Option ((Int × Unit) × (Unit × Unit)) := t34 x.1.1 x.1.2.1 x.1.2.2.1 x.1.2.2.2.1 x.1.2.2.2.2.1
theorem ok34 : FnOK Try.prog noG 34 (fnM M34a M34o (toM (ma := M34a) (mo := M34o) (raw34))) :=
  fnM_sound (cx34 0) SpecOK.none mixed noG_ok (by kernel_rfl) (by kernel_rfl) (by kernel_rfl) (by kernel_rfl) (by kernel_rfl) (by kernel_rfl) (by kernel_rfl) (toM_run fun x => ⟨0, by have h := eq34 0 x.1.1 x.1.2.1 x.1.2.2.1 x.1.2.2.2.1 x.1.2.2.2.2.1; exact h⟩)

noncomputable def G34 : ((Int × (Int × (Int × (Int × ((List Int) × Unit))))) × Unit) → Bool × ((Int × Unit) × (Unit × Unit)) := toM (ma := M34a) (mo := M34o) (raw34)
theorem fok34 : FnOK Try.prog noG 34 (fnM M34a M34o G34) := ok34
theorem G34_of {x0 : Int} {x1 : Int} {x2 : Int} {x3 : Int} {x4 : (List Int)} {y : ((Int × Unit) × (Unit × Unit))} (h : t34 x0 x1 x2 x3 x4 = some y) : G34 ((x0, x1, x2, x3, x4, ()), ()) = (true, y) := toM_some (ma := M34a) (mo := M34o) h

/-- drawbridgekit.Own -/
@[reducible] def M14a : Md := (.cons (.ro (.sl (.int .u8))) .nil)
@[reducible] def M14o : Md := (.cons (.ow (.int .u8)) .nil)
noncomputable def cx14 (n : Nat) : Cx := { S := noS, P := Try.prog, gl := noG, hint := [], pin := [], nin := 0, fuel := n }
def t14 (x0 : (List Int)) : Option (((List Int) × Unit) × (Unit × Unit)) :=
 (ck (fits (0 + x0.length) 1)
 (some (([] ++ x0, ()), ((), ()))))
theorem eq14 (n : Nat) (x0 : (List Int)) : runM (cx14 n) (fnOf 14) (body 14) M14a M14o (x0, ()) = t14 x0 := by kernel_rfl
def raw14 (x : ((List Int) × Unit)) : Option (((List Int) × Unit) × (Unit × Unit)) := t14 x.1
theorem ok14 : FnOK Try.prog noG 14 (fnM M14a M14o (toM (ma := M14a) (mo := M14o) (raw14))) :=
  fnM_sound (cx14 0) SpecOK.none mixed noG_ok (by kernel_rfl) (by kernel_rfl) (by kernel_rfl) (by kernel_rfl) (by kernel_rfl) (by kernel_rfl) (by kernel_rfl) (toM_run fun x => ⟨0, by have h := eq14 0 x.1; exact h⟩)

noncomputable def G14 : ((List Int) × Unit) → Bool × (((List Int) × Unit) × (Unit × Unit)) := toM (ma := M14a) (mo := M14o) (raw14)
theorem fok14 : FnOK Try.prog noG 14 (fnM M14a M14o G14) := ok14
theorem G14_of {x0 : (List Int)} {y : (((List Int) × Unit) × (Unit × Unit))} (h : t14 x0 = some y) : G14 (x0, ()) = (true, y) := toM_some (ma := M14a) (mo := M14o) h
theorem own14 (b : List Int) (h : b.length ≤ 140737488355328) : G14 (b, ()) = (true, ((b, ()), ((), ()))) := by
  refine G14_of ?_
  unfold t14
  rw [show fits (0 + b.length) 1 = true from decide_eq_true (by omega)]
  rfl


/-- drawbridgeref18.Put -/
@[reducible] def M35a : Md := (.cons (.ro (.cons (.int .u64) (.cons (.int .u64) (.cons (.int .u64) (.cons (.int .u64) (.cons (.sl (.sl (.int .u8))) (.cons (.int .i64) (.cons (.int .i64) (.cons .bool .nil))))))))) (.cons (.ro (.sl (.int .u8))) .nil))
@[reducible] def M35o : Md := (.cons (.ro (.cons (.int .u64) (.cons (.int .u64) (.cons (.int .u64) (.cons (.int .u64) (.cons (.sl (.sl (.int .u8))) (.cons (.int .i64) (.cons (.int .i64) (.cons .bool .nil))))))))) (.cons (.ro (.int .i64)) .nil))
noncomputable def cx35 (F33 : ((Int × (Int × (Int × (Int × ((List (List Int)) × (Int × (Int × (Bool × Unit)))))))) × Unit) → Bool × ((Int × Unit) × (Unit × Unit))) (n : Nat) : Cx := { S := (addV noS 33 (fnM M33a M33o F33)), P := Try.prog, gl := noG, hint := [], pin := [], nin := 0, fuel := n }
def t35 (F33 : ((Int × (Int × (Int × (Int × ((List (List Int)) × (Int × (Int × (Bool × Unit)))))))) × Unit) → Bool × ((Int × Unit) × (Unit × Unit))) (x0 : Int) (x1 : Int) (x2 : Int) (x3 : Int) (x4 : (List (List Int))) (x5 : Int) (x6 : Int) (x7 : Bool) (x8 : (List Int)) : Option (((Int × (Int × (Int × (Int × ((List (List Int)) × (Int × (Int × (Bool × Unit)))))))) × (Int × Unit)) × (Unit × (Unit × Unit))) :=
 (cl (F33 ((x0, x1, x2, x3, x4, x5, x6, x7, ()), ())) fun r167 =>
 (bif (r167.1.1 != (0 : Int)) then
 (some ((((0 : Int), (0 : Int), (0 : Int), (0 : Int), [], (0 : Int), (0 : Int), false, ()), r167.1.1, ()), ((), (), ())))
 else
 (bif (decide ((x8.length : Int) > (1048576 : Int))) then
 (some ((((0 : Int), (0 : Int), (0 : Int), (0 : Int), [], (0 : Int), (0 : Int), false, ()), (3 : Int), ()), ((), (), ())))
 else
 (bif (decide ((x4.length : Int) ≥ (64 : Int))) then
 (some ((((0 : Int), (0 : Int), (0 : Int), (0 : Int), [], (0 : Int), (0 : Int), false, ()), (9 : Int), ()), ((), (), ())))
 else
 (jn (fun (y850_0 : Int) =>
 (ck (fits (0 + x4.length) 24)
 (ck (fits (0 + x8.length) 1)
 (ck (fits (([] ++ x4).length + 1) 24)
 (some (((x0, x1, (IntKind.u64.wrap (x2 + (1 : Int))), x3, ([] ++ x4) ++ [[] ++ x8], y850_0, x6, x7, ()), (0 : Int), ()), ((), (), ()))))))) fun (j850 : Int → Option (((Int × (Int × (Int × (Int × ((List (List Int)) × (Int × (Int × (Bool × Unit)))))))) × (Int × Unit)) × (Unit × (Unit × Unit)))) =>
 (bif ((x4.length : Int) == (0 : Int)) then
 (j850 x6)
 else
 (j850 x5)))))))
theorem eq35 (F33 : ((Int × (Int × (Int × (Int × ((List (List Int)) × (Int × (Int × (Bool × Unit)))))))) × Unit) → Bool × ((Int × Unit) × (Unit × Unit))) (n : Nat) (x0 : Int) (x1 : Int) (x2 : Int) (x3 : Int) (x4 : (List (List Int))) (x5 : Int) (x6 : Int) (x7 : Bool) (x8 : (List Int)) : runM (cx35 F33 n) (fnOf 35) (body 35) M35a M35o ((x0, x1, x2, x3, x4, x5, x6, x7, ()), x8, ()) = t35 F33 x0 x1 x2 x3 x4 x5 x6 x7 x8 := by kernel_rfl
def raw35 (F33 : ((Int × (Int × (Int × (Int × ((List (List Int)) × (Int × (Int × (Bool × Unit)))))))) × Unit) → Bool × ((Int × Unit) × (Unit × Unit))) (x : ((Int × (Int × (Int × (Int × ((List (List Int)) × (Int × (Int × (Bool × Unit)))))))) × ((List Int) × Unit))) : Option (((Int × (Int × (Int × (Int × ((List (List Int)) × (Int × (Int × (Bool × Unit)))))))) × (Int × Unit)) × (Unit × (Unit × Unit))) := t35 F33 x.1.1 x.1.2.1 x.1.2.2.1 x.1.2.2.2.1 x.1.2.2.2.2.1 x.1.2.2.2.2.2.1 x.1.2.2.2.2.2.2.1 x.1.2.2.2.2.2.2.2.1 x.2.1
theorem ok35 (F33 : ((Int × (Int × (Int × (Int × ((List (List Int)) × (Int × (Int × (Bool × Unit)))))))) × Unit) → Bool × ((Int × Unit) × (Unit × Unit))) (h33 : FnOK Try.prog noG 33 (fnM M33a M33o F33)) : FnOK Try.prog noG 35 (fnM M35a M35o (toM (ma := M35a) (mo := M35o) (raw35 F33))) :=
  fnM_sound (cx35 F33 0) (SpecOK.addV SpecOK.none h33) mixed noG_ok (by kernel_rfl) (by kernel_rfl) (by kernel_rfl) (by kernel_rfl) (by kernel_rfl) (by kernel_rfl) (by kernel_rfl) (toM_run fun x => ⟨0, by have h := eq35 F33 0 x.1.1 x.1.2.1 x.1.2.2.1 x.1.2.2.2.1 x.1.2.2.2.2.1 x.1.2.2.2.2.2.1 x.1.2.2.2.2.2.2.1 x.1.2.2.2.2.2.2.2.1 x.2.1; exact h⟩)

noncomputable def G35 : ((Int × (Int × (Int × (Int × ((List (List Int)) × (Int × (Int × (Bool × Unit)))))))) × ((List Int) × Unit)) → Bool × (((Int × (Int × (Int × (Int × ((List (List Int)) × (Int × (Int × (Bool × Unit)))))))) × (Int × Unit)) × (Unit × (Unit × Unit))) := toM (ma := M35a) (mo := M35o) (raw35 G33)
theorem fok35 : FnOK Try.prog noG 35 (fnM M35a M35o G35) := ok35 G33 fok33
theorem G35_of {x0 : Int} {x1 : Int} {x2 : Int} {x3 : Int} {x4 : (List (List Int))} {x5 : Int} {x6 : Int} {x7 : Bool} {x8 : (List Int)} {y : (((Int × (Int × (Int × (Int × ((List (List Int)) × (Int × (Int × (Bool × Unit)))))))) × (Int × Unit)) × (Unit × (Unit × Unit)))} (h : t35 G33 x0 x1 x2 x3 x4 x5 x6 x7 x8 = some y) : G35 ((x0, x1, x2, x3, x4, x5, x6, x7, ()), x8, ()) = (true, y) := toM_some (ma := M35a) (mo := M35o) h

/-- drawbridgeref18.Tick -/
@[reducible] def M36a : Md := (.cons (.ro (.cons (.int .u64) (.cons (.int .u64) (.cons (.int .u64) (.cons (.int .u64) (.cons (.sl (.sl (.int .u8))) (.cons (.int .i64) (.cons (.int .i64) (.cons .bool .nil))))))))) .nil)
@[reducible] def M36o : Md := (.cons (.ro (.cons (.int .u64) (.cons (.int .u64) (.cons (.int .u64) (.cons (.int .u64) (.cons (.sl (.sl (.int .u8))) (.cons (.int .i64) (.cons (.int .i64) (.cons .bool .nil))))))))) (.cons (.ro (.int .i64)) .nil))
noncomputable def cx36 (F33 : ((Int × (Int × (Int × (Int × ((List (List Int)) × (Int × (Int × (Bool × Unit)))))))) × Unit) → Bool × ((Int × Unit) × (Unit × Unit))) (n : Nat) : Cx := { S := (addV noS 33 (fnM M33a M33o F33)), P := Try.prog, gl := noG, hint := [], pin := [], nin := 0, fuel := n }
def t36 (F33 : ((Int × (Int × (Int × (Int × ((List (List Int)) × (Int × (Int × (Bool × Unit)))))))) × Unit) → Bool × ((Int × Unit) × (Unit × Unit))) (x0 : Int) (x1 : Int) (x2 : Int) (x3 : Int) (x4 : (List (List Int))) (x5 : Int) (x6 : Int) (x7 : Bool) : Option (((Int × (Int × (Int × (Int × ((List (List Int)) × (Int × (Int × (Bool × Unit)))))))) × (Int × Unit)) × (Unit × Unit)) :=
 (cl (F33 ((x0, x1, x2, x3, x4, x5, x6, x7, ()), ())) fun r172 =>
 (bif (r172.1.1 != (0 : Int)) then
 (some ((((0 : Int), (0 : Int), (0 : Int), (0 : Int), [], (0 : Int), (0 : Int), false, ()), r172.1.1, ()), ((), ())))
 else
 (some (((x0, x1, x2, x3, x4, (if x6 < (IntKind.i64.wrap (x5 + (1 : Int))) then x6 else (IntKind.i64.wrap (x5 + (1 : Int)))), x6, x7, ()), (0 : Int), ()), ((), ())))))
theorem eq36 (F33 : ((Int × (Int × (Int × (Int × ((List (List Int)) × (Int × (Int × (Bool × Unit)))))))) × Unit) → Bool × ((Int × Unit) × (Unit × Unit))) (n : Nat) (x0 : Int) (x1 : Int) (x2 : Int) (x3 : Int) (x4 : (List (List Int))) (x5 : Int) (x6 : Int) (x7 : Bool) : runM (cx36 F33 n) (fnOf 36) (body 36) M36a M36o ((x0, x1, x2, x3, x4, x5, x6, x7, ()), ()) = t36 F33 x0 x1 x2 x3 x4 x5 x6 x7 := by kernel_rfl
def raw36 (F33 : ((Int × (Int × (Int × (Int × ((List (List Int)) × (Int × (Int × (Bool × Unit)))))))) × Unit) → Bool × ((Int × Unit) × (Unit × Unit))) (x : ((Int × (Int × (Int × (Int × ((List (List Int)) × (Int × (Int × (Bool × Unit)))))))) × Unit)) : Option (((Int × (Int × (Int × (Int × ((List (List Int)) × (Int × (Int × (Bool × Unit)))))))) × (Int × Unit)) × (Unit × Unit)) := t36 F33 x.1.1 x.1.2.1 x.1.2.2.1 x.1.2.2.2.1 x.1.2.2.2.2.1 x.1.2.2.2.2.2.1 x.1.2.2.2.2.2.2.1 x.1.2.2.2.2.2.2.2.1
theorem ok36 (F33 : ((Int × (Int × (Int × (Int × ((List (List Int)) × (Int × (Int × (Bool × Unit)))))))) × Unit) → Bool × ((Int × Unit) × (Unit × Unit))) (h33 : FnOK Try.prog noG 33 (fnM M33a M33o F33)) : FnOK Try.prog noG 36 (fnM M36a M36o (toM (ma := M36a) (mo := M36o) (raw36 F33))) :=
  fnM_sound (cx36 F33 0) (SpecOK.addV SpecOK.none h33) mixed noG_ok (by kernel_rfl) (by kernel_rfl) (by kernel_rfl) (by kernel_rfl) (by kernel_rfl) (by kernel_rfl) (by kernel_rfl) (toM_run fun x => ⟨0, by have h := eq36 F33 0 x.1.1 x.1.2.1 x.1.2.2.1 x.1.2.2.2.1 x.1.2.2.2.2.1 x.1.2.2.2.2.2.1 x.1.2.2.2.2.2.2.1 x.1.2.2.2.2.2.2.2.1; exact h⟩)

noncomputable def G36 : ((Int × (Int × (Int × (Int × ((List (List Int)) × (Int × (Int × (Bool × Unit)))))))) × Unit) → Bool × (((Int × (Int × (Int × (Int × ((List (List Int)) × (Int × (Int × (Bool × Unit)))))))) × (Int × Unit)) × (Unit × Unit)) := toM (ma := M36a) (mo := M36o) (raw36 G33)
theorem fok36 : FnOK Try.prog noG 36 (fnM M36a M36o G36) := ok36 G33 fok33
theorem G36_of {x0 : Int} {x1 : Int} {x2 : Int} {x3 : Int} {x4 : (List (List Int))} {x5 : Int} {x6 : Int} {x7 : Bool} {y : (((Int × (Int × (Int × (Int × ((List (List Int)) × (Int × (Int × (Bool × Unit)))))))) × (Int × Unit)) × (Unit × Unit))} (h : t36 G33 x0 x1 x2 x3 x4 x5 x6 x7 = some y) : G36 ((x0, x1, x2, x3, x4, x5, x6, x7, ()), ()) = (true, y) := toM_some (ma := M36a) (mo := M36o) h

/-- drawbridgeref18.Send -/
@[reducible] def M37a : Md := (.cons (.ro (.cons (.int .u64) (.cons (.int .u64) (.cons (.int .u64) (.cons (.int .u64) (.cons (.sl (.sl (.int .u8))) (.cons (.int .i64) (.cons (.int .i64) (.cons .bool .nil))))))))) .nil)
@[reducible] def M37o : Md := (.cons (.ro (.cons (.int .u64) (.cons (.int .u64) (.cons (.int .u64) (.cons (.int .u64) (.cons (.sl (.int .u8)) .nil)))))) (.cons (.ro (.cons (.int .u64) (.cons (.int .u64) (.cons (.int .u64) (.cons (.int .u64) (.cons (.sl (.sl (.int .u8))) (.cons (.int .i64) (.cons (.int .i64) (.cons .bool .nil))))))))) (.cons (.ro .bool) .nil)))
noncomputable def cx37 (F33 : ((Int × (Int × (Int × (Int × ((List (List Int)) × (Int × (Int × (Bool × Unit)))))))) × Unit) → Bool × ((Int × Unit) × (Unit × Unit))) (n : Nat) : Cx := { S := (addV noS 33 (fnM M33a M33o F33)), P := Try.prog, gl := noG, hint := [], pin := [], nin := 0, fuel := n }
def t37 (F33 : ((Int × (Int × (Int × (Int × ((List (List Int)) × (Int × (Int × (Bool × Unit)))))))) × Unit) → Bool × ((Int × Unit) × (Unit × Unit))) (x0 : Int) (x1 : Int) (x2 : Int) (x3 : Int) (x4 : (List (List Int))) (x5 : Int) (x6 : Int) (x7 : Bool) : Option (((Int × (Int × (Int × (Int × ((List Int) × Unit))))) × ((Int × (Int × (Int × (Int × ((List (List Int)) × (Int × (Int × (Bool × Unit)))))))) × (Bool × Unit))) × (Unit × Unit)) :=
 (cl (F33 ((x0, x1, x2, x3, x4, x5, x6, x7, ()), ())) fun r177 =>
 (bif (r177.1.1 != (0 : Int)) then
 (some ((((0 : Int), (0 : Int), (0 : Int), (0 : Int), [], ()), (x0, x1, x2, x3, x4, x5, x6, x7, ()), false, ()), ((), ())))
 else
 (jn (fun (y901_0 : Bool) =>
 (bif y901_0 then
 (ck (rng (0 : Int) x4.length)
 (ck (fits (0 + (x4.getD 0 []).length) 1)
 (some (((x0, x1, (IntKind.u64.wrap (x2 - (IntKind.u64.wrap (x4.length : Int)))), x3, [] ++ (x4.getD 0 []), ()), (x0, x1, x2, x3, x4, (0 : Int), x6, false, ()), true, ()), ((), ())))))
 else
 (bif x7 then
 (some (((x0, x1, (0 : Int), x3, [], ()), (x0, x1, x2, x3, x4, x5, x6, false, ()), true, ()), ((), ())))
 else
 (some ((((0 : Int), (0 : Int), (0 : Int), (0 : Int), [], ()), (x0, x1, x2, x3, x4, x5, x6, x7, ()), false, ()), ((), ())))))) fun (j901 : Bool → Option (((Int × (Int × (Int × (Int × ((List Int) × Unit))))) × ((Int × (Int × (Int × (Int × ((List (List Int)) × (Int × (Int × (Bool × Unit)))))))) × (Bool × Unit))) × (Unit × Unit))) =>
 (bif (decide ((x4.length : Int) > (0 : Int))) then
 (j901 (x5 == x6))
 else
 (j901 false)))))
theorem eq37 (F33 : ((Int × (Int × (Int × (Int × ((List (List Int)) × (Int × (Int × (Bool × Unit)))))))) × Unit) → Bool × ((Int × Unit) × (Unit × Unit))) (n : Nat) (x0 : Int) (x1 : Int) (x2 : Int) (x3 : Int) (x4 : (List (List Int))) (x5 : Int) (x6 : Int) (x7 : Bool) : runM (cx37 F33 n) (fnOf 37) (body 37) M37a M37o ((x0, x1, x2, x3, x4, x5, x6, x7, ()), ()) = t37 F33 x0 x1 x2 x3 x4 x5 x6 x7 := by kernel_rfl
def raw37 (F33 : ((Int × (Int × (Int × (Int × ((List (List Int)) × (Int × (Int × (Bool × Unit)))))))) × Unit) → Bool × ((Int × Unit) × (Unit × Unit))) (x : ((Int × (Int × (Int × (Int × ((List (List Int)) × (Int × (Int × (Bool × Unit)))))))) × Unit)) : Option (((Int × (Int × (Int × (Int × ((List Int) × Unit))))) × ((Int × (Int × (Int × (Int × ((List (List Int)) × (Int × (Int × (Bool × Unit)))))))) × (Bool × Unit))) × (Unit × Unit)) := t37 F33 x.1.1 x.1.2.1 x.1.2.2.1 x.1.2.2.2.1 x.1.2.2.2.2.1 x.1.2.2.2.2.2.1 x.1.2.2.2.2.2.2.1 x.1.2.2.2.2.2.2.2.1
theorem ok37 (F33 : ((Int × (Int × (Int × (Int × ((List (List Int)) × (Int × (Int × (Bool × Unit)))))))) × Unit) → Bool × ((Int × Unit) × (Unit × Unit))) (h33 : FnOK Try.prog noG 33 (fnM M33a M33o F33)) : FnOK Try.prog noG 37 (fnM M37a M37o (toM (ma := M37a) (mo := M37o) (raw37 F33))) :=
  fnM_sound (cx37 F33 0) (SpecOK.addV SpecOK.none h33) mixed noG_ok (by kernel_rfl) (by kernel_rfl) (by kernel_rfl) (by kernel_rfl) (by kernel_rfl) (by kernel_rfl) (by kernel_rfl) (toM_run fun x => ⟨0, by have h := eq37 F33 0 x.1.1 x.1.2.1 x.1.2.2.1 x.1.2.2.2.1 x.1.2.2.2.2.1 x.1.2.2.2.2.2.1 x.1.2.2.2.2.2.2.1 x.1.2.2.2.2.2.2.2.1; exact h⟩)

noncomputable def G37 : ((Int × (Int × (Int × (Int × ((List (List Int)) × (Int × (Int × (Bool × Unit)))))))) × Unit) → Bool × (((Int × (Int × (Int × (Int × ((List Int) × Unit))))) × ((Int × (Int × (Int × (Int × ((List (List Int)) × (Int × (Int × (Bool × Unit)))))))) × (Bool × Unit))) × (Unit × Unit)) := toM (ma := M37a) (mo := M37o) (raw37 G33)
theorem fok37 : FnOK Try.prog noG 37 (fnM M37a M37o G37) := ok37 G33 fok33
theorem G37_of {x0 : Int} {x1 : Int} {x2 : Int} {x3 : Int} {x4 : (List (List Int))} {x5 : Int} {x6 : Int} {x7 : Bool} {y : (((Int × (Int × (Int × (Int × ((List Int) × Unit))))) × ((Int × (Int × (Int × (Int × ((List (List Int)) × (Int × (Int × (Bool × Unit)))))))) × (Bool × Unit))) × (Unit × Unit))} (h : t37 G33 x0 x1 x2 x3 x4 x5 x6 x7 = some y) : G37 ((x0, x1, x2, x3, x4, x5, x6, x7, ()), ()) = (true, y) := toM_some (ma := M37a) (mo := M37o) h

/-- drawbridgeref18.Hear -/
@[reducible] def M38a : Md := (.cons (.ro (.cons (.int .u64) (.cons (.int .u64) (.cons (.int .u64) (.cons (.int .u64) (.cons (.sl (.sl (.int .u8))) (.cons (.int .i64) (.cons (.int .i64) (.cons .bool .nil))))))))) (.cons (.ro (.cons (.int .u64) (.cons (.int .u64) (.cons (.int .u64) (.cons (.int .u64) (.cons (.sl (.int .u8)) .nil)))))) .nil))
@[reducible] def M38o : Md := (.cons (.ro (.sl (.int .u8))) (.cons (.ro .bool) (.cons (.ro (.cons (.int .u64) (.cons (.int .u64) (.cons (.int .u64) (.cons (.int .u64) (.cons (.sl (.sl (.int .u8))) (.cons (.int .i64) (.cons (.int .i64) (.cons .bool .nil))))))))) (.cons (.ro (.int .i64)) .nil))))
noncomputable def cx38 (F33 : ((Int × (Int × (Int × (Int × ((List (List Int)) × (Int × (Int × (Bool × Unit)))))))) × Unit) → Bool × ((Int × Unit) × (Unit × Unit))) (F34 : ((Int × (Int × (Int × (Int × ((List Int) × Unit))))) × Unit) → Bool × ((Int × Unit) × (Unit × Unit))) (n : Nat) : Cx := { S := (addV (addV noS 33 (fnM M33a M33o F33)) 34 (fnM M34a M34o F34)), P := Try.prog, gl := noG, hint := [], pin := [], nin := 0, fuel := n }
def t38 (F33 : ((Int × (Int × (Int × (Int × ((List (List Int)) × (Int × (Int × (Bool × Unit)))))))) × Unit) → Bool × ((Int × Unit) × (Unit × Unit))) (F34 : ((Int × (Int × (Int × (Int × ((List Int) × Unit))))) × Unit) → Bool × ((Int × Unit) × (Unit × Unit))) (x0 : Int) (x1 : Int) (x2 : Int) (x3 : Int) (x4 : (List (List Int))) (x5 : Int) (x6 : Int) (x7 : Bool) (x8 : Int) (x9 : Int) (x10 : Int) (x11 : Int) (x12 : (List Int)) : Option (((List Int) × (Bool × ((Int × (Int × (Int × (Int × ((List (List Int)) × (Int × (Int × (Bool × Unit)))))))) × (Int × Unit)))) × (Unit × (Unit × Unit))) :=
 (cl (F33 ((x0, x1, x2, x3, x4, x5, x6, x7, ()), ())) fun r184 =>
 (jn (fun (y961_0 : Int) =>
 (bif (y961_0 != (0 : Int)) then
 (some (([], false, ((0 : Int), (0 : Int), (0 : Int), (0 : Int), [], (0 : Int), (0 : Int), false, ()), y961_0, ()), ((), (), ())))
 else
 (bif (decide (x8 < x1)) then
 (some (([], false, (x0, x1, x2, x3, x4, x5, x6, x7, ()), (0 : Int), ()), ((), (), ())))
 else
 (jn (fun (y969_0 : Int) (y969_1 : Int) (y969_2 : Int) (y969_3 : Int) (y969_4 : Bool) =>
 (bif (x9 != x0) then
 (jn (fun (y975_0 : Bool) =>
 (some (([], false, (x0, y969_0, y969_1, y969_2, x4, y969_3, x6, y975_0, ()), (0 : Int), ()), ((), (), ())))) fun (j975 : Bool → Option (((List Int) × (Bool × ((Int × (Int × (Int × (Int × ((List (List Int)) × (Int × (Int × (Bool × Unit)))))))) × (Int × Unit)))) × (Unit × (Unit × Unit)))) =>
 (bif y969_4 then
 (j975 true)
 else
 (bif (x9 != (0 : Int)) then
 (j975 true)
 else
 (j975 (decide (x10 > (0 : Int)))))))
 else
 (jn (fun (y979_0 : Bool) =>
 (bif y979_0 then
 (ck (decide (0 ≤ (IntKind.u64.wrap ((IntKind.u64.wrap (x11 - (IntKind.u64.wrap (y969_1 - (IntKind.u64.wrap (x4.length : Int)))))) + (1 : Int)))) && decide ((IntKind.u64.wrap ((IntKind.u64.wrap (x11 - (IntKind.u64.wrap (y969_1 - (IntKind.u64.wrap (x4.length : Int)))))) + (1 : Int))) ≤ ((x4.length : Nat) : Int)))
 (ck (fits (0 + ((x4.drop ((IntKind.u64.wrap ((IntKind.u64.wrap (x11 - (IntKind.u64.wrap (y969_1 - (IntKind.u64.wrap (x4.length : Int)))))) + (1 : Int))).toNat)).take (x4.length - (IntKind.u64.wrap ((IntKind.u64.wrap (x11 - (IntKind.u64.wrap (y969_1 - (IntKind.u64.wrap (x4.length : Int)))))) + (1 : Int))).toNat)).length) 24)
 (bif (x10 == (0 : Int)) then
 (some (([], false, (x0, y969_0, y969_1, y969_2, [] ++ ((x4.drop ((IntKind.u64.wrap ((IntKind.u64.wrap (x11 - (IntKind.u64.wrap (y969_1 - (IntKind.u64.wrap (x4.length : Int)))))) + (1 : Int))).toNat)).take (x4.length - (IntKind.u64.wrap ((IntKind.u64.wrap (x11 - (IntKind.u64.wrap (y969_1 - (IntKind.u64.wrap (x4.length : Int)))))) + (1 : Int))).toNat)), x6, x6, y969_4, ()), (0 : Int), ()), ((), (), ())))
 else
 (bif (x10 != (IntKind.u64.wrap (y969_2 + (1 : Int)))) then
 (some (([], false, (x0, y969_0, y969_1, y969_2, [] ++ ((x4.drop ((IntKind.u64.wrap ((IntKind.u64.wrap (x11 - (IntKind.u64.wrap (y969_1 - (IntKind.u64.wrap (x4.length : Int)))))) + (1 : Int))).toNat)).take (x4.length - (IntKind.u64.wrap ((IntKind.u64.wrap (x11 - (IntKind.u64.wrap (y969_1 - (IntKind.u64.wrap (x4.length : Int)))))) + (1 : Int))).toNat)), x6, x6, true, ()), (0 : Int), ()), ((), (), ())))
 else
 (ck (fits (0 + x12.length) 1)
 (some (([] ++ x12, true, (x0, y969_0, y969_1, x10, [] ++ ((x4.drop ((IntKind.u64.wrap ((IntKind.u64.wrap (x11 - (IntKind.u64.wrap (y969_1 - (IntKind.u64.wrap (x4.length : Int)))))) + (1 : Int))).toNat)).take (x4.length - (IntKind.u64.wrap ((IntKind.u64.wrap (x11 - (IntKind.u64.wrap (y969_1 - (IntKind.u64.wrap (x4.length : Int)))))) + (1 : Int))).toNat)), x6, x6, true, ()), (0 : Int), ()), ((), (), ()))))))))
 else
 (bif (x10 == (0 : Int)) then
 (some (([], false, (x0, y969_0, y969_1, y969_2, x4, y969_3, x6, y969_4, ()), (0 : Int), ()), ((), (), ())))
 else
 (bif (x10 != (IntKind.u64.wrap (y969_2 + (1 : Int)))) then
 (some (([], false, (x0, y969_0, y969_1, y969_2, x4, y969_3, x6, true, ()), (0 : Int), ()), ((), (), ())))
 else
 (ck (fits (0 + x12.length) 1)
 (some (([] ++ x12, true, (x0, y969_0, y969_1, x10, x4, y969_3, x6, true, ()), (0 : Int), ()), ((), (), ())))))))) fun (j979 : Bool → Option (((List Int) × (Bool × ((Int × (Int × (Int × (Int × ((List (List Int)) × (Int × (Int × (Bool × Unit)))))))) × (Int × Unit)))) × (Unit × (Unit × Unit)))) =>
 (bif (decide (x11 ≥ (IntKind.u64.wrap (y969_1 - (IntKind.u64.wrap (x4.length : Int)))))) then
 (j979 (decide (x11 < y969_1)))
 else
 (j979 false))))) fun (j969 : Int → Int → Int → Int → Bool → Option (((List Int) × (Bool × ((Int × (Int × (Int × (Int × ((List (List Int)) × (Int × (Int × (Bool × Unit)))))))) × (Int × Unit)))) × (Unit × (Unit × Unit)))) =>
 (bif (decide (x8 > x1)) then
 (bif (x1 != (0 : Int)) then
 (j969 x8 (IntKind.u64.wrap ((1 : Int) + (IntKind.u64.wrap (x4.length : Int)))) (0 : Int) x6 true)
 else
 (j969 x8 x2 (0 : Int) x5 true))
 else
 (j969 x1 x2 x3 x5 x7)))))) fun (j961 : Int → Option (((List Int) × (Bool × ((Int × (Int × (Int × (Int × ((List (List Int)) × (Int × (Int × (Bool × Unit)))))))) × (Int × Unit)))) × (Unit × (Unit × Unit)))) =>
 (bif (r184.1.1 == (0 : Int)) then
 (cl (F34 ((x8, x9, x10, x11, x12, ()), ())) fun r185 =>
 (j961 r185.1.1))
 else
 (j961 r184.1.1))))
theorem eq38 (F33 : ((Int × (Int × (Int × (Int × ((List (List Int)) × (Int × (Int × (Bool × Unit)))))))) × Unit) → Bool × ((Int × Unit) × (Unit × Unit))) (F34 : ((Int × (Int × (Int × (Int × ((List Int) × Unit))))) × Unit) → Bool × ((Int × Unit) × (Unit × Unit))) (n : Nat) (x0 : Int) (x1 : Int) (x2 : Int) (x3 : Int) (x4 : (List (List Int))) (x5 : Int) (x6 : Int) (x7 : Bool) (x8 : Int) (x9 : Int) (x10 : Int) (x11 : Int) (x12 : (List Int)) : runM (cx38 F33 F34 n) (fnOf 38) (body 38) M38a M38o ((x0, x1, x2, x3, x4, x5, x6, x7, ()), (x8, x9, x10, x11, x12, ()), ()) = t38 F33 F34 x0 x1 x2 x3 x4 x5 x6 x7 x8 x9 x10 x11 x12 := by kernel_rfl
def raw38 (F33 : ((Int × (Int × (Int × (Int × ((List (List Int)) × (Int × (Int × (Bool × Unit)))))))) × Unit) → Bool × ((Int × Unit) × (Unit × Unit))) (F34 : ((Int × (Int × (Int × (Int × ((List Int) × Unit))))) × Unit) → Bool × ((Int × Unit) × (Unit × Unit))) (x : ((Int × (Int × (Int × (Int × ((List (List Int)) × (Int × (Int × (Bool × Unit)))))))) × ((Int × (Int × (Int × (Int × ((List Int) × Unit))))) × Unit))) : Option (((List Int) × (Bool × ((Int × (Int × (Int × (Int × ((List (List Int)) × (Int × (Int × (Bool × Unit)))))))) × (Int × Unit)))) × (Unit × (Unit × Unit))) := t38 F33 F34 x.1.1 x.1.2.1 x.1.2.2.1 x.1.2.2.2.1 x.1.2.2.2.2.1 x.1.2.2.2.2.2.1 x.1.2.2.2.2.2.2.1 x.1.2.2.2.2.2.2.2.1 x.2.1.1 x.2.1.2.1 x.2.1.2.2.1 x.2.1.2.2.2.1 x.2.1.2.2.2.2.1
theorem ok38 (F33 : ((Int × (Int × (Int × (Int × ((List (List Int)) × (Int × (Int × (Bool × Unit)))))))) × Unit) → Bool × ((Int × Unit) × (Unit × Unit))) (F34 : ((Int × (Int × (Int × (Int × ((List Int) × Unit))))) × Unit) → Bool × ((Int × Unit) × (Unit × Unit))) (h33 : FnOK Try.prog noG 33 (fnM M33a M33o F33)) (h34 : FnOK Try.prog noG 34 (fnM M34a M34o F34)) : FnOK Try.prog noG 38 (fnM M38a M38o (toM (ma := M38a) (mo := M38o) (raw38 F33 F34))) :=
  fnM_sound (cx38 F33 F34 0) (SpecOK.addV (SpecOK.addV SpecOK.none h33) h34) mixed noG_ok (by kernel_rfl) (by kernel_rfl) (by kernel_rfl) (by kernel_rfl) (by kernel_rfl) (by kernel_rfl) (by kernel_rfl) (toM_run fun x => ⟨0, by have h := eq38 F33 F34 0 x.1.1 x.1.2.1 x.1.2.2.1 x.1.2.2.2.1 x.1.2.2.2.2.1 x.1.2.2.2.2.2.1 x.1.2.2.2.2.2.2.1 x.1.2.2.2.2.2.2.2.1 x.2.1.1 x.2.1.2.1 x.2.1.2.2.1 x.2.1.2.2.2.1 x.2.1.2.2.2.2.1; exact h⟩)

noncomputable def G38 : ((Int × (Int × (Int × (Int × ((List (List Int)) × (Int × (Int × (Bool × Unit)))))))) × ((Int × (Int × (Int × (Int × ((List Int) × Unit))))) × Unit)) → Bool × (((List Int) × (Bool × ((Int × (Int × (Int × (Int × ((List (List Int)) × (Int × (Int × (Bool × Unit)))))))) × (Int × Unit)))) × (Unit × (Unit × Unit))) := toM (ma := M38a) (mo := M38o) (raw38 G33 G34)
theorem fok38 : FnOK Try.prog noG 38 (fnM M38a M38o G38) := ok38 G33 G34 fok33 fok34
theorem G38_of {x0 : Int} {x1 : Int} {x2 : Int} {x3 : Int} {x4 : (List (List Int))} {x5 : Int} {x6 : Int} {x7 : Bool} {x8 : Int} {x9 : Int} {x10 : Int} {x11 : Int} {x12 : (List Int)} {y : (((List Int) × (Bool × ((Int × (Int × (Int × (Int × ((List (List Int)) × (Int × (Int × (Bool × Unit)))))))) × (Int × Unit)))) × (Unit × (Unit × Unit)))} (h : t38 G33 G34 x0 x1 x2 x3 x4 x5 x6 x7 x8 x9 x10 x11 x12 = some y) : G38 ((x0, x1, x2, x3, x4, x5, x6, x7, ()), (x8, x9, x10, x11, x12, ()), ()) = (true, y) := toM_some (ma := M38a) (mo := M38o) h

/-- drawbridgeref01.Number -/
@[reducible] def M57a : Md := (.cons (.ow (.int .u8)) (.cons (.ro (.int .u64)) .nil))
@[reducible] def M57o : Md := (.cons (.ow (.int .u8)) .nil)
noncomputable def cx57 (n : Nat) : Cx := { S := noS, P := Try.prog, gl := noG, hint := [(58, [0, 5, 6])], pin := [], nin := 1, fuel := n }
noncomputable def l57_58_0' (n k : Nat) (v0 : Int) (v1 : List Int) : Option (((List Int) × Unit) × (Unit × (Unit × Unit))) :=
  loopAt (cx57 n) (body 57) (bits 58) [] k { tm := [(0, .hw 1), (5, .nils), (6, .int .u64 v0)], hp := [(1, some (.row (.int .u8) v1))], nx := 2 } (finM Try.prog (fnOf 57) M57a M57o)
noncomputable def l57_58_0 : Nat → Nat → Int → List Int → Option (((List Int) × Unit) × (Unit × (Unit × Unit))) := (sealed l57_58_0').1
theorem l57_58_0_e : l57_58_0' = l57_58_0 := (sealed l57_58_0').2.symm
noncomputable def l57_58_1' (n k : Nat) (v0 : Int) (v1 : List Int) (v2 : List Int) : Option (((List Int) × Unit) × (Unit × (Unit × Unit))) :=
  loopAt (cx57 n) (body 57) (bits 58) [] k { tm := [(0, .hw 1), (5, .hw 2), (6, .int .u64 v0)], hp := [(2, some (.row (.int .u8) v1)), (1, some (.row (.int .u8) v2))], nx := 3 } (finM Try.prog (fnOf 57) M57a M57o)
noncomputable def l57_58_1 : Nat → Nat → Int → List Int → List Int → Option (((List Int) × Unit) × (Unit × (Unit × Unit))) := (sealed l57_58_1').1
theorem l57_58_1_e : l57_58_1' = l57_58_1 := (sealed l57_58_1').2.symm
theorem l57_58_0_s' (n k : Nat) (v0 : Int) (v1 : List Int) : l57_58_0' n (k + 1) v0 v1 =
 (bif (decide (v0 > (0 : Int))) then
 (l57_58_1' n k (IntKind.u64.wrap (Int.tdiv v0 (256 : Int))) [(IntKind.u8.wrap (Int.tmod v0 (256 : Int)))] v1)
 else
 (ck (fits (v1.length + 1) 1)
 (ck (fits ((v1 ++ [(0 : Int)]).length) 1)
 (some (((v1 ++ [(0 : Int)]) ++ [], ()), ((), (), ())))))) := by kernel_rfl
theorem l57_58_0_s (n k : Nat) (v0 : Int) (v1 : List Int) : l57_58_0 n (k + 1) v0 v1 =
 (bif (decide (v0 > (0 : Int))) then
 (l57_58_1 n k (IntKind.u64.wrap (Int.tdiv v0 (256 : Int))) [(IntKind.u8.wrap (Int.tmod v0 (256 : Int)))] v1)
 else
 (ck (fits (v1.length + 1) 1)
 (ck (fits ((v1 ++ [(0 : Int)]).length) 1)
 (some (((v1 ++ [(0 : Int)]) ++ [], ()), ((), (), ())))))) := by
  have h := l57_58_0_s' n k v0 v1
  rw [l57_58_0_e, l57_58_1_e] at h
  exact h
theorem l57_58_0_z' (n : Nat) (v0 : Int) (v1 : List Int) : l57_58_0' n 0 v0 v1 =
 none := by kernel_rfl
theorem l57_58_0_z (n : Nat) (v0 : Int) (v1 : List Int) : l57_58_0 n 0 v0 v1 =
 none := by
  have h := l57_58_0_z' n v0 v1
  rw [l57_58_0_e] at h
  exact h
theorem l57_58_1_s' (n k : Nat) (v0 : Int) (v1 : List Int) (v2 : List Int) : l57_58_1' n (k + 1) v0 v1 v2 =
 (bif (decide (v0 > (0 : Int))) then
 (ck (fits (1 + v1.length) 1)
 (l57_58_1' n k (IntKind.u64.wrap (Int.tdiv v0 (256 : Int))) ([(IntKind.u8.wrap (Int.tmod v0 (256 : Int)))] ++ v1) v2))
 else
 (ck (fits (v2.length + 1) 1)
 (ck (fits ((v2 ++ [(IntKind.u8.wrap (v1.length : Int))]).length + v1.length) 1)
 (some (((v2 ++ [(IntKind.u8.wrap (v1.length : Int))]) ++ v1, ()), ((), (), ())))))) := by kernel_rfl
theorem l57_58_1_s (n k : Nat) (v0 : Int) (v1 : List Int) (v2 : List Int) : l57_58_1 n (k + 1) v0 v1 v2 =
 (bif (decide (v0 > (0 : Int))) then
 (ck (fits (1 + v1.length) 1)
 (l57_58_1 n k (IntKind.u64.wrap (Int.tdiv v0 (256 : Int))) ([(IntKind.u8.wrap (Int.tmod v0 (256 : Int)))] ++ v1) v2))
 else
 (ck (fits (v2.length + 1) 1)
 (ck (fits ((v2 ++ [(IntKind.u8.wrap (v1.length : Int))]).length + v1.length) 1)
 (some (((v2 ++ [(IntKind.u8.wrap (v1.length : Int))]) ++ v1, ()), ((), (), ())))))) := by
  have h := l57_58_1_s' n k v0 v1 v2
  rw [l57_58_1_e] at h
  exact h
theorem l57_58_1_z' (n : Nat) (v0 : Int) (v1 : List Int) (v2 : List Int) : l57_58_1' n 0 v0 v1 v2 =
 none := by kernel_rfl
theorem l57_58_1_z (n : Nat) (v0 : Int) (v1 : List Int) (v2 : List Int) : l57_58_1 n 0 v0 v1 v2 =
 none := by
  have h := l57_58_1_z' n v0 v1 v2
  rw [l57_58_1_e] at h
  exact h
theorem eq57' (n : Nat) (x0 : List Int) (x1 : Int) : runM (cx57 n) (fnOf 57) (body 57) M57a M57o (x0, x1, ()) =
 (l57_58_0' n n x1 x0) := by kernel_rfl
theorem eq57 (n : Nat) (x0 : List Int) (x1 : Int) : runM (cx57 n) (fnOf 57) (body 57) M57a M57o (x0, x1, ()) =
 (l57_58_0 n n x1 x0) := by
  have h := eq57' n x0 x1
  rw [l57_58_0_e] at h
  exact h
theorem ok57 (f : ((List Int) × (Int × Unit)) → Bool × (((List Int) × Unit) × (Unit × (Unit × Unit)))) (hrun : ∀ x, (f x).1 = true → ∃ n, runM (cx57 n) (fnOf 57) (body 57) M57a M57o x = some (f x).2) : FnOK Try.prog noG 57 (fnM M57a M57o f) :=
  fnM_sound (cx57 0) SpecOK.none mixed noG_ok (by kernel_rfl) (by kernel_rfl) (by kernel_rfl) (by kernel_rfl) (by kernel_rfl) (by kernel_rfl) (by kernel_rfl) (fun x h => by obtain ⟨n, hn⟩ := hrun x h; exact ⟨n + 0, hn⟩)

def G57 (x : List Int × (Int × Unit)) : Bool × ((List Int × Unit) × (Unit × (Unit × Unit))) :=
  (decide (0 ≤ x.2.1) && decide (x.2.1 < 18446744073709551616) && decide (x.1.length + 9 ≤ 140737488355328), ((x.1 ++ numB x.2.1, ()), ((), (), ())))
theorem lq57 (n : Nat) (b : List Int) (hb : b.length + 9 ≤ 140737488355328) : ∀ (m k v : Nat) (acc : List Int), v < 256 ^ m → m < k → acc.length + m ≤ 8 →
    l57_58_1 n k v acc b = some ((b ++ ((acc.length + nlf m v : Nat) : Int) :: (be (nlf m v) v ++ acc), ()), ((), (), ())) := by
  have fin : ∀ (k : Nat) (acc : List Int), acc.length ≤ 8 → l57_58_1 n (k + 1) 0 acc b = some ((b ++ ((acc.length : Nat) : Int) :: acc, ()), ((), (), ())) := by
    intro k acc h1
    rw [l57_58_1_s, decide_eq_false (by decide), wrap_u8 (show 0 ≤ (acc.length : Int) by omega) (by omega), show fits (b.length + 1) 1 = true from decide_eq_true (by omega), show fits ((b ++ [(acc.length : Int)]).length + acc.length) 1 = true from decide_eq_true (by rw [List.length_append, List.length_singleton]; omega)]
    simp only [cond_false, ck_true, List.append_assoc, List.singleton_append]
  intro m
  induction m with
  | zero =>
    intro k v acc h1 h2 h3
    obtain ⟨k, rfl⟩ : ∃ m, k = m + 1 := ⟨k - 1, by omega⟩
    obtain rfl : v = 0 := by simpa using h1
    exact fin k acc (by omega)
  | succ m ih =>
    intro k v acc h1 h2 h3
    obtain ⟨k, rfl⟩ : ∃ m, k = m + 1 := ⟨k - 1, by omega⟩
    by_cases hv : v = 0
    · subst hv
      rw [show nlf (m + 1) 0 = 0 from rfl]
      exact fin k acc (by omega)
    · have hp : v < 18446744073709551616 := Nat.lt_of_lt_of_le h1 (Nat.pow_le_pow_right (n := 256) (by omega) (show m + 1 ≤ 8 by omega))
      have e1 : IntKind.u64.wrap (Int.tdiv (v : Int) 256) = ((v / 256 : Nat) : Int) := by
        rw [Int.tdiv_eq_ediv_of_nonneg (by omega), wrap_u64 (by omega) (by omega)]; simp
      have e2 : IntKind.u8.wrap (Int.tmod (v : Int) 256) = ((v % 256 : Nat) : Int) := by
        rw [Int.tmod_eq_emod_of_nonneg (by omega), wrap_u8 (by omega) (by omega)]; simp
      rw [l57_58_1_s, decide_eq_true (show (v : Int) > 0 by omega), e1, e2, show fits (1 + acc.length) 1 = true from decide_eq_true (by omega)]
      simp only [cond_true, ck_true, List.singleton_append]
      rw [ih k (v / 256) _ (by rw [Nat.pow_succ] at h1; omega) (by omega) (by rw [List.length_cons]; omega), nlf, if_neg hv, be_snoc, List.length_cons, show acc.length + 1 + nlf m (v / 256) = acc.length + (nlf m (v / 256) + 1) by omega]
      simp
theorem run57 (x : List Int × (Int × Unit)) (h : (G57 x).1 = true) : ∃ n, runM (cx57 n) (fnOf 57) (body 57) M57a M57o x = some (G57 x).2 := by
  obtain ⟨b, v, ⟨⟩⟩ := x
  simp only [G57, Bool.and_eq_true, decide_eq_true_eq] at h
  obtain ⟨⟨h1, h2⟩, h3⟩ := h
  obtain ⟨v, rfl⟩ : ∃ m : Nat, v = m := ⟨v.toNat, by omega⟩
  refine ⟨20, ?_⟩
  rw [eq57, l57_58_0_s]
  by_cases hv : v = 0
  · subst hv
    rw [decide_eq_false (by decide), show fits (b.length + 1) 1 = true from decide_eq_true (by omega), show fits ((b ++ [(0 : Int)]).length) 1 = true from decide_eq_true (by rw [List.length_append, List.length_singleton]; omega)]
    simp only [cond_false, ck_true, List.append_nil]
    rfl
  · have e1 : IntKind.u64.wrap (Int.tdiv (v : Int) 256) = ((v / 256 : Nat) : Int) := by
      rw [Int.tdiv_eq_ediv_of_nonneg (by omega), wrap_u64 (by omega) (by omega)]; simp
    have e2 : IntKind.u8.wrap (Int.tmod (v : Int) 256) = ((v % 256 : Nat) : Int) := by
      rw [Int.tmod_eq_emod_of_nonneg (by omega), wrap_u8 (by omega) (by omega)]; simp
    rw [decide_eq_true (show (v : Int) > 0 by omega), e1, e2]
    have := lq57 20 b h3 7 19 (v / 256) [((v % 256 : Nat) : Int)] (by omega) (by omega) (by simp)
    refine this.trans ?_
    have e3 : nl v = nlf 7 (v / 256) + 1 := by show nlf 8 v = _; rw [nlf, if_neg hv]
    simp only [G57, numB, Int.toNat_natCast, e3, be_snoc, List.length_singleton]
    rw [Nat.add_comm 1]
theorem number57 (b : List Int) (v : Int) (h : b.length + 9 ≤ 140737488355328) (h0 : 0 ≤ v) (h1 : v < 18446744073709551616) : G57 (b, v, ()) = (true, ((b ++ numB v, ()), ((), (), ()))) := by
  simp [G57, h, h0, h1]

theorem fok57 : FnOK Try.prog noG 57 (fnM M57a M57o G57) := ok57 G57 run57

/-- drawbridgeref01.Block -/
@[reducible] def M58a : Md := (.cons (.ow (.int .u8)) (.cons (.ro (.sl (.int .u8))) .nil))
@[reducible] def M58o : Md := (.cons (.ro (.sl (.int .u8))) (.cons (.ro (.int .i64)) .nil))
noncomputable def cx58 (F57 : ((List Int) × (Int × Unit)) → Bool × (((List Int) × Unit) × (Unit × (Unit × Unit)))) (n : Nat) : Cx := { S := (addV noS 57 (fnM M57a M57o F57)), P := Try.prog, gl := noG, hint := [], pin := [], nin := 1, fuel := n }
def t58 (F57 : ((List Int) × (Int × Unit)) → Bool × (((List Int) × Unit) × (Unit × (Unit × Unit)))) (x0 : List Int) (x1 : (List Int)) : Option (((List Int) × (Int × Unit)) × (Unit × (Unit × Unit))) :=
 (bif (decide ((x1.length : Int) > (1048576 : Int))) then
 (some (([], (3 : Int), ()), ((), (), ())))
 else
 (cl (F57 (x0, (IntKind.u64.wrap (x1.length : Int)), ())) fun r196 =>
 (ck (fits (r196.1.1.length + x1.length) 1)
 (some ((r196.1.1 ++ x1, (0 : Int), ()), ((), (), ()))))))
theorem eq58 (F57 : ((List Int) × (Int × Unit)) → Bool × (((List Int) × Unit) × (Unit × (Unit × Unit)))) (n : Nat) (x0 : List Int) (x1 : (List Int)) : runM (cx58 F57 n) (fnOf 58) (body 58) M58a M58o (x0, x1, ()) = t58 F57 x0 x1 := by kernel_rfl
def raw58 (F57 : ((List Int) × (Int × Unit)) → Bool × (((List Int) × Unit) × (Unit × (Unit × Unit)))) (x : ((List Int) × ((List Int) × Unit))) : Option (((List Int) × (Int × Unit)) × (Unit × (Unit × Unit))) := t58 F57 x.1 x.2.1
theorem ok58 (F57 : ((List Int) × (Int × Unit)) → Bool × (((List Int) × Unit) × (Unit × (Unit × Unit)))) (h57 : FnOK Try.prog noG 57 (fnM M57a M57o F57)) : FnOK Try.prog noG 58 (fnM M58a M58o (toM (ma := M58a) (mo := M58o) (raw58 F57))) :=
  fnM_sound (cx58 F57 0) (SpecOK.addV SpecOK.none h57) mixed noG_ok (by kernel_rfl) (by kernel_rfl) (by kernel_rfl) (by kernel_rfl) (by kernel_rfl) (by kernel_rfl) (by kernel_rfl) (toM_run fun x => ⟨0, by have h := eq58 F57 0 x.1 x.2.1; exact h⟩)

noncomputable def G58 : ((List Int) × ((List Int) × Unit)) → Bool × (((List Int) × (Int × Unit)) × (Unit × (Unit × Unit))) := toM (ma := M58a) (mo := M58o) (raw58 G57)
theorem fok58 : FnOK Try.prog noG 58 (fnM M58a M58o G58) := ok58 G57 fok57
theorem G58_of {x0 : List Int} {x1 : (List Int)} {y : (((List Int) × (Int × Unit)) × (Unit × (Unit × Unit)))} (h : t58 G57 x0 x1 = some y) : G58 (x0, x1, ()) = (true, y) := toM_some (ma := M58a) (mo := M58o) h

/-- drawbridgeref18.PieceBytes -/
@[reducible] def M39a : Md := (.cons (.ro (.cons (.int .u64) (.cons (.int .u64) (.cons (.int .u64) (.cons (.int .u64) (.cons (.sl (.int .u8)) .nil)))))) .nil)
@[reducible] def M39o : Md := (.cons (.ro (.sl (.int .u8))) (.cons (.ro (.int .i64)) .nil))
noncomputable def cx39 (F34 : ((Int × (Int × (Int × (Int × ((List Int) × Unit))))) × Unit) → Bool × ((Int × Unit) × (Unit × Unit))) (F57 : ((List Int) × (Int × Unit)) → Bool × (((List Int) × Unit) × (Unit × (Unit × Unit)))) (F58 : ((List Int) × ((List Int) × Unit)) → Bool × (((List Int) × (Int × Unit)) × (Unit × (Unit × Unit)))) (n : Nat) : Cx := { S := (addV (addV (addV noS 34 (fnM M34a M34o F34)) 57 (fnM M57a M57o F57)) 58 (fnM M58a M58o F58)), P := Try.prog, gl := noG, hint := [], pin := [], nin := 0, fuel := n }
def t39 (F34 : ((Int × (Int × (Int × (Int × ((List Int) × Unit))))) × Unit) → Bool × ((Int × Unit) × (Unit × Unit))) (F57 : ((List Int) × (Int × Unit)) → Bool × (((List Int) × Unit) × (Unit × (Unit × Unit)))) (F58 : ((List Int) × ((List Int) × Unit)) → Bool × (((List Int) × (Int × Unit)) × (Unit × (Unit × Unit)))) (x0 : Int) (x1 : Int) (x2 : Int) (x3 : Int) (x4 : (List Int)) : Option (((List Int) × (Int × Unit)) × (Unit × Unit)) :=
 (cl (F34 ((x0, x1, x2, x3, x4, ()), ())) fun r198 =>
 (bif (r198.1.1 != (0 : Int)) then
 (some (([], r198.1.1, ()), ((), ())))
 else
 (cl (F57 ([], x0, ())) fun r199 =>
 (cl (F57 (r199.1.1, x1, ())) fun r200 =>
 (cl (F57 (r200.1.1, x2, ())) fun r201 =>
 (cl (F57 (r201.1.1, x3, ())) fun r202 =>
 (cl (F58 (r202.1.1, x4, ())) fun r203 =>
 (some ((r203.1.1, (0 : Int), ()), ((), ()))))))))))
theorem eq39 (F34 : ((Int × (Int × (Int × (Int × ((List Int) × Unit))))) × Unit) → Bool × ((Int × Unit) × (Unit × Unit))) (F57 : ((List Int) × (Int × Unit)) → Bool × (((List Int) × Unit) × (Unit × (Unit × Unit)))) (F58 : ((List Int) × ((List Int) × Unit)) → Bool × (((List Int) × (Int × Unit)) × (Unit × (Unit × Unit)))) (n : Nat) (x0 : Int) (x1 : Int) (x2 : Int) (x3 : Int) (x4 : (List Int)) : runM (cx39 F34 F57 F58 n) (fnOf 39) (body 39) M39a M39o ((x0, x1, x2, x3, x4, ()), ()) = t39 F34 F57 F58 x0 x1 x2 x3 x4 := by kernel_rfl
def raw39 (F34 : ((Int × (Int × (Int × (Int × ((List Int) × Unit))))) × Unit) → Bool × ((Int × Unit) × (Unit × Unit))) (F57 : ((List Int) × (Int × Unit)) → Bool × (((List Int) × Unit) × (Unit × (Unit × Unit)))) (F58 : ((List Int) × ((List Int) × Unit)) → Bool × (((List Int) × (Int × Unit)) × (Unit × (Unit × Unit)))) (x : ((Int × (Int × (Int × (Int × ((List Int) × Unit))))) × Unit)) : Option (((List Int) × (Int × Unit)) × (Unit × Unit)) := t39 F34 F57 F58 x.1.1 x.1.2.1 x.1.2.2.1 x.1.2.2.2.1 x.1.2.2.2.2.1
theorem ok39 (F34 : ((Int × (Int × (Int × (Int × ((List Int) × Unit))))) × Unit) → Bool × ((Int × Unit) × (Unit × Unit))) (F57 : ((List Int) × (Int × Unit)) → Bool × (((List Int) × Unit) × (Unit × (Unit × Unit)))) (F58 : ((List Int) × ((List Int) × Unit)) → Bool × (((List Int) × (Int × Unit)) × (Unit × (Unit × Unit)))) (h34 : FnOK Try.prog noG 34 (fnM M34a M34o F34)) (h57 : FnOK Try.prog noG 57 (fnM M57a M57o F57)) (h58 : FnOK Try.prog noG 58 (fnM M58a M58o F58)) : FnOK Try.prog noG 39 (fnM M39a M39o (toM (ma := M39a) (mo := M39o) (raw39 F34 F57 F58))) :=
  fnM_sound (cx39 F34 F57 F58 0) (SpecOK.addV (SpecOK.addV (SpecOK.addV SpecOK.none h34) h57) h58) mixed noG_ok (by kernel_rfl) (by kernel_rfl) (by kernel_rfl) (by kernel_rfl) (by kernel_rfl) (by kernel_rfl) (by kernel_rfl) (toM_run fun x => ⟨0, by have h := eq39 F34 F57 F58 0 x.1.1 x.1.2.1 x.1.2.2.1 x.1.2.2.2.1 x.1.2.2.2.2.1; exact h⟩)

noncomputable def G39 : ((Int × (Int × (Int × (Int × ((List Int) × Unit))))) × Unit) → Bool × (((List Int) × (Int × Unit)) × (Unit × Unit)) := toM (ma := M39a) (mo := M39o) (raw39 G34 G57 G58)
theorem fok39 : FnOK Try.prog noG 39 (fnM M39a M39o G39) := ok39 G34 G57 G58 fok34 fok57 fok58
theorem G39_of {x0 : Int} {x1 : Int} {x2 : Int} {x3 : Int} {x4 : (List Int)} {y : (((List Int) × (Int × Unit)) × (Unit × Unit))} (h : t39 G34 G57 G58 x0 x1 x2 x3 x4 = some y) : G39 ((x0, x1, x2, x3, x4, ()), ()) = (true, y) := toM_some (ma := M39a) (mo := M39o) h

/-- drawbridgeref01.New -/
@[reducible] def M59a : Md := (.cons (.ro (.sl (.int .u8))) .nil)
@[reducible] def M59o : Md := (.cons (.bx (.cons (.ow (.int .u8)) (.cons (.ro (.int .i64)) .nil))) .nil)
noncomputable def cx59 (n : Nat) : Cx := { S := noS, P := Try.prog, gl := noG, hint := [], pin := [], nin := 0, fuel := n }
def t59 (x0 : (List Int)) : Option ((((List Int) × (Int × Unit)) × Unit) × (Unit × Unit)) :=
 (ck (fits (0 + x0.length) 1)
 (some ((([] ++ x0, (0 : Int), ()), ()), ((), ()))))
theorem eq59 (n : Nat) (x0 : (List Int)) : runM (cx59 n) (fnOf 59) (body 59) M59a M59o (x0, ()) = t59 x0 := by kernel_rfl
def raw59 (x : ((List Int) × Unit)) : Option ((((List Int) × (Int × Unit)) × Unit) × (Unit × Unit)) := t59 x.1
theorem ok59 : FnOK Try.prog noG 59 (fnM M59a M59o (toM (ma := M59a) (mo := M59o) (raw59))) :=
  fnM_sound (cx59 0) SpecOK.none mixed noG_ok (by kernel_rfl) (by kernel_rfl) (by kernel_rfl) (by kernel_rfl) (by kernel_rfl) (by kernel_rfl) (by kernel_rfl) (toM_run fun x => ⟨0, by have h := eq59 0 x.1; exact h⟩)

noncomputable def G59 : ((List Int) × Unit) → Bool × ((((List Int) × (Int × Unit)) × Unit) × (Unit × Unit)) := toM (ma := M59a) (mo := M59o) (raw59)
theorem fok59 : FnOK Try.prog noG 59 (fnM M59a M59o G59) := ok59
theorem G59_of {x0 : (List Int)} {y : ((((List Int) × (Int × Unit)) × Unit) × (Unit × Unit))} (h : t59 x0 = some y) : G59 (x0, ()) = (true, y) := toM_some (ma := M59a) (mo := M59o) h

/-- (*drawbridgeref01.Reader).Number -/
@[reducible] def M60a : Md := (.cons (.bx (.cons (.ow (.int .u8)) (.cons (.ro (.int .i64)) .nil))) .nil)
@[reducible] def M60o : Md := (.cons (.ro (.int .u64)) .nil)
noncomputable def cx60 (n : Nat) : Cx := { S := noS, P := Try.prog, gl := noG, hint := [(2042, [0, 3, 4, 5])], pin := [0], nin := 2, fuel := n }
noncomputable def l60_2042_0' (n k : Nat) (v0 : Int) (v1 : Int) (v2 : Int) (v3 : List Int) (v4 : Int) : Option ((Int × Unit) × (((List Int) × (Int × Unit)) × Unit)) :=
  loopAt (cx60 n) (body 60) (bits 2042) [] k { tm := [(0, .ptr 0 0 []), (3, .int .i64 v0), (4, .int .u64 v1), (5, .int .i64 v2)], hp := [(2, some (.row (.int .u8) v3)), (0, some (.box (.cons (.hw 2) (.cons (.int .i64 v4) (.nil)))))], nx := 3 } (finM Try.prog (fnOf 60) M60a M60o)
noncomputable def l60_2042_0 : Nat → Nat → Int → Int → Int → List Int → Int → Option ((Int × Unit) × (((List Int) × (Int × Unit)) × Unit)) := (sealed l60_2042_0').1
theorem l60_2042_0_e : l60_2042_0' = l60_2042_0 := (sealed l60_2042_0').2.symm
theorem l60_2042_0_s' (n k : Nat) (v0 : Int) (v1 : Int) (v2 : Int) (v3 : List Int) (v4 : Int) : l60_2042_0' n (k + 1) v0 v1 v2 v3 v4 =
 (bif (decide (v2 ≤ v0)) then
 (ck (rng v2 v3.length)
 (l60_2042_0' n k v0 (IntKind.u64.wrap ((IntKind.u64.wrap (v1 * (256 : Int))) + (IntKind.u64.wrap (v3.getD v2.toNat (0 : Int))))) (IntKind.i64.wrap (v2 + (1 : Int))) v3 v4))
 else
 (jn (fun (y1115_0 : Bool) =>
 (bif y1115_0 then
 (some (((0 : Int), ()), ((v3, (4 : Int), ()), ())))
 else
 (ck (decide (0 ≤ (IntKind.i64.wrap ((1 : Int) + v0))) && decide ((IntKind.i64.wrap ((1 : Int) + v0)) ≤ ((v3.length : Nat) : Int)))
 (some ((v1, ()), (((v3.drop ((IntKind.i64.wrap ((1 : Int) + v0)).toNat)).take (v3.length - (IntKind.i64.wrap ((1 : Int) + v0)).toNat), v4, ()), ())))))) fun (j1115 : Bool → Option ((Int × Unit) × (((List Int) × (Int × Unit)) × Unit))) =>
 (bif (decide (v0 > (0 : Int))) then
 (ck (rng (1 : Int) v3.length)
 (j1115 ((v3.getD 1 (0 : Int)) == (0 : Int))))
 else
 (j1115 false)))) := by kernel_rfl
theorem l60_2042_0_s (n k : Nat) (v0 : Int) (v1 : Int) (v2 : Int) (v3 : List Int) (v4 : Int) : l60_2042_0 n (k + 1) v0 v1 v2 v3 v4 =
 (bif (decide (v2 ≤ v0)) then
 (ck (rng v2 v3.length)
 (l60_2042_0 n k v0 (IntKind.u64.wrap ((IntKind.u64.wrap (v1 * (256 : Int))) + (IntKind.u64.wrap (v3.getD v2.toNat (0 : Int))))) (IntKind.i64.wrap (v2 + (1 : Int))) v3 v4))
 else
 (jn (fun (y1115_0 : Bool) =>
 (bif y1115_0 then
 (some (((0 : Int), ()), ((v3, (4 : Int), ()), ())))
 else
 (ck (decide (0 ≤ (IntKind.i64.wrap ((1 : Int) + v0))) && decide ((IntKind.i64.wrap ((1 : Int) + v0)) ≤ ((v3.length : Nat) : Int)))
 (some ((v1, ()), (((v3.drop ((IntKind.i64.wrap ((1 : Int) + v0)).toNat)).take (v3.length - (IntKind.i64.wrap ((1 : Int) + v0)).toNat), v4, ()), ())))))) fun (j1115 : Bool → Option ((Int × Unit) × (((List Int) × (Int × Unit)) × Unit))) =>
 (bif (decide (v0 > (0 : Int))) then
 (ck (rng (1 : Int) v3.length)
 (j1115 ((v3.getD 1 (0 : Int)) == (0 : Int))))
 else
 (j1115 false)))) := by
  have h := l60_2042_0_s' n k v0 v1 v2 v3 v4
  rw [l60_2042_0_e] at h
  exact h
theorem l60_2042_0_z' (n : Nat) (v0 : Int) (v1 : Int) (v2 : Int) (v3 : List Int) (v4 : Int) : l60_2042_0' n 0 v0 v1 v2 v3 v4 =
 none := by kernel_rfl
theorem l60_2042_0_z (n : Nat) (v0 : Int) (v1 : Int) (v2 : Int) (v3 : List Int) (v4 : Int) : l60_2042_0 n 0 v0 v1 v2 v3 v4 =
 none := by
  have h := l60_2042_0_z' n v0 v1 v2 v3 v4
  rw [l60_2042_0_e] at h
  exact h
theorem eq60' (n : Nat) (x0 : List Int) (x1 : Int) : runM (cx60 n) (fnOf 60) (body 60) M60a M60o ((x0, x1, ()), ()) =
 (bif (x1 != (0 : Int)) then
 (some (((0 : Int), ()), ((x0, x1, ()), ())))
 else
 (bif ((x0.length : Int) == (0 : Int)) then
 (some (((0 : Int), ()), ((x0, (5 : Int), ()), ())))
 else
 (ck (rng (0 : Int) x0.length)
 (bif (decide ((IntKind.i64.wrap (x0.getD 0 (0 : Int))) > (8 : Int))) then
 (some (((0 : Int), ()), ((x0, (4 : Int), ()), ())))
 else
 (bif (decide ((x0.length : Int) < (IntKind.i64.wrap ((1 : Int) + (IntKind.i64.wrap (x0.getD 0 (0 : Int))))))) then
 (some (((0 : Int), ()), ((x0, (5 : Int), ()), ())))
 else
 (l60_2042_0' n n (IntKind.i64.wrap (x0.getD 0 (0 : Int))) (0 : Int) (1 : Int) x0 x1)))))) := by kernel_rfl
theorem eq60 (n : Nat) (x0 : List Int) (x1 : Int) : runM (cx60 n) (fnOf 60) (body 60) M60a M60o ((x0, x1, ()), ()) =
 (bif (x1 != (0 : Int)) then
 (some (((0 : Int), ()), ((x0, x1, ()), ())))
 else
 (bif ((x0.length : Int) == (0 : Int)) then
 (some (((0 : Int), ()), ((x0, (5 : Int), ()), ())))
 else
 (ck (rng (0 : Int) x0.length)
 (bif (decide ((IntKind.i64.wrap (x0.getD 0 (0 : Int))) > (8 : Int))) then
 (some (((0 : Int), ()), ((x0, (4 : Int), ()), ())))
 else
 (bif (decide ((x0.length : Int) < (IntKind.i64.wrap ((1 : Int) + (IntKind.i64.wrap (x0.getD 0 (0 : Int))))))) then
 (some (((0 : Int), ()), ((x0, (5 : Int), ()), ())))
 else
 (l60_2042_0 n n (IntKind.i64.wrap (x0.getD 0 (0 : Int))) (0 : Int) (1 : Int) x0 x1)))))) := by
  have h := eq60' n x0 x1
  rw [l60_2042_0_e] at h
  exact h
theorem ok60 (f : (((List Int) × (Int × Unit)) × Unit) → Bool × ((Int × Unit) × (((List Int) × (Int × Unit)) × Unit))) (hrun : ∀ x, (f x).1 = true → ∃ n, runM (cx60 n) (fnOf 60) (body 60) M60a M60o x = some (f x).2) : FnOK Try.prog noG 60 (fnM M60a M60o f) :=
  fnM_sound (cx60 0) SpecOK.none mixed noG_ok (by kernel_rfl) (by kernel_rfl) (by kernel_rfl) (by kernel_rfl) (by kernel_rfl) (by kernel_rfl) (by kernel_rfl) (fun x h => by obtain ⟨n, hn⟩ := hrun x h; exact ⟨n + 0, hn⟩)

def G60 (x : (List Int × (Int × Unit)) × Unit) : Bool × ((Int × Unit) × ((List Int × (Int × Unit)) × Unit)) :=
  (okB x.1.1 && decide (x.1.1.length < 9223372036854775807), (((st (x.1.1, x.1.2.1)).1, ()), (((st (x.1.1, x.1.2.1)).2.1, (st (x.1.1, x.1.2.1)).2.2, ()), ())))
theorem lp60 (n c : Nat) (t : List Int) (hc : c ≤ t.length) (hc8 : c ≤ 8) (ht : okB t = true) (ht2 : t.length < 9223372036854775807) (a e : Int) : ∀ (k i v : Nat), i ≤ c → c - i < k → v < 256 ^ i →
    l60_2042_0 n k c v ((i + 1 : Nat) : Int) (a :: t) e = if 0 < c ∧ t.getD 0 0 = 0 then some ((0, ()), ((a :: t, 4, ()), ())) else some ((unF v ((t.drop i).take (c - i)), ()), ((t.drop c, e, ()), ())) := by
  intro k
  induction k with
  | zero => intro i v h1 h2; omega
  | succ k ih =>
    intro i v h1 h2 h3
    rw [l60_2042_0_s]
    by_cases hi : i < c
    · have hg := okB_get ht i
      have hp : (256 : Nat) ^ (i + 1) ≤ 256 ^ 8 := Nat.pow_le_pow_right (by omega) (by omega)
      have hq : (256 : Nat) ^ i ≤ 256 ^ 7 := Nat.pow_le_pow_right (by omega) (by omega)
      have e8 : (256 : Nat) ^ 7 = 2 ^ 56 := by decide
      have hcons : ((t.drop i).take (c - i)) = t.getD i 0 :: ((t.drop (i + 1)).take (c - (i + 1))) := by
        rw [drop_get t 0 i (by omega), show c - i = (c - (i + 1)) + 1 by omega, List.take_succ_cons]
      rw [decide_eq_true (show ((i + 1 : Nat) : Int) ≤ c by omega), show rng ((i + 1 : Nat) : Int) (a :: t).length = true from rng_ok (by omega) (by rw [List.length_cons]; omega)]
      simp only [cond_true, ck_true]
      rw [Int.toNat_natCast, List.getD_cons_succ, wrap_i64 (show -9223372036854775808 ≤ ((i + 1 : Nat) : Int) + 1 by omega) (by omega)]
      rw [hcons, unF_cons]
      have hih := ih (i + 1)
      generalize t.getD i 0 = d at hg
      obtain ⟨d, rfl⟩ : ∃ q : Nat, d = q := ⟨d.toNat, by omega⟩
      rw [wrap_u64 (show 0 ≤ (v : Int) * 256 by omega) (by omega), wrap_u64 (show 0 ≤ (d : Int) by omega) (by omega), wrap_u64 (show 0 ≤ (v : Int) * 256 + d by omega) (by omega)]
      have := hih (v * 256 + d) (by omega) (by omega) (by rw [Nat.pow_succ]; omega)
      exact this
    · obtain rfl : i = c := by omega
      rw [decide_eq_false (show ¬ ((i + 1 : Nat) : Int) ≤ i by omega)]
      simp only [cond_false, jn]
      by_cases c3 : 0 < i
      · rw [decide_eq_true (show (i : Int) > 0 by omega), show rng 1 (a :: t).length = true from rng_ok (by omega) (by rw [List.length_cons]; omega), show (a :: t).getD 1 0 = t.getD 0 0 from rfl]
        simp only [cond_true, ck_true]
        by_cases c4 : t.getD 0 0 = 0
        · rw [if_pos ⟨c3, c4⟩, c4]; rfl
        · rw [if_neg (fun hh => c4 hh.2), show (t.getD 0 0 == 0) = false by simpa using c4]
          rw [wrap_i64 (show -9223372036854775808 ≤ 1 + (i : Int) by omega) (by omega), decide_eq_true (show 0 ≤ 1 + (i : Int) by omega), decide_eq_true (show 1 + (i : Int) ≤ (((a :: t).length : Nat) : Int) by rw [List.length_cons]; omega)]
          simp only [cond_false, ck_true, Bool.and_true, Nat.sub_self, List.take_zero]
          rw [show (1 + (i : Int)).toNat = i + 1 by omega, List.drop_succ_cons, List.length_cons, List.take_of_length_le (by simp)]
          rfl
      · rw [decide_eq_false (show ¬ (i : Int) > 0 by omega), if_neg (fun hh => c3 hh.1)]
        rw [wrap_i64 (show -9223372036854775808 ≤ 1 + (i : Int) by omega) (by omega), decide_eq_true (show 0 ≤ 1 + (i : Int) by omega), decide_eq_true (show 1 + (i : Int) ≤ (((a :: t).length : Nat) : Int) by rw [List.length_cons]; omega)]
        simp only [cond_false, ck_true, Bool.and_true, Nat.sub_self, List.take_zero]
        rw [show (1 + (i : Int)).toNat = i + 1 by omega, List.drop_succ_cons, List.length_cons, List.take_of_length_le (by simp)]
        rfl
theorem run60 (x : (List Int × (Int × Unit)) × Unit) (h : (G60 x).1 = true) : ∃ n, runM (cx60 n) (fnOf 60) (body 60) M60a M60o x = some (G60 x).2 := by
  obtain ⟨⟨b, e, ⟨⟩⟩, ⟨⟩⟩ := x
  simp only [G60, Bool.and_eq_true, decide_eq_true_eq] at h ⊢
  obtain ⟨h1, h2⟩ := h
  refine ⟨20, ?_⟩
  rw [eq60, st]
  by_cases he : e = 0
  case neg =>
    rw [show (e != 0) = true by simpa using he, if_neg he]
    rfl
  subst he
  rw [if_pos rfl]
  cases b with
  | nil => rfl
  | cons a t =>
    obtain ⟨⟨a1, a2⟩, ht⟩ := okB_cons.1 h1
    have h3 : t.length + 1 < 9223372036854775807 := by simpa using h2
    rw [rdN_cons]
    simp only [List.getD_cons_zero]
    rw [wrap_i64 (show -9223372036854775808 ≤ a by omega) (by omega), wrap_i64 (show -9223372036854775808 ≤ 1 + a by omega) (by omega)]
    have c0 : ¬ (((a :: t).length : Int) = 0) := by rw [List.length_cons]; omega
    have r0 : rng 0 (a :: t).length = true := rng_ok (by omega) (by rw [List.length_cons]; omega)
    simp only [bne_self_eq_false, cond_false, show (((a :: t).length : Int) == 0) = false by simpa using c0, r0, ck_true]
    by_cases c1 : 8 < a
    · rw [if_pos c1, decide_eq_true (show a > 8 by omega)]
      rfl
    rw [if_neg c1, decide_eq_false (show ¬ a > 8 by omega)]
    by_cases c2 : (t.length : Int) < a
    · rw [if_pos c2, decide_eq_true (show ((a :: t).length : Int) < 1 + a by rw [List.length_cons]; omega)]
      rfl
    rw [if_neg c2, decide_eq_false (show ¬ ((a :: t).length : Int) < 1 + a by rw [List.length_cons]; omega)]
    obtain ⟨c, rfl⟩ : ∃ q : Nat, a = q := ⟨a.toNat, by omega⟩
    have hfin := lp60 20 c t (by omega) (by omega) ht (by omega) c 0 20 0 0 (by omega) (by omega) (by simp)
    refine hfin.trans ?_
    by_cases c4 : 0 < c ∧ t.getD 0 0 = 0
    · rw [if_pos c4, if_pos (show 0 < (c : Int) ∧ t.getD 0 0 = 0 from ⟨by omega, c4.2⟩)]
    · rw [if_neg c4, if_neg (show ¬ (0 < (c : Int) ∧ t.getD 0 0 = 0) from fun hh => c4 ⟨by omega, hh.2⟩)]
      rfl
theorem st60 (b : List Int) (e : Int) (h : okB b = true) (h2 : b.length < 9223372036854775807) : G60 ((b, e, ()), ()) = (true, (((st (b, e)).1, ()), (((st (b, e)).2.1, (st (b, e)).2.2, ()), ()))) := by
  simp only [G60, h, decide_eq_true h2, Bool.and_self]

theorem fok60 : FnOK Try.prog noG 60 (fnM M60a M60o G60) := ok60 G60 run60

/-- (*drawbridgeref01.Reader).Upto -/
@[reducible] def M68a : Md := (.cons (.bx (.cons (.ow (.int .u8)) (.cons (.ro (.int .i64)) .nil))) (.cons (.ro (.int .u64)) .nil))
@[reducible] def M68o : Md := (.cons (.ro (.int .u64)) .nil)
noncomputable def cx68 (F60 : (((List Int) × (Int × Unit)) × Unit) → Bool × ((Int × Unit) × (((List Int) × (Int × Unit)) × Unit))) (n : Nat) : Cx := { S := (addV noS 60 (fnM M60a M60o F60)), P := Try.prog, gl := noG, hint := [], pin := [0], nin := 2, fuel := n }
def t68 (F60 : (((List Int) × (Int × Unit)) × Unit) → Bool × ((Int × Unit) × (((List Int) × (Int × Unit)) × Unit))) (x0 : List Int) (x1 : Int) (x2 : Int) : Option ((Int × Unit) × (((List Int) × (Int × Unit)) × (Unit × Unit))) :=
 (cl (F60 ((x0, x1, ()), ())) fun r213 =>
 (jn (fun (y1133_0 : Int) =>
 (bif (y1133_0 != (0 : Int)) then
 (some (((0 : Int), ()), ((r213.2.1.1, y1133_0, ()), (), ())))
 else
 (some ((r213.1.1, ()), ((r213.2.1.1, y1133_0, ()), (), ()))))) fun (j1133 : Int → Option ((Int × Unit) × (((List Int) × (Int × Unit)) × (Unit × Unit)))) =>
 (jn (fun (y1134_0 : Bool) =>
 (bif y1134_0 then
 (j1133 (3 : Int))
 else
 (j1133 r213.2.1.2.1))) fun (j1134 : Bool → Option ((Int × Unit) × (((List Int) × (Int × Unit)) × (Unit × Unit)))) =>
 (bif (r213.2.1.2.1 == (0 : Int)) then
 (j1134 (decide (r213.1.1 > x2)))
 else
 (j1134 false)))))
theorem eq68 (F60 : (((List Int) × (Int × Unit)) × Unit) → Bool × ((Int × Unit) × (((List Int) × (Int × Unit)) × Unit))) (n : Nat) (x0 : List Int) (x1 : Int) (x2 : Int) : runM (cx68 F60 n) (fnOf 68) (body 68) M68a M68o ((x0, x1, ()), x2, ()) = t68 F60 x0 x1 x2 := by kernel_rfl
def raw68 (F60 : (((List Int) × (Int × Unit)) × Unit) → Bool × ((Int × Unit) × (((List Int) × (Int × Unit)) × Unit))) (x : (((List Int) × (Int × Unit)) × (Int × Unit))) : Option ((Int × Unit) × (((List Int) × (Int × Unit)) × (Unit × Unit))) := t68 F60 x.1.1 x.1.2.1 x.2.1
theorem ok68 (F60 : (((List Int) × (Int × Unit)) × Unit) → Bool × ((Int × Unit) × (((List Int) × (Int × Unit)) × Unit))) (h60 : FnOK Try.prog noG 60 (fnM M60a M60o F60)) : FnOK Try.prog noG 68 (fnM M68a M68o (toM (ma := M68a) (mo := M68o) (raw68 F60))) :=
  fnM_sound (cx68 F60 0) (SpecOK.addV SpecOK.none h60) mixed noG_ok (by kernel_rfl) (by kernel_rfl) (by kernel_rfl) (by kernel_rfl) (by kernel_rfl) (by kernel_rfl) (by kernel_rfl) (toM_run fun x => ⟨0, by have h := eq68 F60 0 x.1.1 x.1.2.1 x.2.1; exact h⟩)

noncomputable def G68 : (((List Int) × (Int × Unit)) × (Int × Unit)) → Bool × ((Int × Unit) × (((List Int) × (Int × Unit)) × (Unit × Unit))) := toM (ma := M68a) (mo := M68o) (raw68 G60)
theorem fok68 : FnOK Try.prog noG 68 (fnM M68a M68o G68) := ok68 G60 fok60
theorem G68_of {x0 : List Int} {x1 : Int} {x2 : Int} {y : ((Int × Unit) × (((List Int) × (Int × Unit)) × (Unit × Unit)))} (h : t68 G60 x0 x1 x2 = some y) : G68 ((x0, x1, ()), x2, ()) = (true, y) := toM_some (ma := M68a) (mo := M68o) h

/-- (*drawbridgeref01.Reader).Fixed -/
@[reducible] def M69a : Md := (.cons (.bx (.cons (.ow (.int .u8)) (.cons (.ro (.int .i64)) .nil))) (.cons (.ro (.int .i64)) .nil))
@[reducible] def M69o : Md := (.cons (.ro (.sl (.int .u8))) .nil)
noncomputable def cx69 (n : Nat) : Cx := { S := noS, P := Try.prog, gl := noG, hint := [], pin := [0], nin := 2, fuel := n }
def t69 (x0 : List Int) (x1 : Int) (x2 : Int) : Option (((List Int) × Unit) × (((List Int) × (Int × Unit)) × (Unit × Unit))) :=
 (bif (x1 != (0 : Int)) then
 (some (([], ()), ((x0, x1, ()), (), ())))
 else
 (bif (decide ((if x2 > (0 : Int) then x2 else (0 : Int)) > (x0.length : Int))) then
 (some (([], ()), ((x0, (5 : Int), ()), (), ())))
 else
 (ck ((decide (0 ≤ (if x2 > (0 : Int) then x2 else (0 : Int))) && decide ((if x2 > (0 : Int) then x2 else (0 : Int)) ≤ ((x0.length : Nat) : Int))) && true)
 (ck (fits (0 + ((x0.drop 0).take ((if x2 > (0 : Int) then x2 else (0 : Int)).toNat)).length) 1)
 (ck (decide (0 ≤ (if x2 > (0 : Int) then x2 else (0 : Int))) && decide ((if x2 > (0 : Int) then x2 else (0 : Int)) ≤ ((x0.length : Nat) : Int)))
 (some (([] ++ ((x0.drop 0).take ((if x2 > (0 : Int) then x2 else (0 : Int)).toNat)), ()), (((x0.drop ((if x2 > (0 : Int) then x2 else (0 : Int)).toNat)).take (x0.length - (if x2 > (0 : Int) then x2 else (0 : Int)).toNat), x1, ()), (), ()))))))))
theorem eq69 (n : Nat) (x0 : List Int) (x1 : Int) (x2 : Int) : runM (cx69 n) (fnOf 69) (body 69) M69a M69o ((x0, x1, ()), x2, ()) = t69 x0 x1 x2 := by kernel_rfl
def raw69 (x : (((List Int) × (Int × Unit)) × (Int × Unit))) : Option (((List Int) × Unit) × (((List Int) × (Int × Unit)) × (Unit × Unit))) := t69 x.1.1 x.1.2.1 x.2.1
theorem ok69 : FnOK Try.prog noG 69 (fnM M69a M69o (toM (ma := M69a) (mo := M69o) (raw69))) :=
  fnM_sound (cx69 0) SpecOK.none mixed noG_ok (by kernel_rfl) (by kernel_rfl) (by kernel_rfl) (by kernel_rfl) (by kernel_rfl) (by kernel_rfl) (by kernel_rfl) (toM_run fun x => ⟨0, by have h := eq69 0 x.1.1 x.1.2.1 x.2.1; exact h⟩)

noncomputable def G69 : (((List Int) × (Int × Unit)) × (Int × Unit)) → Bool × (((List Int) × Unit) × (((List Int) × (Int × Unit)) × (Unit × Unit))) := toM (ma := M69a) (mo := M69o) (raw69)
theorem fok69 : FnOK Try.prog noG 69 (fnM M69a M69o G69) := ok69
theorem G69_of {x0 : List Int} {x1 : Int} {x2 : Int} {y : (((List Int) × Unit) × (((List Int) × (Int × Unit)) × (Unit × Unit)))} (h : t69 x0 x1 x2 = some y) : G69 ((x0, x1, ()), x2, ()) = (true, y) := toM_some (ma := M69a) (mo := M69o) h

/-- (*drawbridgeref01.Reader).Block -/
@[reducible] def M61a : Md := (.cons (.bx (.cons (.ow (.int .u8)) (.cons (.ro (.int .i64)) .nil))) .nil)
@[reducible] def M61o : Md := (.cons (.ro (.sl (.int .u8))) .nil)
noncomputable def cx61 (F68 : (((List Int) × (Int × Unit)) × (Int × Unit)) → Bool × ((Int × Unit) × (((List Int) × (Int × Unit)) × (Unit × Unit)))) (F69 : (((List Int) × (Int × Unit)) × (Int × Unit)) → Bool × (((List Int) × Unit) × (((List Int) × (Int × Unit)) × (Unit × Unit)))) (n : Nat) : Cx := { S := (addV (addV noS 68 (fnM M68a M68o F68)) 69 (fnM M69a M69o F69)), P := Try.prog, gl := noG, hint := [], pin := [0], nin := 2, fuel := n }
def t61 (F68 : (((List Int) × (Int × Unit)) × (Int × Unit)) → Bool × ((Int × Unit) × (((List Int) × (Int × Unit)) × (Unit × Unit)))) (F69 : (((List Int) × (Int × Unit)) × (Int × Unit)) → Bool × (((List Int) × Unit) × (((List Int) × (Int × Unit)) × (Unit × Unit)))) (x0 : List Int) (x1 : Int) : Option (((List Int) × Unit) × (((List Int) × (Int × Unit)) × Unit)) :=
 (cl (F68 ((x0, x1, ()), (1048576 : Int), ())) fun r216 =>
 (cl (F69 ((r216.2.1.1, r216.2.1.2.1, ()), (IntKind.i64.wrap r216.1.1), ())) fun r217 =>
 (some ((r217.1.1, ()), ((r217.2.1.1, r217.2.1.2.1, ()), ())))))
theorem eq61 (F68 : (((List Int) × (Int × Unit)) × (Int × Unit)) → Bool × ((Int × Unit) × (((List Int) × (Int × Unit)) × (Unit × Unit)))) (F69 : (((List Int) × (Int × Unit)) × (Int × Unit)) → Bool × (((List Int) × Unit) × (((List Int) × (Int × Unit)) × (Unit × Unit)))) (n : Nat) (x0 : List Int) (x1 : Int) : runM (cx61 F68 F69 n) (fnOf 61) (body 61) M61a M61o ((x0, x1, ()), ()) = t61 F68 F69 x0 x1 := by kernel_rfl
def raw61 (F68 : (((List Int) × (Int × Unit)) × (Int × Unit)) → Bool × ((Int × Unit) × (((List Int) × (Int × Unit)) × (Unit × Unit)))) (F69 : (((List Int) × (Int × Unit)) × (Int × Unit)) → Bool × (((List Int) × Unit) × (((List Int) × (Int × Unit)) × (Unit × Unit)))) (x : (((List Int) × (Int × Unit)) × Unit)) : Option (((List Int) × Unit) × (((List Int) × (Int × Unit)) × Unit)) := t61 F68 F69 x.1.1 x.1.2.1
theorem ok61 (F68 : (((List Int) × (Int × Unit)) × (Int × Unit)) → Bool × ((Int × Unit) × (((List Int) × (Int × Unit)) × (Unit × Unit)))) (F69 : (((List Int) × (Int × Unit)) × (Int × Unit)) → Bool × (((List Int) × Unit) × (((List Int) × (Int × Unit)) × (Unit × Unit)))) (h68 : FnOK Try.prog noG 68 (fnM M68a M68o F68)) (h69 : FnOK Try.prog noG 69 (fnM M69a M69o F69)) : FnOK Try.prog noG 61 (fnM M61a M61o (toM (ma := M61a) (mo := M61o) (raw61 F68 F69))) :=
  fnM_sound (cx61 F68 F69 0) (SpecOK.addV (SpecOK.addV SpecOK.none h68) h69) mixed noG_ok (by kernel_rfl) (by kernel_rfl) (by kernel_rfl) (by kernel_rfl) (by kernel_rfl) (by kernel_rfl) (by kernel_rfl) (toM_run fun x => ⟨0, by have h := eq61 F68 F69 0 x.1.1 x.1.2.1; exact h⟩)

noncomputable def G61 : (((List Int) × (Int × Unit)) × Unit) → Bool × (((List Int) × Unit) × (((List Int) × (Int × Unit)) × Unit)) := toM (ma := M61a) (mo := M61o) (raw61 G68 G69)
theorem fok61 : FnOK Try.prog noG 61 (fnM M61a M61o G61) := ok61 G68 G69 fok68 fok69
theorem G61_of {x0 : List Int} {x1 : Int} {y : (((List Int) × Unit) × (((List Int) × (Int × Unit)) × Unit))} (h : t61 G68 G69 x0 x1 = some y) : G61 ((x0, x1, ()), ()) = (true, y) := toM_some (ma := M61a) (mo := M61o) h

/-- (*drawbridgeref01.Reader).End -/
@[reducible] def M62a : Md := (.cons (.bx (.cons (.ow (.int .u8)) (.cons (.ro (.int .i64)) .nil))) .nil)
@[reducible] def M62o : Md := (.cons (.ro (.int .i64)) .nil)
noncomputable def cx62 (n : Nat) : Cx := { S := noS, P := Try.prog, gl := noG, hint := [], pin := [0], nin := 2, fuel := n }
def t62 (x0 : List Int) (x1 : Int) : Option ((Int × Unit) × (((List Int) × (Int × Unit)) × Unit)) :=
 (jn (fun (y1176_0 : Int) =>
 (some ((y1176_0, ()), ((x0, y1176_0, ()), ())))) fun (j1176 : Int → Option ((Int × Unit) × (((List Int) × (Int × Unit)) × Unit))) =>
 (jn (fun (y1177_0 : Bool) =>
 (bif y1177_0 then
 (j1176 (4 : Int))
 else
 (j1176 x1))) fun (j1177 : Bool → Option ((Int × Unit) × (((List Int) × (Int × Unit)) × Unit))) =>
 (bif (x1 == (0 : Int)) then
 (j1177 (decide ((x0.length : Int) > (0 : Int))))
 else
 (j1177 false))))
theorem eq62 (n : Nat) (x0 : List Int) (x1 : Int) : runM (cx62 n) (fnOf 62) (body 62) M62a M62o ((x0, x1, ()), ()) = t62 x0 x1 := by kernel_rfl
def raw62 (x : (((List Int) × (Int × Unit)) × Unit)) : Option ((Int × Unit) × (((List Int) × (Int × Unit)) × Unit)) := t62 x.1.1 x.1.2.1
theorem ok62 : FnOK Try.prog noG 62 (fnM M62a M62o (toM (ma := M62a) (mo := M62o) (raw62))) :=
  fnM_sound (cx62 0) SpecOK.none mixed noG_ok (by kernel_rfl) (by kernel_rfl) (by kernel_rfl) (by kernel_rfl) (by kernel_rfl) (by kernel_rfl) (by kernel_rfl) (toM_run fun x => ⟨0, by have h := eq62 0 x.1.1 x.1.2.1; exact h⟩)

noncomputable def G62 : (((List Int) × (Int × Unit)) × Unit) → Bool × ((Int × Unit) × (((List Int) × (Int × Unit)) × Unit)) := toM (ma := M62a) (mo := M62o) (raw62)
theorem fok62 : FnOK Try.prog noG 62 (fnM M62a M62o G62) := ok62
theorem G62_of {x0 : List Int} {x1 : Int} {y : ((Int × Unit) × (((List Int) × (Int × Unit)) × Unit))} (h : t62 x0 x1 = some y) : G62 ((x0, x1, ()), ()) = (true, y) := toM_some (ma := M62a) (mo := M62o) h

/-- drawbridgeref18.ReadPiece -/
@[reducible] def M40a : Md := (.cons (.ro (.sl (.int .u8))) .nil)
@[reducible] def M40o : Md := (.cons (.ro (.cons (.int .u64) (.cons (.int .u64) (.cons (.int .u64) (.cons (.int .u64) (.cons (.sl (.int .u8)) .nil)))))) (.cons (.ro (.int .i64)) .nil))
noncomputable def cx40 (F34 : ((Int × (Int × (Int × (Int × ((List Int) × Unit))))) × Unit) → Bool × ((Int × Unit) × (Unit × Unit))) (F59 : ((List Int) × Unit) → Bool × ((((List Int) × (Int × Unit)) × Unit) × (Unit × Unit))) (F60 : (((List Int) × (Int × Unit)) × Unit) → Bool × ((Int × Unit) × (((List Int) × (Int × Unit)) × Unit))) (F61 : (((List Int) × (Int × Unit)) × Unit) → Bool × (((List Int) × Unit) × (((List Int) × (Int × Unit)) × Unit))) (F62 : (((List Int) × (Int × Unit)) × Unit) → Bool × ((Int × Unit) × (((List Int) × (Int × Unit)) × Unit))) (n : Nat) : Cx := { S := (addV (addV (addV (addV (addV noS 34 (fnM M34a M34o F34)) 59 (fnM M59a M59o F59)) 60 (fnM M60a M60o F60)) 61 (fnM M61a M61o F61)) 62 (fnM M62a M62o F62)), P := Try.prog, gl := noG, hint := [], pin := [], nin := 0, fuel := n }
def t40 (F34 : ((Int × (Int × (Int × (Int × ((List Int) × Unit))))) × Unit) → Bool × ((Int × Unit) × (Unit × Unit))) (F59 : ((List Int) × Unit) → Bool × ((((List Int) × (Int × Unit)) × Unit) × (Unit × Unit))) (F60 : (((List Int) × (Int × Unit)) × Unit) → Bool × ((Int × Unit) × (((List Int) × (Int × Unit)) × Unit))) (F61 : (((List Int) × (Int × Unit)) × Unit) → Bool × (((List Int) × Unit) × (((List Int) × (Int × Unit)) × Unit))) (F62 : (((List Int) × (Int × Unit)) × Unit) → Bool × ((Int × Unit) × (((List Int) × (Int × Unit)) × Unit))) (x0 : (List Int)) : Option (((Int × (Int × (Int × (Int × ((List Int) × Unit))))) × (Int × Unit)) × (Unit × Unit)) :=
 (cl (F59 (x0, ())) fun r221 =>
 (cl (F60 ((r221.1.1.1, r221.1.1.2.1, ()), ())) fun r222 =>
 (cl (F60 ((r222.2.1.1, r222.2.1.2.1, ()), ())) fun r223 =>
 (cl (F60 ((r223.2.1.1, r223.2.1.2.1, ()), ())) fun r224 =>
 (cl (F60 ((r224.2.1.1, r224.2.1.2.1, ()), ())) fun r225 =>
 (cl (F61 ((r225.2.1.1, r225.2.1.2.1, ()), ())) fun r226 =>
 (jn (fun (y1185_0 : Bool) =>
 (bif y1185_0 then
 (some ((((0 : Int), (0 : Int), (0 : Int), (0 : Int), [], ()), (4 : Int), ()), ((), ())))
 else
 (some (((r222.1.1, r223.1.1, r224.1.1, r225.1.1, r226.1.1, ()), (0 : Int), ()), ((), ()))))) fun (j1185 : Bool → Option (((Int × (Int × (Int × (Int × ((List Int) × Unit))))) × (Int × Unit)) × (Unit × Unit))) =>
 (cl (F62 ((r226.2.1.1, r226.2.1.2.1, ()), ())) fun r227 =>
 (bif (r227.1.1 != (0 : Int)) then
 (j1185 true)
 else
 (cl (F34 ((r222.1.1, r223.1.1, r224.1.1, r225.1.1, r226.1.1, ()), ())) fun r228 =>
 (j1185 (r228.1.1 != (0 : Int)))))))))))))
theorem eq40 (F34 : ((Int × (Int × (Int × (Int × ((List Int) × Unit))))) × Unit) → Bool × ((Int × Unit) × (Unit × Unit))) (F59 : ((List Int) × Unit) → Bool × ((((List Int) × (Int × Unit)) × Unit) × (Unit × Unit))) (F60 : (((List Int) × (Int × Unit)) × Unit) → Bool × ((Int × Unit) × (((List Int) × (Int × Unit)) × Unit))) (F61 : (((List Int) × (Int × Unit)) × Unit) → Bool × (((List Int) × Unit) × (((List Int) × (Int × Unit)) × Unit))) (F62 : (((List Int) × (Int × Unit)) × Unit) → Bool × ((Int × Unit) × (((List Int) × (Int × Unit)) × Unit))) (n : Nat) (x0 : (List Int)) : runM (cx40 F34 F59 F60 F61 F62 n) (fnOf 40) (body 40) M40a M40o (x0, ()) = t40 F34 F59 F60 F61 F62 x0 := by kernel_rfl
def raw40 (F34 : ((Int × (Int × (Int × (Int × ((List Int) × Unit))))) × Unit) → Bool × ((Int × Unit) × (Unit × Unit))) (F59 : ((List Int) × Unit) → Bool × ((((List Int) × (Int × Unit)) × Unit) × (Unit × Unit))) (F60 : (((List Int) × (Int × Unit)) × Unit) → Bool × ((Int × Unit) × (((List Int) × (Int × Unit)) × Unit))) (F61 : (((List Int) × (Int × Unit)) × Unit) → Bool × (((List Int) × Unit) × (((List Int) × (Int × Unit)) × Unit))) (F62 : (((List Int) × (Int × Unit)) × Unit) → Bool × ((Int × Unit) × (((List Int) × (Int × Unit)) × Unit))) (x : ((List Int) × Unit)) : Option (((Int × (Int × (Int × (Int × ((List Int) × Unit))))) × (Int × Unit)) × (Unit × Unit)) := t40 F34 F59 F60 F61 F62 x.1
theorem ok40 (F34 : ((Int × (Int × (Int × (Int × ((List Int) × Unit))))) × Unit) → Bool × ((Int × Unit) × (Unit × Unit))) (F59 : ((List Int) × Unit) → Bool × ((((List Int) × (Int × Unit)) × Unit) × (Unit × Unit))) (F60 : (((List Int) × (Int × Unit)) × Unit) → Bool × ((Int × Unit) × (((List Int) × (Int × Unit)) × Unit))) (F61 : (((List Int) × (Int × Unit)) × Unit) → Bool × (((List Int) × Unit) × (((List Int) × (Int × Unit)) × Unit))) (F62 : (((List Int) × (Int × Unit)) × Unit) → Bool × ((Int × Unit) × (((List Int) × (Int × Unit)) × Unit))) (h34 : FnOK Try.prog noG 34 (fnM M34a M34o F34)) (h59 : FnOK Try.prog noG 59 (fnM M59a M59o F59)) (h60 : FnOK Try.prog noG 60 (fnM M60a M60o F60)) (h61 : FnOK Try.prog noG 61 (fnM M61a M61o F61)) (h62 : FnOK Try.prog noG 62 (fnM M62a M62o F62)) : FnOK Try.prog noG 40 (fnM M40a M40o (toM (ma := M40a) (mo := M40o) (raw40 F34 F59 F60 F61 F62))) :=
  fnM_sound (cx40 F34 F59 F60 F61 F62 0) (SpecOK.addV (SpecOK.addV (SpecOK.addV (SpecOK.addV (SpecOK.addV SpecOK.none h34) h59) h60) h61) h62) mixed noG_ok (by kernel_rfl) (by kernel_rfl) (by kernel_rfl) (by kernel_rfl) (by kernel_rfl) (by kernel_rfl) (by kernel_rfl) (toM_run fun x => ⟨0, by have h := eq40 F34 F59 F60 F61 F62 0 x.1; exact h⟩)

noncomputable def G40 : ((List Int) × Unit) → Bool × (((Int × (Int × (Int × (Int × ((List Int) × Unit))))) × (Int × Unit)) × (Unit × Unit)) := toM (ma := M40a) (mo := M40o) (raw40 G34 G59 G60 G61 G62)
theorem fok40 : FnOK Try.prog noG 40 (fnM M40a M40o G40) := ok40 G34 G59 G60 G61 G62 fok34 fok59 fok60 fok61 fok62
theorem G40_of {x0 : (List Int)} {y : (((Int × (Int × (Int × (Int × ((List Int) × Unit))))) × (Int × Unit)) × (Unit × Unit))} (h : t40 G34 G59 G60 G61 G62 x0 = some y) : G40 (x0, ()) = (true, y) := toM_some (ma := M40a) (mo := M40o) h

/-- slices.Equal[[]byte,byte] -/
@[reducible] def M53a : Md := (.cons (.ro (.sl (.int .u8))) (.cons (.ro (.sl (.int .u8))) .nil))
@[reducible] def M53o : Md := (.cons (.ro .bool) .nil)
noncomputable def cx53 (n : Nat) : Cx := { S := noS, P := Try.prog, gl := noG, hint := [(58, [0, 1, 12, 13])], pin := [], nin := 0, fuel := n }
noncomputable def l53_58_0' (n k : Nat) (v0 : List Int) (v1 : List Int) (v2 : Int) (v3 : Int) : Option ((Bool × Unit) × (Unit × (Unit × Unit))) :=
  loopAt (cx53 n) (body 53) (bits 58) [] k { tm := [(0, .rs (.int .u8) v0 false false), (1, .rs (.int .u8) v1 false false), (12, .int .i64 v2), (13, .int .i64 v3)], hp := [], nx := 0 } (finM Try.prog (fnOf 53) M53a M53o)
noncomputable def l53_58_0 : Nat → Nat → List Int → List Int → Int → Int → Option ((Bool × Unit) × (Unit × (Unit × Unit))) := (sealed l53_58_0').1
theorem l53_58_0_e : l53_58_0' = l53_58_0 := (sealed l53_58_0').2.symm
theorem l53_58_0_s' (n k : Nat) (v0 : List Int) (v1 : List Int) (v2 : Int) (v3 : Int) : l53_58_0' n (k + 1) v0 v1 v2 v3 =
 (bif (decide (v3 < v2)) then
 (ck (rng v3 v0.length)
 (ck (rng v3 v1.length)
 (bif ((v0.getD v3.toNat (0 : Int)) != (v1.getD v3.toNat (0 : Int))) then
 (some ((false, ()), ((), (), ())))
 else
 (l53_58_0' n k v0 v1 v2 (IntKind.i64.wrap (v3 + (1 : Int)))))))
 else
 (some ((true, ()), ((), (), ())))) := by kernel_rfl
theorem l53_58_0_s (n k : Nat) (v0 : List Int) (v1 : List Int) (v2 : Int) (v3 : Int) : l53_58_0 n (k + 1) v0 v1 v2 v3 =
 (bif (decide (v3 < v2)) then
 (ck (rng v3 v0.length)
 (ck (rng v3 v1.length)
 (bif ((v0.getD v3.toNat (0 : Int)) != (v1.getD v3.toNat (0 : Int))) then
 (some ((false, ()), ((), (), ())))
 else
 (l53_58_0 n k v0 v1 v2 (IntKind.i64.wrap (v3 + (1 : Int)))))))
 else
 (some ((true, ()), ((), (), ())))) := by
  have h := l53_58_0_s' n k v0 v1 v2 v3
  rw [l53_58_0_e] at h
  exact h
theorem l53_58_0_z' (n : Nat) (v0 : List Int) (v1 : List Int) (v2 : Int) (v3 : Int) : l53_58_0' n 0 v0 v1 v2 v3 =
 none := by kernel_rfl
theorem l53_58_0_z (n : Nat) (v0 : List Int) (v1 : List Int) (v2 : Int) (v3 : Int) : l53_58_0 n 0 v0 v1 v2 v3 =
 none := by
  have h := l53_58_0_z' n v0 v1 v2 v3
  rw [l53_58_0_e] at h
  exact h
theorem eq53' (n : Nat) (x0 : (List Int)) (x1 : (List Int)) : runM (cx53 n) (fnOf 53) (body 53) M53a M53o (x0, x1, ()) =
 (bif ((x0.length : Int) != (x1.length : Int)) then
 (some ((false, ()), ((), (), ())))
 else
 (l53_58_0' n n x0 x1 (x0.length : Int) (0 : Int))) := by kernel_rfl
theorem eq53 (n : Nat) (x0 : (List Int)) (x1 : (List Int)) : runM (cx53 n) (fnOf 53) (body 53) M53a M53o (x0, x1, ()) =
 (bif ((x0.length : Int) != (x1.length : Int)) then
 (some ((false, ()), ((), (), ())))
 else
 (l53_58_0 n n x0 x1 (x0.length : Int) (0 : Int))) := by
  have h := eq53' n x0 x1
  rw [l53_58_0_e] at h
  exact h
theorem ok53 (f : ((List Int) × ((List Int) × Unit)) → Bool × ((Bool × Unit) × (Unit × (Unit × Unit)))) (hrun : ∀ x, (f x).1 = true → ∃ n, runM (cx53 n) (fnOf 53) (body 53) M53a M53o x = some (f x).2) : FnOK Try.prog noG 53 (fnM M53a M53o f) :=
  fnM_sound (cx53 0) SpecOK.none mixed noG_ok (by kernel_rfl) (by kernel_rfl) (by kernel_rfl) (by kernel_rfl) (by kernel_rfl) (by kernel_rfl) (by kernel_rfl) (fun x h => by obtain ⟨n, hn⟩ := hrun x h; exact ⟨n + 0, hn⟩)

def G53 (x : List Int × (List Int × Unit)) : Bool × ((Bool × Unit) × (Unit × (Unit × Unit))) :=
  (decide (x.1.length < 9223372036854775808), ((decide (x.1 = x.2.1), ()), ((), (), ())))
theorem lp53 (n : Nat) (l m : List Int) (hl : l.length < 9223372036854775808) (hm : l.length = m.length) : ∀ (k i : Nat), i ≤ l.length → l.length - i < k →
    l53_58_0 n k l m l.length i = some ((decide (l.drop i = m.drop i), ()), ((), (), ())) := by
  intro k
  induction k with
  | zero => intro i h1 h2; omega
  | succ k ih =>
    intro i h1 h2
    rw [l53_58_0_s]
    by_cases hi : i < l.length
    · rw [decide_eq_true (show (i : Int) < l.length by omega), show rng (i : Int) l.length = true from rng_ok (by omega) (by omega), show rng (i : Int) m.length = true from rng_ok (by omega) (by omega), Int.toNat_natCast, wrap_i64 (show -9223372036854775808 ≤ (i : Int) + 1 by omega) (by omega), drop_get l 0 i hi, drop_get m 0 i (by omega)]
      simp only [cond_true, ck_true]
      have := ih (i + 1) (by omega) (by omega)
      by_cases c : l.getD i 0 = m.getD i 0
      · rw [show (l.getD i 0 != m.getD i 0) = false by simpa using c]
        refine this.trans ?_
        simp only [c, List.cons.injEq, true_and]
      · rw [show (l.getD i 0 != m.getD i 0) = true by simpa using c, decide_eq_false (fun h => c (List.cons.inj h).1)]
        rfl
    · rw [decide_eq_false (show ¬ (i : Int) < l.length by omega), drop_end l i (by omega), drop_end m i (by omega)]; rfl
theorem run53 (x : List Int × (List Int × Unit)) (h : (G53 x).1 = true) : ∃ n, runM (cx53 n) (fnOf 53) (body 53) M53a M53o x = some (G53 x).2 := by
  obtain ⟨l, m, ⟨⟩⟩ := x
  have h : l.length < 9223372036854775808 := of_decide_eq_true h
  refine ⟨l.length + 1, ?_⟩
  rw [eq53]
  by_cases c : l.length = m.length
  · rw [show ((l.length : Int) != m.length) = false by rw [bne_eq_false_iff_eq]; omega]
    exact lp53 _ l m h c (l.length + 1) 0 (by omega) (by omega)
  · rw [show ((l.length : Int) != m.length) = true by rw [bne_iff_ne]; omega]
    simp only [G53]
    rw [decide_eq_false (show ¬ l = m from fun e => c (congrArg _ e))]
    rfl

theorem fok53 : FnOK Try.prog noG 53 (fnM M53a M53o G53) := ok53 G53 run53

/-- slices.EqualFunc[[][]byte,[][]byte,[]byte,[]byte] -/
@[reducible] def M52a : Md := (.cons (.ro (.sl (.sl (.int .u8)))) (.cons (.ro (.sl (.sl (.int .u8)))) (.cons (.fn 53 .nil .nil) .nil)))
@[reducible] def M52o : Md := (.cons (.ro .bool) .nil)
noncomputable def cx52 (F53 : ((List Int) × ((List Int) × Unit)) → Bool × ((Bool × Unit) × (Unit × (Unit × Unit)))) (n : Nat) : Cx := { S := (addV noS 53 (fnM M53a M53o F53)), P := Try.prog, gl := noG, hint := [(58, [1, 2, 15, 16, 17])], pin := [], nin := 0, fuel := n }
noncomputable def l52_58_0' (F53 : ((List Int) × ((List Int) × Unit)) → Bool × ((Bool × Unit) × (Unit × (Unit × Unit)))) (n k : Nat) (v0 : List (List Int)) (v1 : List (List Int)) (v2 : Int) (v3 : Int) : Option ((Bool × Unit) × (Unit × (Unit × ((Unit × Unit) × Unit)))) :=
  loopAt (cx52 F53 n) (body 52) (bits 58) [] k { tm := [(1, .rs (.sl (.int .u8)) v0 false false), (2, .fn (.func 53) (.nil) (.nil)), (15, .rs (.sl (.int .u8)) v1 false false), (16, .int .i64 v2), (17, .int .i64 v3)], hp := [], nx := 0 } (finM Try.prog (fnOf 52) M52a M52o)
noncomputable def l52_58_0 : (((List Int) × ((List Int) × Unit)) → Bool × ((Bool × Unit) × (Unit × (Unit × Unit)))) → Nat → Nat → List (List Int) → List (List Int) → Int → Int → Option ((Bool × Unit) × (Unit × (Unit × ((Unit × Unit) × Unit)))) := (sealed l52_58_0').1
theorem l52_58_0_e : l52_58_0' = l52_58_0 := (sealed l52_58_0').2.symm
theorem l52_58_0_s' (F53 : ((List Int) × ((List Int) × Unit)) → Bool × ((Bool × Unit) × (Unit × (Unit × Unit)))) (n k : Nat) (v0 : List (List Int)) (v1 : List (List Int)) (v2 : Int) (v3 : Int) : l52_58_0' F53 n (k + 1) v0 v1 v2 v3 =
 (bif (decide (v3 < v2)) then
 (ck (rng v3 v1.length)
 (ck (rng v3 v0.length)
 (cl (F53 (v1.getD v3.toNat [], v0.getD v3.toNat [], ())) fun r233 =>
 (bif (!r233.1.1) then
 (some ((false, ()), ((), (), ((), ()), ())))
 else
 (l52_58_0' F53 n k v0 v1 v2 (IntKind.i64.wrap (v3 + (1 : Int))))))))
 else
 (some ((true, ()), ((), (), ((), ()), ())))) := by kernel_rfl
theorem l52_58_0_s (F53 : ((List Int) × ((List Int) × Unit)) → Bool × ((Bool × Unit) × (Unit × (Unit × Unit)))) (n k : Nat) (v0 : List (List Int)) (v1 : List (List Int)) (v2 : Int) (v3 : Int) : l52_58_0 F53 n (k + 1) v0 v1 v2 v3 =
 (bif (decide (v3 < v2)) then
 (ck (rng v3 v1.length)
 (ck (rng v3 v0.length)
 (cl (F53 (v1.getD v3.toNat [], v0.getD v3.toNat [], ())) fun r233 =>
 (bif (!r233.1.1) then
 (some ((false, ()), ((), (), ((), ()), ())))
 else
 (l52_58_0 F53 n k v0 v1 v2 (IntKind.i64.wrap (v3 + (1 : Int))))))))
 else
 (some ((true, ()), ((), (), ((), ()), ())))) := by
  have h := l52_58_0_s' F53 n k v0 v1 v2 v3
  rw [l52_58_0_e] at h
  exact h
theorem l52_58_0_z' (F53 : ((List Int) × ((List Int) × Unit)) → Bool × ((Bool × Unit) × (Unit × (Unit × Unit)))) (n : Nat) (v0 : List (List Int)) (v1 : List (List Int)) (v2 : Int) (v3 : Int) : l52_58_0' F53 n 0 v0 v1 v2 v3 =
 none := by kernel_rfl
theorem l52_58_0_z (F53 : ((List Int) × ((List Int) × Unit)) → Bool × ((Bool × Unit) × (Unit × (Unit × Unit)))) (n : Nat) (v0 : List (List Int)) (v1 : List (List Int)) (v2 : Int) (v3 : Int) : l52_58_0 F53 n 0 v0 v1 v2 v3 =
 none := by
  have h := l52_58_0_z' F53 n v0 v1 v2 v3
  rw [l52_58_0_e] at h
  exact h
theorem eq52' (F53 : ((List Int) × ((List Int) × Unit)) → Bool × ((Bool × Unit) × (Unit × (Unit × Unit)))) (n : Nat) (x0 : (List (List Int))) (x1 : (List (List Int))) : runM (cx52 F53 n) (fnOf 52) (body 52) M52a M52o (x0, x1, ((), ()), ()) =
 (bif ((x0.length : Int) != (x1.length : Int)) then
 (some ((false, ()), ((), (), ((), ()), ())))
 else
 (l52_58_0' F53 n n x1 x0 (x0.length : Int) (0 : Int))) := by kernel_rfl
theorem eq52 (F53 : ((List Int) × ((List Int) × Unit)) → Bool × ((Bool × Unit) × (Unit × (Unit × Unit)))) (n : Nat) (x0 : (List (List Int))) (x1 : (List (List Int))) : runM (cx52 F53 n) (fnOf 52) (body 52) M52a M52o (x0, x1, ((), ()), ()) =
 (bif ((x0.length : Int) != (x1.length : Int)) then
 (some ((false, ()), ((), (), ((), ()), ())))
 else
 (l52_58_0 F53 n n x1 x0 (x0.length : Int) (0 : Int))) := by
  have h := eq52' F53 n x0 x1
  rw [l52_58_0_e] at h
  exact h
theorem ok52 (F53 : ((List Int) × ((List Int) × Unit)) → Bool × ((Bool × Unit) × (Unit × (Unit × Unit)))) (h53 : FnOK Try.prog noG 53 (fnM M53a M53o F53)) (f : ((List (List Int)) × ((List (List Int)) × ((Unit × Unit) × Unit))) → Bool × ((Bool × Unit) × (Unit × (Unit × ((Unit × Unit) × Unit))))) (hrun : ∀ x, (f x).1 = true → ∃ n, runM (cx52 F53 n) (fnOf 52) (body 52) M52a M52o x = some (f x).2) : FnOK Try.prog noG 52 (fnM M52a M52o f) :=
  fnM_sound (cx52 F53 0) (SpecOK.addV SpecOK.none h53) mixed noG_ok (by kernel_rfl) (by kernel_rfl) (by kernel_rfl) (by kernel_rfl) (by kernel_rfl) (by kernel_rfl) (by kernel_rfl) (fun x h => by obtain ⟨n, hn⟩ := hrun x h; exact ⟨n + 0, hn⟩)

def G52 (x : List (List Int) × (List (List Int) × ((Unit × Unit) × Unit))) : Bool × ((Bool × Unit) × (Unit × (Unit × ((Unit × Unit) × Unit)))) :=
  (decide (x.1.length < 9223372036854775808) && x.1.all fun b => decide (b.length < 9223372036854775808), ((decide (x.1 = x.2.1), ()), ((), (), ((), ()), ())))
theorem lp52 (n : Nat) (l m : List (List Int)) (hl : l.length < 9223372036854775808) (ha : ∀ b ∈ l, b.length < 9223372036854775808) (hm : l.length = m.length) : ∀ (k i : Nat), i ≤ l.length → l.length - i < k →
    l52_58_0 G53 n k m l l.length i = some ((decide (l.drop i = m.drop i), ()), ((), (), ((), ()), ())) := by
  intro k
  induction k with
  | zero => intro i h1 h2; omega
  | succ k ih =>
    intro i h1 h2
    rw [l52_58_0_s]
    by_cases hi : i < l.length
    · have hg : l.getD i [] = l[i] := by rw [List.getD_eq_getElem?_getD, List.getElem?_eq_getElem hi]; rfl
      have e : G53 (l.getD i [], m.getD i [], ()) = (true, ((decide (l.getD i [] = m.getD i []), ()), ((), (), ()))) := by
        have := ha _ (List.getElem_mem hi)
        rw [← hg] at this
        simp only [G53, decide_eq_true this]
      rw [decide_eq_true (show (i : Int) < l.length by omega), show rng (i : Int) l.length = true from rng_ok (by omega) (by omega), show rng (i : Int) m.length = true from rng_ok (by omega) (by omega), Int.toNat_natCast, wrap_i64 (show -9223372036854775808 ≤ (i : Int) + 1 by omega) (by omega), drop_get l [] i hi, drop_get m [] i (by omega), e]
      simp only [cond_true, ck_true, cl_true]
      have := ih (i + 1) (by omega) (by omega)
      by_cases c : l.getD i [] = m.getD i []
      · rw [decide_eq_true c]
        refine this.trans ?_
        simp only [c, List.cons.injEq, true_and]
      · rw [decide_eq_false c, decide_eq_false (fun h => c (List.cons.inj h).1)]
        rfl
    · rw [decide_eq_false (show ¬ (i : Int) < l.length by omega), drop_end l i (by omega), drop_end m i (by omega)]; rfl
theorem run52 (x : List (List Int) × (List (List Int) × ((Unit × Unit) × Unit))) (h : (G52 x).1 = true) : ∃ n, runM (cx52 G53 n) (fnOf 52) (body 52) M52a M52o x = some (G52 x).2 := by
  obtain ⟨l, m, ⟨⟨⟩, ⟨⟩⟩, ⟨⟩⟩ := x
  simp only [G52, Bool.and_eq_true, decide_eq_true_eq, List.all_eq_true] at h
  obtain ⟨h, h2⟩ := h
  refine ⟨l.length + 1, ?_⟩
  rw [eq52]
  by_cases c : l.length = m.length
  · rw [show ((l.length : Int) != m.length) = false by rw [bne_eq_false_iff_eq]; omega]
    exact lp52 _ l m h h2 c (l.length + 1) 0 (by omega) (by omega)
  · rw [show ((l.length : Int) != m.length) = true by rw [bne_iff_ne]; omega]
    simp only [G52]
    rw [decide_eq_false (show ¬ l = m from fun e => c (congrArg _ e))]
    rfl

theorem fok52 : FnOK Try.prog noG 52 (fnM M52a M52o G52) := ok52 G53 fok53 G52 run52

/-- link.Same -/
@[reducible] def M28a : Md := (.cons (.ro (.cons (.int .u64) (.cons (.int .u64) (.cons (.int .u64) (.cons (.int .u64) (.cons (.sl (.sl (.int .u8))) (.cons (.int .i64) (.cons (.int .i64) (.cons .bool .nil))))))))) (.cons (.ro (.cons (.int .u64) (.cons (.int .u64) (.cons (.int .u64) (.cons (.int .u64) (.cons (.sl (.sl (.int .u8))) (.cons (.int .i64) (.cons (.int .i64) (.cons .bool .nil))))))))) .nil))
@[reducible] def M28o : Md := (.cons (.ro .bool) .nil)
noncomputable def cx28 (F52 : ((List (List Int)) × ((List (List Int)) × ((Unit × Unit) × Unit))) → Bool × ((Bool × Unit) × (Unit × (Unit × ((Unit × Unit) × Unit))))) (n : Nat) : Cx := { S := (addV noS 52 (fnM M52a M52o F52)), P := Try.prog, gl := noG, hint := [], pin := [], nin := 0, fuel := n }
def t28 (F52 : ((List (List Int)) × ((List (List Int)) × ((Unit × Unit) × Unit))) → Bool × ((Bool × Unit) × (Unit × (Unit × ((Unit × Unit) × Unit))))) (x0 : Int) (x1 : Int) (x2 : Int) (x3 : Int) (x4 : (List (List Int))) (x5 : Int) (x6 : Int) (x7 : Bool) (x8 : Int) (x9 : Int) (x10 : Int) (x11 : Int) (x12 : (List (List Int))) (x13 : Int) (x14 : Int) (x15 : Bool) : Option ((Bool × Unit) × (Unit × (Unit × Unit))) :=
 (jn (fun (y1246_0 : Bool) =>
 some ((y1246_0, ()), ((), (), ()))) fun (j1246 : Bool → Option ((Bool × Unit) × (Unit × (Unit × Unit)))) =>
 (bif (x0 == x8) then
 (bif (x1 == x9) then
 (bif (x2 == x10) then
 (bif (x3 == x11) then
 (bif (x5 == x13) then
 (bif (x6 == x14) then
 (bif (x7 == x15) then
 (cl (F52 (x4, x12, ((), ()), ())) fun r235 =>
 (j1246 r235.1.1))
 else
 (j1246 false))
 else
 (j1246 false))
 else
 (j1246 false))
 else
 (j1246 false))
 else
 (j1246 false))
 else
 (j1246 false))
 else
 (j1246 false)))
theorem eq28 (F52 : ((List (List Int)) × ((List (List Int)) × ((Unit × Unit) × Unit))) → Bool × ((Bool × Unit) × (Unit × (Unit × ((Unit × Unit) × Unit))))) (n : Nat) (x0 : Int) (x1 : Int) (x2 : Int) (x3 : Int) (x4 : (List (List Int))) (x5 : Int) (x6 : Int) (x7 : Bool) (x8 : Int) (x9 : Int) (x10 : Int) (x11 : Int) (x12 : (List (List Int))) (x13 : Int) (x14 : Int) (x15 : Bool) : runM (cx28 F52 n) (fnOf 28) (body 28) M28a M28o ((x0, x1, x2, x3, x4, x5, x6, x7, ()), (x8, x9, x10, x11, x12, x13, x14, x15, ()), ()) = t28 F52 x0 x1 x2 x3 x4 x5 x6 x7 x8 x9 x10 x11 x12 x13 x14 x15 := by kernel_rfl
def raw28 (F52 : ((List (List Int)) × ((List (List Int)) × ((Unit × Unit) × Unit))) → Bool × ((Bool × Unit) × (Unit × (Unit × ((Unit × Unit) × Unit))))) (x : ((Int × (Int × (Int × (Int × ((List (List Int)) × (Int × (Int × (Bool × Unit)))))))) × ((Int × (Int × (Int × (Int × ((List (List Int)) × (Int × (Int × (Bool × Unit)))))))) × Unit))) : Option ((Bool × Unit) × (Unit × (Unit × Unit))) := t28 F52 x.1.1 x.1.2.1 x.1.2.2.1 x.1.2.2.2.1 x.1.2.2.2.2.1 x.1.2.2.2.2.2.1 x.1.2.2.2.2.2.2.1 x.1.2.2.2.2.2.2.2.1 x.2.1.1 x.2.1.2.1 x.2.1.2.2.1 x.2.1.2.2.2.1 x.2.1.2.2.2.2.1 x.2.1.2.2.2.2.2.1 x.2.1.2.2.2.2.2.2.1 x.2.1.2.2.2.2.2.2.2.1
theorem ok28 (F52 : ((List (List Int)) × ((List (List Int)) × ((Unit × Unit) × Unit))) → Bool × ((Bool × Unit) × (Unit × (Unit × ((Unit × Unit) × Unit))))) (h52 : FnOK Try.prog noG 52 (fnM M52a M52o F52)) : FnOK Try.prog noG 28 (fnM M28a M28o (toM (ma := M28a) (mo := M28o) (raw28 F52))) :=
  fnM_sound (cx28 F52 0) (SpecOK.addV SpecOK.none h52) mixed noG_ok (by kernel_rfl) (by kernel_rfl) (by kernel_rfl) (by kernel_rfl) (by kernel_rfl) (by kernel_rfl) (by kernel_rfl) (toM_run fun x => ⟨0, by have h := eq28 F52 0 x.1.1 x.1.2.1 x.1.2.2.1 x.1.2.2.2.1 x.1.2.2.2.2.1 x.1.2.2.2.2.2.1 x.1.2.2.2.2.2.2.1 x.1.2.2.2.2.2.2.2.1 x.2.1.1 x.2.1.2.1 x.2.1.2.2.1 x.2.1.2.2.2.1 x.2.1.2.2.2.2.1 x.2.1.2.2.2.2.2.1 x.2.1.2.2.2.2.2.2.1 x.2.1.2.2.2.2.2.2.2.1; exact h⟩)

noncomputable def G28 : ((Int × (Int × (Int × (Int × ((List (List Int)) × (Int × (Int × (Bool × Unit)))))))) × ((Int × (Int × (Int × (Int × ((List (List Int)) × (Int × (Int × (Bool × Unit)))))))) × Unit)) → Bool × ((Bool × Unit) × (Unit × (Unit × Unit))) := toM (ma := M28a) (mo := M28o) (raw28 G52)
theorem fok28 : FnOK Try.prog noG 28 (fnM M28a M28o G28) := ok28 G52 fok52
theorem G28_of {x0 : Int} {x1 : Int} {x2 : Int} {x3 : Int} {x4 : (List (List Int))} {x5 : Int} {x6 : Int} {x7 : Bool} {x8 : Int} {x9 : Int} {x10 : Int} {x11 : Int} {x12 : (List (List Int))} {x13 : Int} {x14 : Int} {x15 : Bool} {y : ((Bool × Unit) × (Unit × (Unit × Unit)))} (h : t28 G52 x0 x1 x2 x3 x4 x5 x6 x7 x8 x9 x10 x11 x12 x13 x14 x15 = some y) : G28 ((x0, x1, x2, x3, x4, x5, x6, x7, ()), (x8, x9, x10, x11, x12, x13, x14, x15, ()), ()) = (true, y) := toM_some (ma := M28a) (mo := M28o) h

/-- drawbridgelaw18.LinkCalls -/
@[reducible] def K8a : Kd := (.cons (.cons (.int .u64) (.cons (.int .u64) (.cons (.int .u64) (.cons (.int .u64) (.cons (.sl (.sl (.int .u8))) (.cons (.int .i64) (.cons (.int .i64) (.cons .bool .nil)))))))) (.cons (.cons (.int .u64) (.cons (.int .u64) (.cons (.int .u64) (.cons (.int .u64) (.cons (.sl (.int .u8)) .nil))))) (.cons (.sl (.int .u8)) (.cons (.int .u64) (.cons (.int .i64) .nil)))))
@[reducible] def K8o : Kd := .cons .bool .nil
noncomputable def cx8 (F19 : ((Int × (Int × (Int × (Int × ((List (List Int)) × (Int × (Int × (Bool × Unit)))))))) × Unit) → Bool × ((Int × Unit) × (Unit × Unit))) (F11 : (Int × (Int × Unit)) → Bool × (((Int × (Int × (Int × (Int × ((List (List Int)) × (Int × (Int × (Bool × Unit)))))))) × (Int × Unit)) × (Unit × (Unit × Unit)))) (F13 : ((Int × (Int × (Int × (Int × ((List (List Int)) × (Int × (Int × (Bool × Unit)))))))) × ((List Int) × Unit)) → Bool × (((Int × (Int × (Int × (Int × ((List (List Int)) × (Int × (Int × (Bool × Unit)))))))) × (Int × Unit)) × (Unit × (Unit × Unit)))) (F21 : ((Int × (Int × (Int × (Int × ((List (List Int)) × (Int × (Int × (Bool × Unit)))))))) × Unit) → Bool × (((Int × (Int × (Int × (Int × ((List Int) × Unit))))) × ((Int × (Int × (Int × (Int × ((List (List Int)) × (Int × (Int × (Bool × Unit)))))))) × (Bool × Unit))) × (Unit × Unit))) (F27 : ((Int × (Int × (Int × (Int × ((List Int) × Unit))))) × Unit) → Bool × ((Int × Unit) × (Unit × Unit))) (F31 : ((Int × (Int × (Int × (Int × ((List (List Int)) × (Int × (Int × (Bool × Unit)))))))) × ((Int × (Int × (Int × (Int × ((List Int) × Unit))))) × Unit)) → Bool × (((List Int) × (Bool × ((Int × (Int × (Int × (Int × ((List (List Int)) × (Int × (Int × (Bool × Unit)))))))) × (Int × Unit)))) × (Unit × (Unit × Unit)))) (F24 : ((Int × (Int × (Int × (Int × ((List (List Int)) × (Int × (Int × (Bool × Unit)))))))) × Unit) → Bool × (((Int × (Int × (Int × (Int × ((List (List Int)) × (Int × (Int × (Bool × Unit)))))))) × (Int × Unit)) × (Unit × Unit))) (F9 : Unit → Bool × ((Bool × Unit) × Unit)) (F20 : ((Int × (Int × (Int × (Int × ((List (List Int)) × (Int × (Int × (Bool × Unit)))))))) × (Int × (Int × Unit))) → Bool × ((Bool × Unit) × (Unit × (Unit × (Unit × Unit))))) (F22 : ((Int × (Int × (Int × (Int × ((List (List Int)) × (Int × (Int × (Bool × Unit)))))))) × ((Int × (Int × (Int × (Int × ((List (List Int)) × (Int × (Int × (Bool × Unit)))))))) × Unit)) → Bool × ((Bool × Unit) × (Unit × (Unit × Unit)))) (F25 : ((List Int) × ((List Int) × Unit)) → Bool × ((Bool × Unit) × (Unit × (Unit × Unit)))) (F29 : ((Int × (Int × (Int × (Int × ((List Int) × Unit))))) × Unit) → Bool × (((List Int) × (Int × Unit)) × (Unit × Unit))) (F26 : ((List Int) × Unit) → Bool × (((Int × (Int × (Int × (Int × ((List Int) × Unit))))) × (Int × Unit)) × (Unit × Unit))) (F30 : ((Int × (Int × (Int × (Int × ((List Int) × Unit))))) × ((Int × (Int × (Int × (Int × ((List Int) × Unit))))) × Unit)) → Bool × ((Bool × Unit) × (Unit × (Unit × Unit)))) (F33 : ((Int × (Int × (Int × (Int × ((List (List Int)) × (Int × (Int × (Bool × Unit)))))))) × Unit) → Bool × ((Int × Unit) × (Unit × Unit))) (F32 : (Int × (Int × Unit)) → Bool × (((Int × (Int × (Int × (Int × ((List (List Int)) × (Int × (Int × (Bool × Unit)))))))) × (Int × Unit)) × (Unit × (Unit × Unit)))) (F34 : ((Int × (Int × (Int × (Int × ((List Int) × Unit))))) × Unit) → Bool × ((Int × Unit) × (Unit × Unit))) (F14 : ((List Int) × Unit) → Bool × (((List Int) × Unit) × (Unit × Unit))) (F35 : ((Int × (Int × (Int × (Int × ((List (List Int)) × (Int × (Int × (Bool × Unit)))))))) × ((List Int) × Unit)) → Bool × (((Int × (Int × (Int × (Int × ((List (List Int)) × (Int × (Int × (Bool × Unit)))))))) × (Int × Unit)) × (Unit × (Unit × Unit)))) (F36 : ((Int × (Int × (Int × (Int × ((List (List Int)) × (Int × (Int × (Bool × Unit)))))))) × Unit) → Bool × (((Int × (Int × (Int × (Int × ((List (List Int)) × (Int × (Int × (Bool × Unit)))))))) × (Int × Unit)) × (Unit × Unit))) (F37 : ((Int × (Int × (Int × (Int × ((List (List Int)) × (Int × (Int × (Bool × Unit)))))))) × Unit) → Bool × (((Int × (Int × (Int × (Int × ((List Int) × Unit))))) × ((Int × (Int × (Int × (Int × ((List (List Int)) × (Int × (Int × (Bool × Unit)))))))) × (Bool × Unit))) × (Unit × Unit))) (F38 : ((Int × (Int × (Int × (Int × ((List (List Int)) × (Int × (Int × (Bool × Unit)))))))) × ((Int × (Int × (Int × (Int × ((List Int) × Unit))))) × Unit)) → Bool × (((List Int) × (Bool × ((Int × (Int × (Int × (Int × ((List (List Int)) × (Int × (Int × (Bool × Unit)))))))) × (Int × Unit)))) × (Unit × (Unit × Unit)))) (F39 : ((Int × (Int × (Int × (Int × ((List Int) × Unit))))) × Unit) → Bool × (((List Int) × (Int × Unit)) × (Unit × Unit))) (F40 : ((List Int) × Unit) → Bool × (((Int × (Int × (Int × (Int × ((List Int) × Unit))))) × (Int × Unit)) × (Unit × Unit))) (F28 : ((Int × (Int × (Int × (Int × ((List (List Int)) × (Int × (Int × (Bool × Unit)))))))) × ((Int × (Int × (Int × (Int × ((List (List Int)) × (Int × (Int × (Bool × Unit)))))))) × Unit)) → Bool × ((Bool × Unit) × (Unit × (Unit × Unit)))) (n : Nat) : Cx := { S := (addV (addV (addV (addV (addV (addV (addV (addV (addV (addV (addV (addV (addV (addV (addV (addV (addV (addV (addV (addV (addV (addV (addV (addV (addV noS 19 (fnM M19a M19o F19)) 11 (fnM M11a M11o F11)) 13 (fnM M13a M13o F13)) 21 (fnM M21a M21o F21)) 27 (fnM M27a M27o F27)) 31 (fnM M31a M31o F31)) 24 (fnM M24a M24o F24)) 9 (fnM M9a M9o F9)) 20 (fnM M20a M20o F20)) 22 (fnM M22a M22o F22)) 25 (fnM M25a M25o F25)) 29 (fnM M29a M29o F29)) 26 (fnM M26a M26o F26)) 30 (fnM M30a M30o F30)) 33 (fnM M33a M33o F33)) 32 (fnM M32a M32o F32)) 34 (fnM M34a M34o F34)) 14 (fnM M14a M14o F14)) 35 (fnM M35a M35o F35)) 36 (fnM M36a M36o F36)) 37 (fnM M37a M37o F37)) 38 (fnM M38a M38o F38)) 39 (fnM M39a M39o F39)) 40 (fnM M40a M40o F40)) 28 (fnM M28a M28o F28)), P := Try.prog, gl := noG, hint := [], pin := [], nin := 0, fuel := n }
def t8 (F19 : ((Int × (Int × (Int × (Int × ((List (List Int)) × (Int × (Int × (Bool × Unit)))))))) × Unit) → Bool × ((Int × Unit) × (Unit × Unit))) (F11 : (Int × (Int × Unit)) → Bool × (((Int × (Int × (Int × (Int × ((List (List Int)) × (Int × (Int × (Bool × Unit)))))))) × (Int × Unit)) × (Unit × (Unit × Unit)))) (F13 : ((Int × (Int × (Int × (Int × ((List (List Int)) × (Int × (Int × (Bool × Unit)))))))) × ((List Int) × Unit)) → Bool × (((Int × (Int × (Int × (Int × ((List (List Int)) × (Int × (Int × (Bool × Unit)))))))) × (Int × Unit)) × (Unit × (Unit × Unit)))) (F21 : ((Int × (Int × (Int × (Int × ((List (List Int)) × (Int × (Int × (Bool × Unit)))))))) × Unit) → Bool × (((Int × (Int × (Int × (Int × ((List Int) × Unit))))) × ((Int × (Int × (Int × (Int × ((List (List Int)) × (Int × (Int × (Bool × Unit)))))))) × (Bool × Unit))) × (Unit × Unit))) (F27 : ((Int × (Int × (Int × (Int × ((List Int) × Unit))))) × Unit) → Bool × ((Int × Unit) × (Unit × Unit))) (F31 : ((Int × (Int × (Int × (Int × ((List (List Int)) × (Int × (Int × (Bool × Unit)))))))) × ((Int × (Int × (Int × (Int × ((List Int) × Unit))))) × Unit)) → Bool × (((List Int) × (Bool × ((Int × (Int × (Int × (Int × ((List (List Int)) × (Int × (Int × (Bool × Unit)))))))) × (Int × Unit)))) × (Unit × (Unit × Unit)))) (F24 : ((Int × (Int × (Int × (Int × ((List (List Int)) × (Int × (Int × (Bool × Unit)))))))) × Unit) → Bool × (((Int × (Int × (Int × (Int × ((List (List Int)) × (Int × (Int × (Bool × Unit)))))))) × (Int × Unit)) × (Unit × Unit))) (F9 : Unit → Bool × ((Bool × Unit) × Unit)) (F20 : ((Int × (Int × (Int × (Int × ((List (List Int)) × (Int × (Int × (Bool × Unit)))))))) × (Int × (Int × Unit))) → Bool × ((Bool × Unit) × (Unit × (Unit × (Unit × Unit))))) (F22 : ((Int × (Int × (Int × (Int × ((List (List Int)) × (Int × (Int × (Bool × Unit)))))))) × ((Int × (Int × (Int × (Int × ((List (List Int)) × (Int × (Int × (Bool × Unit)))))))) × Unit)) → Bool × ((Bool × Unit) × (Unit × (Unit × Unit)))) (F25 : ((List Int) × ((List Int) × Unit)) → Bool × ((Bool × Unit) × (Unit × (Unit × Unit)))) (F29 : ((Int × (Int × (Int × (Int × ((List Int) × Unit))))) × Unit) → Bool × (((List Int) × (Int × Unit)) × (Unit × Unit))) (F26 : ((List Int) × Unit) → Bool × (((Int × (Int × (Int × (Int × ((List Int) × Unit))))) × (Int × Unit)) × (Unit × Unit))) (F30 : ((Int × (Int × (Int × (Int × ((List Int) × Unit))))) × ((Int × (Int × (Int × (Int × ((List Int) × Unit))))) × Unit)) → Bool × ((Bool × Unit) × (Unit × (Unit × Unit)))) (F33 : ((Int × (Int × (Int × (Int × ((List (List Int)) × (Int × (Int × (Bool × Unit)))))))) × Unit) → Bool × ((Int × Unit) × (Unit × Unit))) (F32 : (Int × (Int × Unit)) → Bool × (((Int × (Int × (Int × (Int × ((List (List Int)) × (Int × (Int × (Bool × Unit)))))))) × (Int × Unit)) × (Unit × (Unit × Unit)))) (F34 : ((Int × (Int × (Int × (Int × ((List Int) × Unit))))) × Unit) → Bool × ((Int × Unit) × (Unit × Unit))) (F14 : ((List Int) × Unit) → Bool × (((List Int) × Unit) × (Unit × Unit))) (F35 : ((Int × (Int × (Int × (Int × ((List (List Int)) × (Int × (Int × (Bool × Unit)))))))) × ((List Int) × Unit)) → Bool × (((Int × (Int × (Int × (Int × ((List (List Int)) × (Int × (Int × (Bool × Unit)))))))) × (Int × Unit)) × (Unit × (Unit × Unit)))) (F36 : ((Int × (Int × (Int × (Int × ((List (List Int)) × (Int × (Int × (Bool × Unit)))))))) × Unit) → Bool × (((Int × (Int × (Int × (Int × ((List (List Int)) × (Int × (Int × (Bool × Unit)))))))) × (Int × Unit)) × (Unit × Unit))) (F37 : ((Int × (Int × (Int × (Int × ((List (List Int)) × (Int × (Int × (Bool × Unit)))))))) × Unit) → Bool × (((Int × (Int × (Int × (Int × ((List Int) × Unit))))) × ((Int × (Int × (Int × (Int × ((List (List Int)) × (Int × (Int × (Bool × Unit)))))))) × (Bool × Unit))) × (Unit × Unit))) (F38 : ((Int × (Int × (Int × (Int × ((List (List Int)) × (Int × (Int × (Bool × Unit)))))))) × ((Int × (Int × (Int × (Int × ((List Int) × Unit))))) × Unit)) → Bool × (((List Int) × (Bool × ((Int × (Int × (Int × (Int × ((List (List Int)) × (Int × (Int × (Bool × Unit)))))))) × (Int × Unit)))) × (Unit × (Unit × Unit)))) (F39 : ((Int × (Int × (Int × (Int × ((List Int) × Unit))))) × Unit) → Bool × (((List Int) × (Int × Unit)) × (Unit × Unit))) (F40 : ((List Int) × Unit) → Bool × (((Int × (Int × (Int × (Int × ((List Int) × Unit))))) × (Int × Unit)) × (Unit × Unit))) (F28 : ((Int × (Int × (Int × (Int × ((List (List Int)) × (Int × (Int × (Bool × Unit)))))))) × ((Int × (Int × (Int × (Int × ((List (List Int)) × (Int × (Int × (Bool × Unit)))))))) × Unit)) → Bool × ((Bool × Unit) × (Unit × (Unit × Unit)))) (x0 : Int) (x1 : Int) (x2 : Int) (x3 : Int) (x4 : (List (List Int))) (x5 : Int) (x6 : Int) (x7 : Bool) (x8 : Int) (x9 : Int) (x10 : Int) (x11 : Int) (x12 : (List Int)) (x13 : (List Int)) (x14 : Int) (x15 : Int) : Option (Bool × Unit) :=
 (cl (F9 ()) fun r153 =>
 (bif (!r153.1.1) then
 (some (false, ()))
 else
 (jn (fun (y752_0 : Bool) =>
 (bif y752_0 then
 (some (true, ()))
 else
 (cl (F11 (x14, x15, ())) fun r155 =>
 (cl (F32 (x14, x15, ())) fun r158 =>
 (jn (fun (y799_0 : Bool) =>
 (bif y799_0 then
 (some (false, ()))
 else
 (cl (F14 (x13, ())) fun r164 =>
 (cl (F13 ((x0, x1, x2, x3, x4, x5, x6, x7, ()), r164.1.1, ())) fun r165 =>
 (cl (F35 ((x0, x1, x2, x3, x4, x5, x6, x7, ()), x13, ())) fun r168 =>
 (jn (fun (y856_0 : Bool) =>
 (bif y856_0 then
 (some (false, ()))
 else
 (cl (F24 ((x0, x1, x2, x3, x4, x5, x6, x7, ()), ())) fun r170 =>
 (cl (F36 ((x0, x1, x2, x3, x4, x5, x6, x7, ()), ())) fun r173 =>
 (jn (fun (y875_0 : Bool) =>
 (bif y875_0 then
 (some (false, ()))
 else
 (cl (F21 ((x0, x1, x2, x3, x4, x5, x6, x7, ()), ())) fun r175 =>
 (cl (F37 ((x0, x1, x2, x3, x4, x5, x6, x7, ()), ())) fun r178 =>
 (jn (fun (y912_0 : Bool) =>
 (bif y912_0 then
 (some (false, ()))
 else
 (cl (F31 ((x0, x1, x2, x3, x4, x5, x6, x7, ()), (x8, x9, x10, x11, x12, ()), ())) fun r181 =>
 (cl (F38 ((x0, x1, x2, x3, x4, x5, x6, x7, ()), (x8, x9, x10, x11, x12, ()), ())) fun r186 =>
 (jn (fun (y1000_0 : Bool) =>
 (bif y1000_0 then
 (some (false, ()))
 else
 (cl (F29 ((x8, x9, x10, x11, x12, ()), ())) fun r189 =>
 (cl (F39 ((x8, x9, x10, x11, x12, ()), ())) fun r204 =>
 (cl (F14 (x13, ())) fun r205 =>
 (cl (F26 (r205.1.1, ())) fun r206 =>
 (cl (F40 (x13, ())) fun r229 =>
 (cl (F25 (r189.1.1, r204.1.1, ())) fun r230 =>
 (bif r230.1.1 then
 (bif (r189.1.2.1 == r204.1.2.1) then
 (cl (F30 ((r206.1.1.1, r206.1.1.2.1, r206.1.1.2.2.1, r206.1.1.2.2.2.1, r206.1.1.2.2.2.2.1, ()), (r229.1.1.1, r229.1.1.2.1, r229.1.1.2.2.1, r229.1.1.2.2.2.1, r229.1.1.2.2.2.2.1, ()), ())) fun r231 =>
 (bif r231.1.1 then
 (bif (r206.1.2.1 == r229.1.2.1) then
 (cl (F28 ((x0, x1, x2, x3, x4, x5, x6, x7, ()), (x0, x1, x2, x3, x4, x5, x6, x7, ()), ())) fun r236 =>
 (bif r236.1.1 then
 (cl (F28 ((x0, x1, x2, x3, x4, x5, x6, x7, ()), (r181.1.2.2.1.1, r181.1.2.2.1.2.1, r181.1.2.2.1.2.2.1, r181.1.2.2.1.2.2.2.1, r181.1.2.2.1.2.2.2.2.1, r181.1.2.2.1.2.2.2.2.2.1, r181.1.2.2.1.2.2.2.2.2.2.1, r181.1.2.2.1.2.2.2.2.2.2.2.1, ()), ())) fun r237 =>
 (cl (F22 ((x0, x1, x2, x3, x4, x5, x6, x7, ()), (r181.1.2.2.1.1, r181.1.2.2.1.2.1, r181.1.2.2.1.2.2.1, r181.1.2.2.1.2.2.2.1, r181.1.2.2.1.2.2.2.2.1, r181.1.2.2.1.2.2.2.2.2.1, r181.1.2.2.1.2.2.2.2.2.2.1, r181.1.2.2.1.2.2.2.2.2.2.2.1, ()), ())) fun r238 =>
 (some ((r237.1.1 == r238.1.1), ()))))
 else
 (some (false, ()))))
 else
 (some (false, ())))
 else
 (some (false, ()))))
 else
 (some (false, ())))
 else
 (some (false, ()))))))))))) fun (j1000 : Bool → Option (Bool × Unit)) =>
 (cl (F25 (r181.1.1, r186.1.1, ())) fun r187 =>
 (bif (!r187.1.1) then
 (j1000 true)
 else
 (bif (!(r181.1.2.1 == r186.1.2.1)) then
 (j1000 true)
 else
 (cl (F22 ((r181.1.2.2.1.1, r181.1.2.2.1.2.1, r181.1.2.2.1.2.2.1, r181.1.2.2.1.2.2.2.1, r181.1.2.2.1.2.2.2.2.1, r181.1.2.2.1.2.2.2.2.2.1, r181.1.2.2.1.2.2.2.2.2.2.1, r181.1.2.2.1.2.2.2.2.2.2.2.1, ()), (r186.1.2.2.1.1, r186.1.2.2.1.2.1, r186.1.2.2.1.2.2.1, r186.1.2.2.1.2.2.2.1, r186.1.2.2.1.2.2.2.2.1, r186.1.2.2.1.2.2.2.2.2.1, r186.1.2.2.1.2.2.2.2.2.2.1, r186.1.2.2.1.2.2.2.2.2.2.2.1, ()), ())) fun r188 =>
 (bif (!r188.1.1) then
 (j1000 true)
 else
 (j1000 (r181.1.2.2.2.1 != r186.1.2.2.2.1)))))))))))) fun (j912 : Bool → Option (Bool × Unit)) =>
 (cl (F30 ((r175.1.1.1, r175.1.1.2.1, r175.1.1.2.2.1, r175.1.1.2.2.2.1, r175.1.1.2.2.2.2.1, ()), (r178.1.1.1, r178.1.1.2.1, r178.1.1.2.2.1, r178.1.1.2.2.2.1, r178.1.1.2.2.2.2.1, ()), ())) fun r179 =>
 (bif (!r179.1.1) then
 (j912 true)
 else
 (cl (F22 ((r175.1.2.1.1, r175.1.2.1.2.1, r175.1.2.1.2.2.1, r175.1.2.1.2.2.2.1, r175.1.2.1.2.2.2.2.1, r175.1.2.1.2.2.2.2.2.1, r175.1.2.1.2.2.2.2.2.2.1, r175.1.2.1.2.2.2.2.2.2.2.1, ()), (r178.1.2.1.1, r178.1.2.1.2.1, r178.1.2.1.2.2.1, r178.1.2.1.2.2.2.1, r178.1.2.1.2.2.2.2.1, r178.1.2.1.2.2.2.2.2.1, r178.1.2.1.2.2.2.2.2.2.1, r178.1.2.1.2.2.2.2.2.2.2.1, ()), ())) fun r180 =>
 (bif (!r180.1.1) then
 (j912 true)
 else
 (j912 (!(r175.1.2.2.1 == r178.1.2.2.1)))))))))))) fun (j875 : Bool → Option (Bool × Unit)) =>
 (cl (F22 ((r170.1.1.1, r170.1.1.2.1, r170.1.1.2.2.1, r170.1.1.2.2.2.1, r170.1.1.2.2.2.2.1, r170.1.1.2.2.2.2.2.1, r170.1.1.2.2.2.2.2.2.1, r170.1.1.2.2.2.2.2.2.2.1, ()), (r173.1.1.1, r173.1.1.2.1, r173.1.1.2.2.1, r173.1.1.2.2.2.1, r173.1.1.2.2.2.2.1, r173.1.1.2.2.2.2.2.1, r173.1.1.2.2.2.2.2.2.1, r173.1.1.2.2.2.2.2.2.2.1, ()), ())) fun r174 =>
 (bif (!r174.1.1) then
 (j875 true)
 else
 (j875 (r170.1.2.1 != r173.1.2.1))))))))) fun (j856 : Bool → Option (Bool × Unit)) =>
 (cl (F22 ((r165.1.1.1, r165.1.1.2.1, r165.1.1.2.2.1, r165.1.1.2.2.2.1, r165.1.1.2.2.2.2.1, r165.1.1.2.2.2.2.2.1, r165.1.1.2.2.2.2.2.2.1, r165.1.1.2.2.2.2.2.2.2.1, ()), (r168.1.1.1, r168.1.1.2.1, r168.1.1.2.2.1, r168.1.1.2.2.2.1, r168.1.1.2.2.2.2.1, r168.1.1.2.2.2.2.2.1, r168.1.1.2.2.2.2.2.2.1, r168.1.1.2.2.2.2.2.2.2.1, ()), ())) fun r169 =>
 (bif (!r169.1.1) then
 (j856 true)
 else
 (j856 (r165.1.2.1 != r168.1.2.1)))))))))) fun (j799 : Bool → Option (Bool × Unit)) =>
 (cl (F22 ((r155.1.1.1, r155.1.1.2.1, r155.1.1.2.2.1, r155.1.1.2.2.2.1, r155.1.1.2.2.2.2.1, r155.1.1.2.2.2.2.2.1, r155.1.1.2.2.2.2.2.2.1, r155.1.1.2.2.2.2.2.2.2.1, ()), (r158.1.1.1, r158.1.1.2.1, r158.1.1.2.2.1, r158.1.1.2.2.2.1, r158.1.1.2.2.2.2.1, r158.1.1.2.2.2.2.2.1, r158.1.1.2.2.2.2.2.2.1, r158.1.1.2.2.2.2.2.2.2.1, ()), ())) fun r159 =>
 (bif (!r159.1.1) then
 (j799 true)
 else
 (bif (r155.1.2.1 != r158.1.2.1) then
 (j799 true)
 else
 (cl (F19 ((x0, x1, x2, x3, x4, x5, x6, x7, ()), ())) fun r160 =>
 (cl (F33 ((x0, x1, x2, x3, x4, x5, x6, x7, ()), ())) fun r161 =>
 (bif (r160.1.1 != r161.1.1) then
 (j799 true)
 else
 (cl (F27 ((x8, x9, x10, x11, x12, ()), ())) fun r162 =>
 (cl (F34 ((x8, x9, x10, x11, x12, ()), ())) fun r163 =>
 (j799 (r162.1.1 != r163.1.1))))))))))))))) fun (j752 : Bool → Option (Bool × Unit)) =>
 (cl (F20 ((x0, x1, x2, x3, x4, x5, x6, x7, ()), (70 : Int), (300 : Int), ())) fun r154 =>
 (bif (!r154.1.1) then
 (j752 true)
 else
 (bif (decide ((x12.length : Int) > (3000 : Int))) then
 (j752 true)
 else
 (j752 (decide ((x13.length : Int) > (3000 : Int))))))))))
theorem eq8 (F19 : ((Int × (Int × (Int × (Int × ((List (List Int)) × (Int × (Int × (Bool × Unit)))))))) × Unit) → Bool × ((Int × Unit) × (Unit × Unit))) (F11 : (Int × (Int × Unit)) → Bool × (((Int × (Int × (Int × (Int × ((List (List Int)) × (Int × (Int × (Bool × Unit)))))))) × (Int × Unit)) × (Unit × (Unit × Unit)))) (F13 : ((Int × (Int × (Int × (Int × ((List (List Int)) × (Int × (Int × (Bool × Unit)))))))) × ((List Int) × Unit)) → Bool × (((Int × (Int × (Int × (Int × ((List (List Int)) × (Int × (Int × (Bool × Unit)))))))) × (Int × Unit)) × (Unit × (Unit × Unit)))) (F21 : ((Int × (Int × (Int × (Int × ((List (List Int)) × (Int × (Int × (Bool × Unit)))))))) × Unit) → Bool × (((Int × (Int × (Int × (Int × ((List Int) × Unit))))) × ((Int × (Int × (Int × (Int × ((List (List Int)) × (Int × (Int × (Bool × Unit)))))))) × (Bool × Unit))) × (Unit × Unit))) (F27 : ((Int × (Int × (Int × (Int × ((List Int) × Unit))))) × Unit) → Bool × ((Int × Unit) × (Unit × Unit))) (F31 : ((Int × (Int × (Int × (Int × ((List (List Int)) × (Int × (Int × (Bool × Unit)))))))) × ((Int × (Int × (Int × (Int × ((List Int) × Unit))))) × Unit)) → Bool × (((List Int) × (Bool × ((Int × (Int × (Int × (Int × ((List (List Int)) × (Int × (Int × (Bool × Unit)))))))) × (Int × Unit)))) × (Unit × (Unit × Unit)))) (F24 : ((Int × (Int × (Int × (Int × ((List (List Int)) × (Int × (Int × (Bool × Unit)))))))) × Unit) → Bool × (((Int × (Int × (Int × (Int × ((List (List Int)) × (Int × (Int × (Bool × Unit)))))))) × (Int × Unit)) × (Unit × Unit))) (F9 : Unit → Bool × ((Bool × Unit) × Unit)) (F20 : ((Int × (Int × (Int × (Int × ((List (List Int)) × (Int × (Int × (Bool × Unit)))))))) × (Int × (Int × Unit))) → Bool × ((Bool × Unit) × (Unit × (Unit × (Unit × Unit))))) (F22 : ((Int × (Int × (Int × (Int × ((List (List Int)) × (Int × (Int × (Bool × Unit)))))))) × ((Int × (Int × (Int × (Int × ((List (List Int)) × (Int × (Int × (Bool × Unit)))))))) × Unit)) → Bool × ((Bool × Unit) × (Unit × (Unit × Unit)))) (F25 : ((List Int) × ((List Int) × Unit)) → Bool × ((Bool × Unit) × (Unit × (Unit × Unit)))) (F29 : ((Int × (Int × (Int × (Int × ((List Int) × Unit))))) × Unit) → Bool × (((List Int) × (Int × Unit)) × (Unit × Unit))) (F26 : ((List Int) × Unit) → Bool × (((Int × (Int × (Int × (Int × ((List Int) × Unit))))) × (Int × Unit)) × (Unit × Unit))) (F30 : ((Int × (Int × (Int × (Int × ((List Int) × Unit))))) × ((Int × (Int × (Int × (Int × ((List Int) × Unit))))) × Unit)) → Bool × ((Bool × Unit) × (Unit × (Unit × Unit)))) (F33 : ((Int × (Int × (Int × (Int × ((List (List Int)) × (Int × (Int × (Bool × Unit)))))))) × Unit) → Bool × ((Int × Unit) × (Unit × Unit))) (F32 : (Int × (Int × Unit)) → Bool × (((Int × (Int × (Int × (Int × ((List (List Int)) × (Int × (Int × (Bool × Unit)))))))) × (Int × Unit)) × (Unit × (Unit × Unit)))) (F34 : ((Int × (Int × (Int × (Int × ((List Int) × Unit))))) × Unit) → Bool × ((Int × Unit) × (Unit × Unit))) (F14 : ((List Int) × Unit) → Bool × (((List Int) × Unit) × (Unit × Unit))) (F35 : ((Int × (Int × (Int × (Int × ((List (List Int)) × (Int × (Int × (Bool × Unit)))))))) × ((List Int) × Unit)) → Bool × (((Int × (Int × (Int × (Int × ((List (List Int)) × (Int × (Int × (Bool × Unit)))))))) × (Int × Unit)) × (Unit × (Unit × Unit)))) (F36 : ((Int × (Int × (Int × (Int × ((List (List Int)) × (Int × (Int × (Bool × Unit)))))))) × Unit) → Bool × (((Int × (Int × (Int × (Int × ((List (List Int)) × (Int × (Int × (Bool × Unit)))))))) × (Int × Unit)) × (Unit × Unit))) (F37 : ((Int × (Int × (Int × (Int × ((List (List Int)) × (Int × (Int × (Bool × Unit)))))))) × Unit) → Bool × (((Int × (Int × (Int × (Int × ((List Int) × Unit))))) × ((Int × (Int × (Int × (Int × ((List (List Int)) × (Int × (Int × (Bool × Unit)))))))) × (Bool × Unit))) × (Unit × Unit))) (F38 : ((Int × (Int × (Int × (Int × ((List (List Int)) × (Int × (Int × (Bool × Unit)))))))) × ((Int × (Int × (Int × (Int × ((List Int) × Unit))))) × Unit)) → Bool × (((List Int) × (Bool × ((Int × (Int × (Int × (Int × ((List (List Int)) × (Int × (Int × (Bool × Unit)))))))) × (Int × Unit)))) × (Unit × (Unit × Unit)))) (F39 : ((Int × (Int × (Int × (Int × ((List Int) × Unit))))) × Unit) → Bool × (((List Int) × (Int × Unit)) × (Unit × Unit))) (F40 : ((List Int) × Unit) → Bool × (((Int × (Int × (Int × (Int × ((List Int) × Unit))))) × (Int × Unit)) × (Unit × Unit))) (F28 : ((Int × (Int × (Int × (Int × ((List (List Int)) × (Int × (Int × (Bool × Unit)))))))) × ((Int × (Int × (Int × (Int × ((List (List Int)) × (Int × (Int × (Bool × Unit)))))))) × Unit)) → Bool × ((Bool × Unit) × (Unit × (Unit × Unit)))) (n : Nat) (x0 : Int) (x1 : Int) (x2 : Int) (x3 : Int) (x4 : (List (List Int))) (x5 : Int) (x6 : Int) (x7 : Bool) (x8 : Int) (x9 : Int) (x10 : Int) (x11 : Int) (x12 : (List Int)) (x13 : (List Int)) (x14 : Int) (x15 : Int) : runD (cx8 F19 F11 F13 F21 F27 F31 F24 F9 F20 F22 F25 F29 F26 F30 F33 F32 F34 F14 F35 F36 F37 F38 F39 F40 F28 n) (fnOf 8) (body 8) K8a K8o ((x0, x1, x2, x3, x4, x5, x6, x7, ()), (x8, x9, x10, x11, x12, ()), x13, x14, x15, ()) = t8 F19 F11 F13 F21 F27 F31 F24 F9 F20 F22 F25 F29 F26 F30 F33 F32 F34 F14 F35 F36 F37 F38 F39 F40 F28 x0 x1 x2 x3 x4 x5 x6 x7 x8 x9 x10 x11 x12 x13 x14 x15 := by kernel_rfl

theorem called8 {w : World} {vs : List Value} {x : K8a.T} (hrun : ∀ x, K8a.ok x → ∃ n, runD (cx8 G19 G11 G13 G21 G27 G31 G24 G9 G20 G22 G25 G29 G26 G30 G33 G32 G34 G14 G35 G36 G37 G38 G39 G40 G28 n) (fnOf 8) (body 8) K8a K8o x = some (true, ())) (h : KVs (fun b => b < w.heap.size) w K8a x vs) : Calls Try.prog 8 vs.toArray w fun e w' => e = .returned (.bool true) ∧ Go.RowKit.Below w.heap.size w w' :=
  law_ok (fun n => cx8 G19 G11 G13 G21 G27 G31 G24 G9 G20 G22 G25 G29 G26 G30 G33 G32 G34 G14 G35 G36 G37 G38 G39 G40 G28 n) (fun _ => (SpecOK.addV (SpecOK.addV (SpecOK.addV (SpecOK.addV (SpecOK.addV (SpecOK.addV (SpecOK.addV (SpecOK.addV (SpecOK.addV (SpecOK.addV (SpecOK.addV (SpecOK.addV (SpecOK.addV (SpecOK.addV (SpecOK.addV (SpecOK.addV (SpecOK.addV (SpecOK.addV (SpecOK.addV (SpecOK.addV (SpecOK.addV (SpecOK.addV (SpecOK.addV (SpecOK.addV (SpecOK.addV SpecOK.none fok19) fok11) fok13) fok21) fok27) fok31) fok24) fok9) fok20) fok22) fok25) fok29) fok26) fok30) fok33) fok32) fok34) fok14) fok35) fok36) fok37) fok38) fok39) fok40) fok28)) (fun _ => mixed) (fun _ => noG_ok) (fun _ => rfl) (by kernel_rfl) (by kernel_rfl) (by kernel_rfl) (by kernel_rfl) hrun (fun _ _ _ h => by cases h) h

end Go.Proofs.Ytkmeimhapokdlaa.Ae
