/- LinkCalls: for every argument that the row admits, the call returns true and leaves its arguments as they were; no further condition. The call by the evaluator, the plain law by hand. -/
import Derived.Test.YtkmeimhapokdlaaRows
import Derived.Test.YtkmeimhapokdlaaPureG
import Derived.WalkKit
import Derived.ProofKit
import Derived.OpenShut
import Derived.ShutString
import Derived.ChangeOld
import Derived.Below
import Derived.SizedLaws
namespace Go.Proofs.Ytkmeimhapokdlaa.linkCalls
open Go.ChangeShapes Go.WideShapes Go.ChangeAt Go.RowKit
set_option linter.unusedVariables false
open Ae in
theorem called {w : World} {vs : List Value} {x : K8a.T} (h : KVs (fun b => b < w.heap.size) w K8a x vs) : Calls Try.prog 8 vs.toArray w fun e w' => e = .returned (.bool true) ∧ Below w.heap.size w w' :=
  called8 (fun x h => calls8 x h) h
theorem own : ownKnob Try.prog.godebug = none := by kernel_rfl
theorem laidOut : laidOutB Try.prog = true := by kernel_rfl
set_option maxRecDepth 100000 in
theorem lifted (os : Os) (started : os.Started) (H : Type) (enc : TypeId × Value → H) :
    ReturnsInHanded {} Try.checked os 8 .any (Rows.linkCallsSpec.pre6 enc Try.prog Try.f8 Rows.linkCallsRow.domain false) (Rows.linkCallsSpec.post enc Try.prog Try.f8 false true false false) := by
  refine returnsInHanded_of_change_sized (C := Try.checked) own started (by kernel_rfl) Try.func8
    (ChangeSpec.witness6 (enc := enc) (C := Try.checked) false ⟨#[], #[.agg #[.int .u64 0, .int .u64 0, .int .u64 0, .int .u64 0, .slice none 0 0, .int .i64 0, .int .i64 0, .bool false], .agg #[.int .u64 0, .int .u64 0, .int .u64 0, .int .u64 0, .slice none 0 0], .slice none 0 0, .int .u64 0, .int .i64 0], []⟩ 8 (by kernel_rfl) (by kernel_rfl) (by kernel_rfl) (by kernel_rfl)) ?_
  intro W base args ds gs before hval0 hW hcnd hsz0 _
  have hval : ∀ (j : Nat) t v, Try.f8.params[j]? = some t → args[j]? = some v → Value.okWide Try.prog W .any base t v := hval0
  have hW' := hW
  obtain ⟨p, q, hA0, hV, rfl, hfz, hnd⟩ := hW
  have hA : DataW.TrodAll enc Try.prog W 0 (fun _ => true) true Try.f8.params.toList args.toList ds p := hA0
  rw [Try.params8] at hA hval
  obtain ⟨v0, vs0, d0, ds0, p0, q0, hargs, rfl, rfl, h0, r0⟩ := trodAll_cons hA
  obtain ⟨v1, vs1, d1, ds1, p1, q1, rfl, rfl, rfl, h1, r1⟩ := trodAll_cons r0
  obtain ⟨v2, vs2, d2, ds2, p2, q2, rfl, rfl, rfl, h2, r2⟩ := trodAll_cons r1
  obtain ⟨v3, vs3, d3, ds3, p3, q3, rfl, rfl, rfl, h3, r3⟩ := trodAll_cons r2
  obtain ⟨v4, vs4, d4, ds4, p4, q4, rfl, rfl, rfl, h4, r4⟩ := trodAll_cons r3
  obtain ⟨rfl, rfl, rfl⟩ := trodAll_nil r4
  obtain rfl : args = #[v0, v1, v2, v3, v4] := by cases args; simp_all
  obtain ⟨rfl, rfl⟩ := trodVars_none hV
  obtain ⟨x0, k0⟩ := Ae.open_kv (F := fun b => b < W.heap.size) (fun _ h => h) (D := 12) (K := (.cons (.int .u64) (.cons (.int .u64) (.cons (.int .u64) (.cons (.int .u64) (.cons (.sl (.sl (.int .u8))) (.cons (.int .i64) (.cons (.int .i64) (.cons .bool .nil))))))))) (by kernel_rfl) (hval 0 28 v0 rfl rfl) h0
  obtain ⟨x1, k1⟩ := Ae.open_kv (F := fun b => b < W.heap.size) (fun _ h => h) (D := 12) (K := (.cons (.int .u64) (.cons (.int .u64) (.cons (.int .u64) (.cons (.int .u64) (.cons (.sl (.int .u8)) .nil)))))) (by kernel_rfl) (hval 1 46 v1 rfl rfl) h1
  obtain ⟨x2, k2⟩ := Ae.open_kv (F := fun b => b < W.heap.size) (fun _ h => h) (D := 12) (K := (.sl (.int .u8))) (by kernel_rfl) (hval 2 39 v2 rfl rfl) h2
  obtain ⟨x3, k3⟩ := Ae.open_kv (F := fun b => b < W.heap.size) (fun _ h => h) (D := 12) (K := (.int .u64)) (by kernel_rfl) (hval 3 22 v3 rfl rfl) h3
  obtain ⟨x4, k4⟩ := Ae.open_kv (F := fun b => b < W.heap.size) (fun _ h => h) (D := 12) (K := (.int .i64)) (by kernel_rfl) (hval 4 3 v4 rfl rfl) h4
  have lt : ∀ {t v d p}, DataW.Trod enc Try.prog W 0 (fun _ => true) true t v d p → ∀ x ∈ p, x.block < W.heap.size := fun h => by obtain ⟨m, hm⟩ := h; exact DataW.trod_lt m _ _ _ hm
  have lt0 := lt h0
  have lt1 := lt h1
  have lt2 := lt h2
  have lt3 := lt h3
  have lt4 := lt h4
  clear hA0 hval0 hsz0
  refine (called (x := (x0, x1, x2, x3, x4, ())) ⟨v0, [v1, v2, v3, v4], rfl, k0, v1, [v2, v3, v4], rfl, k1, v2, [v3, v4], rfl, k2, v3, [v4], rfl, k3, v4, [], rfl, k4, rfl⟩).mono fun e W' ⟨he, bel⟩ => ?_
  subst he
  exact ⟨_, rfl, _, _, _, [], _, [], hW', trodAll_mk1 (shut_bool Try.underlying4 _), (trodAll_cons_mk (Below.trod laidOut (by kernel_rfl) (of_decide_eq_true (by kernel_rfl)) h0 bel lt0) (trodAll_cons_mk (Below.trod laidOut (by kernel_rfl) (of_decide_eq_true (by kernel_rfl)) h1 bel lt1) (trodAll_cons_mk (Below.trod laidOut (by kernel_rfl) (of_decide_eq_true (by kernel_rfl)) h2 bel lt2) (trodAll_cons_mk (Below.trod laidOut (by kernel_rfl) (of_decide_eq_true (by kernel_rfl)) h3 bel lt3) (trodAll_cons_mk (Below.trod laidOut (by kernel_rfl) (of_decide_eq_true (by kernel_rfl)) h4 bel lt4) trodAll_mk0))))), rfl, bel.frame _, fun h => by cases h⟩
theorem over : Rows.linkCallsRow.holds Try.pinned (OpenSpec.ofChange Rows.linkCallsSpec) :=
  OpenClaim.holds_of_wide 8 Try.f8 rfl rfl rfl rfl rfl rfl rfl ⟨rfl, rfl, rfl, rfl, rfl⟩ rfl rfl rfl rfl rfl (by kernel_rfl) Try.func8 (by kernel_rfl)
    (of_decide_eq_true (by kernel_rfl)) (by unfold Func.isWrapper; first | (rw [if_pos (by decide +kernel)]; kernel_rfl) | (rw [if_neg (by decide +kernel)]; exact ⟨rfl, rfl⟩))
    (fun os started H enc _ => lifted os started H enc)
theorem proved : Rows.LinkCallsSaid := over
end Go.Proofs.Ytkmeimhapokdlaa.linkCalls
namespace Go.Proofs.Ytkmeimhapokdlaa
/-- The row, under a short name, for the claim. -/
theorem linkCalls_holds : Rows.LinkCallsSaid := linkCalls.proved
end Go.Proofs.Ytkmeimhapokdlaa
