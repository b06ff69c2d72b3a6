/- WindowRow: for every argument that the row admits, the call returns true and leaves its arguments as they were; no further condition. The call by the evaluator, the plain law by hand. -/
import Derived.Test.YtloohkifibfdiaaRows
import Derived.Test.YtloohkifibfdiaaPureRow
import Derived.WalkKit
import Derived.ProofKit
import Derived.OpenShut
import Derived.ShutString
import Derived.ChangeOld
import Derived.Below
import Derived.SizedLaws
namespace Go.Proofs.Ytloohkifibfdiaa.windowRow
open Go.ChangeShapes Go.WideShapes Go.ChangeAt Go.RowKit
set_option linter.unusedVariables false
open Ae in
theorem called {w : World} {vs : List Value} {x : K6a.T} (h : KVs (fun b => b < w.heap.size) w K6a x vs) : Calls Try.prog 6 vs.toArray w fun e w' => e = .returned (.bool true) ∧ Below w.heap.size w w' :=
  called6 (fun x h => ⟨400, row6 400 (Nat.le_refl _) x h⟩) h
theorem own : ownKnob Try.prog.godebug = none := by kernel_rfl
theorem laidOut : laidOutB Try.prog = true := by kernel_rfl
set_option maxRecDepth 100000 in
theorem lifted (os : Os) (started : os.Started) (H : Type) (enc : TypeId × Value → H) :
    ReturnsInHanded {} Try.checked os 6 .any (Rows.windowRowSpec.pre6 enc Try.prog Try.f6 Rows.windowRowRow.domain false) (Rows.windowRowSpec.post enc Try.prog Try.f6 false true false false) := by
  refine returnsInHanded_of_change_sized (C := Try.checked) own started (by kernel_rfl) Try.func6
    (ChangeSpec.witness6 (enc := enc) (C := Try.checked) false ⟨#[], #[.int .u64 0, .int .i64 0, .slice none 0 0], []⟩ 8 (by kernel_rfl) (by kernel_rfl) (by kernel_rfl) (by kernel_rfl)) ?_
  intro W base args ds gs before hval0 hW hcnd hsz0 _
  have hval : ∀ (j : Nat) t v, Try.f6.params[j]? = some t → args[j]? = some v → Value.okWide Try.prog W .any base t v := hval0
  have hW' := hW
  obtain ⟨p, q, hA0, hV, rfl, hfz, hnd⟩ := hW
  have hA : DataW.TrodAll enc Try.prog W 0 (fun _ => true) true Try.f6.params.toList args.toList ds p := hA0
  rw [Try.params6] at hA hval
  obtain ⟨v0, vs0, d0, ds0, p0, q0, hargs, rfl, rfl, h0, r0⟩ := trodAll_cons hA
  obtain ⟨v1, vs1, d1, ds1, p1, q1, rfl, rfl, rfl, h1, r1⟩ := trodAll_cons r0
  obtain ⟨v2, vs2, d2, ds2, p2, q2, rfl, rfl, rfl, h2, r2⟩ := trodAll_cons r1
  obtain ⟨rfl, rfl, rfl⟩ := trodAll_nil r2
  obtain rfl : args = #[v0, v1, v2] := by cases args; simp_all
  obtain ⟨rfl, rfl⟩ := trodVars_none hV
  obtain ⟨x0, k0⟩ := Ae.open_kv (F := fun b => b < W.heap.size) (fun _ h => h) (D := 12) (K := (.int .u64)) (by kernel_rfl) (hval 0 34 v0 rfl rfl) h0
  obtain ⟨x1, k1⟩ := Ae.open_kv (F := fun b => b < W.heap.size) (fun _ h => h) (D := 12) (K := (.int .i64)) (by kernel_rfl) (hval 1 3 v1 rfl rfl) h1
  obtain ⟨x2, k2⟩ := Ae.open_kv (F := fun b => b < W.heap.size) (fun _ h => h) (D := 12) (K := (.sl (.int .i64))) (by kernel_rfl) (hval 2 35 v2 rfl rfl) h2
  have lt : ∀ {t v d p}, DataW.Trod enc Try.prog W 0 (fun _ => true) true t v d p → ∀ x ∈ p, x.block < W.heap.size := fun h => by obtain ⟨m, hm⟩ := h; exact DataW.trod_lt m _ _ _ hm
  have lt0 := lt h0
  have lt1 := lt h1
  have lt2 := lt h2
  clear hA0 hval0 hsz0
  refine (called (x := (x0, x1, x2, ())) ⟨v0, [v1, v2], rfl, k0, v1, [v2], rfl, k1, v2, [], rfl, k2, rfl⟩).mono fun e W' ⟨he, bel⟩ => ?_
  subst he
  exact ⟨_, rfl, _, _, _, [], _, [], hW', trodAll_mk1 (shut_bool Try.underlying4 _), (trodAll_cons_mk (Below.trod laidOut (by kernel_rfl) (of_decide_eq_true (by kernel_rfl)) h0 bel lt0) (trodAll_cons_mk (Below.trod laidOut (by kernel_rfl) (of_decide_eq_true (by kernel_rfl)) h1 bel lt1) (trodAll_cons_mk (Below.trod laidOut (by kernel_rfl) (of_decide_eq_true (by kernel_rfl)) h2 bel lt2) trodAll_mk0))), rfl, bel.frame _, fun h => by cases h⟩
theorem over : Rows.windowRowRow.holds Try.pinned (OpenSpec.ofChange Rows.windowRowSpec) :=
  OpenClaim.holds_of_wide 6 Try.f6 rfl rfl rfl rfl rfl rfl rfl ⟨rfl, rfl, rfl, rfl, rfl⟩ rfl rfl rfl rfl rfl (by kernel_rfl) Try.func6 (by kernel_rfl)
    (of_decide_eq_true (by kernel_rfl)) (by unfold Func.isWrapper; first | (rw [if_pos (by decide +kernel)]; kernel_rfl) | (rw [if_neg (by decide +kernel)]; exact ⟨rfl, rfl⟩))
    (fun os started H enc _ => lifted os started H enc)
theorem proved : Rows.WindowRowSaid := over
end Go.Proofs.Ytloohkifibfdiaa.windowRow
namespace Go.Proofs.Ytloohkifibfdiaa
/-- The row, under a short name, for the claim. -/
theorem windowRow_holds : Rows.WindowRowSaid := windowRow.proved
end Go.Proofs.Ytloohkifibfdiaa
