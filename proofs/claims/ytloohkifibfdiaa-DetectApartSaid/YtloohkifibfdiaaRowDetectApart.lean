/- DetectApart: for every watch that the row admits, the call returns true and leaves its argument as it was; no further condition. The call by the evaluator, the plain law by hand. -/
import Derived.Test.YtloohkifibfdiaaRows
import Derived.Test.YtloohkifibfdiaaAe25
import Derived.Test.YtloohkifibfdiaaPureApart
import Derived.WalkKit
import Derived.ProofKit
import Derived.OpenShut
import Derived.ShutString
import Derived.ChangeOld
import Derived.Below
import Derived.SizedLaws
namespace Go.Proofs.Ytloohkifibfdiaa.detectApart
open Go.ChangeShapes Go.WideShapes Go.ChangeAt Go.RowKit
set_option linter.unusedVariables false
open Ae in
theorem called {w : World} {vs : List Value} {x : K5a.T} (h : KVs (fun b => b < w.heap.size) w K5a x vs) : Calls Try.prog 5 vs.toArray w fun e w' => e = .returned (.bool true) ∧ Below w.heap.size w w' :=
  law_call (cx5 G13 G17 G18 G19 G14 G15 G16 G12 0) (SpecOK.add (SpecOK.add (SpecOK.add (SpecOK.add (SpecOK.add (SpecOK.add (SpecOK.add (SpecOK.add SpecOK.none fok13) fok17) fok18) fok19) fok14) fok15) fok16) fok12) mixed noG_ok (by kernel_rfl) (by kernel_rfl) (by kernel_rfl) (by kernel_rfl) ((eq5 G13 G17 G18 G19 G14 G15 G16 G12 0 x).trans (apart_pure x)) (fun _ _ h => by cases h) h
theorem own : ownKnob Try.prog.godebug = none := by kernel_rfl
theorem laidOut : laidOutB Try.prog = true := by kernel_rfl
set_option maxRecDepth 100000 in
theorem lifted (os : Os) (started : os.Started) (H : Type) (enc : TypeId × Value → H) :
    ReturnsInHanded {} Try.checked os 5 .any (Rows.detectApartSpec.pre6 enc Try.prog Try.f5 Rows.detectApartRow.domain false) (Rows.detectApartSpec.post enc Try.prog Try.f5 false true false false) := by
  refine returnsInHanded_of_change_sized (C := Try.checked) own started (by kernel_rfl) Try.func5
    (ChangeSpec.witness6 (enc := enc) (C := Try.checked) false ⟨#[], #[.agg #[.int .i64 0, .int .i64 0, .int .i64 0, .int .i64 0]], []⟩ 8 (by kernel_rfl) (by kernel_rfl) (by kernel_rfl) (by kernel_rfl)) ?_
  intro W base args ds gs before hval0 hW hcnd hsz0 _
  have hval : ∀ (j : Nat) t v, Try.f5.params[j]? = some t → args[j]? = some v → Value.okWide Try.prog W .any base t v := hval0
  have hW' := hW
  obtain ⟨p, q, hA0, hV, rfl, hfz, hnd⟩ := hW
  have hA : DataW.TrodAll enc Try.prog W 0 (fun _ => true) true Try.f5.params.toList args.toList ds p := hA0
  rw [Try.params5] at hA hval
  obtain ⟨v0, vs0, d0, ds0, p0, q0, hargs, rfl, rfl, h0, r0⟩ := trodAll_cons hA
  obtain ⟨rfl, rfl, rfl⟩ := trodAll_nil r0
  obtain rfl : args = #[v0] := by cases args; simp_all
  obtain ⟨rfl, rfl⟩ := trodVars_none hV
  obtain ⟨x0, k0⟩ := Ae.open_kv (F := fun b => b < W.heap.size) (D := 8) (K := .cons (.int .i64) (.cons (.int .i64) (.cons (.int .i64) (.cons (.int .i64) .nil)))) (by kernel_rfl) (hval 0 23 v0 rfl rfl) h0
  have lt0 : ∀ x ∈ p0, x.block < W.heap.size := by obtain ⟨m, hm⟩ := h0; exact DataW.trod_lt m _ _ _ hm
  have k := h0
  clear hA0 hval0 hsz0
  refine (called (x := (x0, ())) ⟨v0, [], rfl, k0, rfl⟩).mono fun e W' ⟨he, bel⟩ => ?_
  subst he
  exact ⟨_, rfl, _, _, _, [], _, [], hW', trodAll_mk1 (shut_bool Try.underlying4 _), (trodAll_cons_mk (Below.trod laidOut (by kernel_rfl) (of_decide_eq_true (by kernel_rfl)) k bel lt0) trodAll_mk0), rfl, bel.frame _, fun h => by cases h⟩
theorem over : Rows.detectApartRow.holds Try.pinned (OpenSpec.ofChange Rows.detectApartSpec) :=
  OpenClaim.holds_of_wide 5 Try.f5 rfl rfl rfl rfl rfl rfl rfl ⟨rfl, rfl, rfl, rfl, rfl⟩ rfl rfl rfl rfl rfl (by kernel_rfl) Try.func5 (by kernel_rfl)
    (of_decide_eq_true (by kernel_rfl)) (by unfold Func.isWrapper; first | (rw [if_pos (by decide +kernel)]; kernel_rfl) | (rw [if_neg (by decide +kernel)]; exact ⟨rfl, rfl⟩))
    (fun os started H enc _ => lifted os started H enc)
theorem proved : Rows.DetectApartSaid := over
end Go.Proofs.Ytloohkifibfdiaa.detectApart
namespace Go.Proofs.Ytloohkifibfdiaa
/-- The row, under a short name, for the claim. -/
theorem detectApart_holds : Rows.DetectApartSaid := detectApart.proved
end Go.Proofs.Ytloohkifibfdiaa
