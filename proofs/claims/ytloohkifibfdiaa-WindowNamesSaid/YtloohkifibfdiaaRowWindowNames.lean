/- WindowNames: the call returns true; no further condition. The call by the evaluator at the program's own constants. -/
import Derived.Test.YtloohkifibfdiaaRows
import Derived.Test.YtloohkifibfdiaaAe25
import Derived.Test.YtloohkifibfdiaaFnsN
import Derived.WalkKit
import Derived.ProofKit
import Derived.OpenShut
import Derived.ShutString
import Derived.ChangeOld
import Derived.Below
import Derived.SizedLaws
namespace Go.Proofs.Ytloohkifibfdiaa.windowNames
open Go.ChangeShapes Go.WideShapes Go.ChangeAt Go.RowKit
set_option linter.unusedVariables false
open Ae in
theorem called {w : World} : Calls Try.prog 9 #[] w fun e w' => e = .returned (.bool true) ∧ Below w.heap.size w w' :=
  law_call (cx9 1) (SpecOK.add (SpecOK.add (SpecOK.add (SpecOK.add (SpecOK.add (SpecOK.add (SpecOK.add SpecOK.none fok25) fok22) fok23) fok26) fok20) fok27) fok28) mixed noG_ok (by kernel_rfl) (by kernel_rfl) (by kernel_rfl) (by kernel_rfl) (eq9 ()) (fun _ _ h => by cases h) (vs := []) rfl
theorem own : ownKnob Try.prog.godebug = none := by kernel_rfl
theorem laidOut : laidOutB Try.prog = true := by kernel_rfl
set_option maxRecDepth 100000 in
theorem lifted (os : Os) (started : os.Started) (H : Type) (enc : TypeId × Value → H) :
    ReturnsInHanded {} Try.checked os 9 .any (Rows.windowNamesSpec.pre6 enc Try.prog Try.f9 Rows.windowNamesRow.domain false) (Rows.windowNamesSpec.post enc Try.prog Try.f9 false true false false) := by
  refine returnsInHanded_of_change_sized (C := Try.checked) own started (by kernel_rfl) Try.func9
    (ChangeSpec.witness6 (enc := enc) (C := Try.checked) false ⟨#[], #[], []⟩ 8 (by kernel_rfl) (by kernel_rfl) (by kernel_rfl) (by kernel_rfl)) ?_
  intro W base args ds gs before hval0 hW hcnd hsz0 _
  have hval : ∀ (j : Nat) t v, Try.f9.params[j]? = some t → args[j]? = some v → Value.okWide Try.prog W .any base t v := hval0
  have hW' := hW
  obtain ⟨p, q, hA0, hV, rfl, hfz, hnd⟩ := hW
  have hA : DataW.TrodAll enc Try.prog W 0 (fun _ => true) true Try.f9.params.toList args.toList ds p := hA0
  rw [Try.params9] at hA hval
  obtain ⟨rfl, rfl, rfl⟩ := trodAll_none hA
  obtain ⟨rfl, rfl⟩ := trodVars_none hV
  clear hA0 hval0 hsz0
  refine called.mono fun e W' ⟨he, bel⟩ => ?_
  subst he
  exact ⟨_, rfl, _, _, _, [], _, [], hW', trodAll_mk1 (shut_bool Try.underlying4 _), trodAll_mk0, rfl, bel.frame _, fun h => by cases h⟩
theorem over : Rows.windowNamesRow.holds Try.pinned (OpenSpec.ofChange Rows.windowNamesSpec) :=
  OpenClaim.holds_of_wide 9 Try.f9 rfl rfl rfl rfl rfl rfl rfl ⟨rfl, rfl, rfl, rfl, rfl⟩ rfl rfl rfl rfl rfl (by kernel_rfl) Try.func9 (by kernel_rfl)
    (of_decide_eq_true (by kernel_rfl)) (by unfold Func.isWrapper; first | (rw [if_pos (by decide +kernel)]; kernel_rfl) | (rw [if_neg (by decide +kernel)]; exact ⟨rfl, rfl⟩))
    (fun os started H enc _ => lifted os started H enc)
theorem proved : Rows.WindowNamesSaid := over
end Go.Proofs.Ytloohkifibfdiaa.windowNames
namespace Go.Proofs.Ytloohkifibfdiaa
/-- The row, under a short name, for the claim. -/
theorem windowNames_holds : Rows.WindowNamesSaid := windowNames.proved
end Go.Proofs.Ytloohkifibfdiaa
