/- What the printed texts use. -/
import Derived.Test.YtkmeimhapokdlaaAe23
namespace Go.Proofs.Ytkmeimhapokdlaa.Ae
open Go

noncomputable def noG : Nat → Option AV := fun _ => none
theorem noG_ok : GlOk noG := fun _ _ h => by cases h

/-- A tree of cases as a function and what it asks. -/
def toF {Ka Ko : Kd} (r : Ka.T → Option Ko.T) (x : Ka.T) : Bool × Ko.T := match r x with
  | some y => (true, y)
  | none => (false, Ko.z)

theorem toF_run {Ka Ko : Kd} {r : Ka.T → Option Ko.T} {run : Nat → Ka.T → Option Ko.T} (h : ∀ x, ∃ n, run n x = r x) (x : Ka.T) (hx : (toF r x).1 = true) : ∃ n, run n x = some (toF r x).2 := by
  obtain ⟨n, hn⟩ := h x
  refine ⟨n, ?_⟩
  rw [hn]
  unfold toF at hx ⊢
  cases hr : r x with
  | none => rw [hr] at hx; cases hx
  | some y => rfl

end Go.Proofs.Ytkmeimhapokdlaa.Ae
