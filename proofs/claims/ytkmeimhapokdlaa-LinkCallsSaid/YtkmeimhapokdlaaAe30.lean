/- What the printed texts use. -/
import Derived.Test.YtkmeimhapokdlaaAe29
import Derived.Test.YtkmeimhapokdlaaAe25
set_option linter.unusedVariables false
namespace Go.Proofs.Ytkmeimhapokdlaa.Ae
open Go

/-- A tree of cases as a function and what it asks. -/
def toM {ma mo : Md} (r : ma.T → Option (mo.T × ma.backs.T)) (x : ma.T) : Bool × (mo.T × ma.backs.T) := match r x with
  | some y => (true, y)
  | none => (false, (mo.z, ma.backs.z))

theorem toM_run {ma mo : Md} {r : ma.T → Option (mo.T × ma.backs.T)} {run : Nat → ma.T → Option (mo.T × ma.backs.T)} (h : ∀ x, ∃ n, run n x = r x) (x : ma.T) (hx : (toM r x).1 = true) : ∃ n, run n x = some (toM r x).2 := by
  obtain ⟨n, hn⟩ := h x
  refine ⟨n, ?_⟩
  rw [hn]
  unfold toM at hx ⊢
  cases hr : r x with
  | none => rw [hr] at hx; cases hx
  | some y => rfl

theorem toM_get {ma mo : Md} {r : ma.T → Option (mo.T × ma.backs.T)} {x : ma.T} (h : (toM r x).1 = true) : ∃ y, r x = some y ∧ (toM r x).2 = y := by
  unfold toM at h ⊢
  cases hr : r x with
  | none => rw [hr] at h; cases h
  | some y => exact ⟨y, rfl, rfl⟩

theorem toM_some {ma mo : Md} {r : ma.T → Option (mo.T × ma.backs.T)} {x : ma.T} {y : mo.T × ma.backs.T} (h : r x = some y) : toM r x = (true, y) := by
  unfold toM; rw [h]

/-- One more of what is known of a callee: the newest is asked first. -/
def addV (S : Specs) (id : Nat) (sp : AV → Hp → Nat → Res) : Specs := fun f args hp key => bif Nat.beq f id then (match sp args hp key with
  | some r => some r
  | none => S f args hp key) else S f args hp key

theorem SpecOK.addV {S : Specs} {P : Program} {gl : Nat → Option AV} {id : Nat} {sp : AV → Hp → Nat → Res} (h : SpecOK S P gl) (h' : FnOK P gl id sp) : SpecOK (addV S id sp) P gl := by
  refine ⟨fun f args hp key r hr => ?_, fun f args hp key v Δ hr => ?_⟩
  all_goals
    unfold Ae.addV at hr
    cases hb : Nat.beq f id with
    | true =>
      rw [hb] at hr
      rw [Nat.eq_of_beq_eq_true hb] at hr ⊢
      simp only [cond_true] at hr
      split at hr
      · rename_i q hq
        cases hr
        first
          | exact h'.there _ _ _ _ hq
          | exact h'.calls _ _ _ _ _ hq
      · first
          | exact h.there _ _ _ _ _ hr
          | exact h.calls _ _ _ _ _ _ hr
    | false =>
      rw [hb] at hr
      first
        | exact h.there _ _ _ _ _ hr
        | exact h.calls _ _ _ _ _ _ hr

/-- A call: what it asks, and what follows its answer. -/
def cl {α R : Type} (p : Bool × α) (K : α → Option R) : Option R := bif p.1 then K p.2 else none
/-- A check, and what follows. -/
def ck {R : Type} (b : Bool) (K : Option R) : Option R := bif b then K else none
/-- What two ways lead to, and the ways. -/
def jn {α β : Type} (T : α) (A : α → β) : β := A T

theorem cl_true {α R : Type} (y : α) (K : α → Option R) : cl (true, y) K = K y := rfl
theorem ck_true {R : Type} (K : Option R) : ck true K = K := rfl

/-- The same thing, with its text out of sight. -/
noncomputable def sealed {α : Type} (x : α) : { y : α // y = x } := Classical.choice ⟨⟨x, rfl⟩⟩

def bits (n : Nat) : List Bool := go 400 n [] where
  go : Nat → Nat → List Bool → List Bool
  | 0, _, acc => acc
  | d + 1, n, acc => if n ≤ 1 then acc else go d (n / 2) ((n % 2 == 1) :: acc)

end Go.Proofs.Ytkmeimhapokdlaa.Ae
