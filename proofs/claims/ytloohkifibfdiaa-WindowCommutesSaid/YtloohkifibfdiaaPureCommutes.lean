/- WindowCommutes: the plain law (under way). -/
import Derived.Test.YtloohkifibfdiaaFnsW
set_option linter.unusedVariables false
set_option linter.unusedSimpArgs false
namespace Go.Proofs.Ytloohkifibfdiaa.Ae
open Go

theorem toF_some {Ka Ko : Kd} {r : Ka.T → Option Ko.T} {g : Ka.T → Ko.T} (h : ∀ x, r x = some (g x)) : toF r = fun x => (true, g x) := by
  funext x
  simp only [toF, h]

/-- A difference, a shift, a bit, as the program makes them. -/
def dif (a b : Int) : Int := IntKind.u64.wrap (a - b)
def orI (a b : Int) : Int := IntKind.u64.wrap ((BitVec.ofInt IntKind.u64.bits a ||| BitVec.ofInt IntKind.u64.bits b).toNat : Int)
def shlI (a k : Int) : Int := IntKind.u64.wrap (a * 2 ^ (min k.toNat IntKind.u64.bits))
def bitI (a k : Int) : Bool := IntKind.u64.wrap ((BitVec.ofInt IntKind.u64.bits (a.fdiv (2 ^ (min k.toNat IntKind.u64.bits))) &&& BitVec.ofInt IntKind.u64.bits 1).toNat : Int) == 1

theorem dif_nonneg (a b : Int) : decide (0 ≤ dif a b) = true := by
  unfold dif
  rw [decide_eq_true_eq]
  have := wf_wrap .u64 (a - b)
  simp only [Lit.wf, Bool.and_eq_true, decide_eq_true_eq] at this
  have h := this.1
  simpa [IntKind.min, IntKind.signed] using h

abbrev Win := Int × Int × Int × Int × Unit
def no : Win := (0, 0, 0, 0, ())

def takeN (f t s l n : Int) : Win × Int × Unit :=
  bif n == 0 then (no, 2, ()) else bif decide (n > 1152921504606846976) then (no, 2, ()) else bif decide (n < f) then (no, 8, ()) else
  bif decide (n ≤ t) && decide (dif t n ≥ 64) then (no, 8, ()) else bif decide (n ≤ t) && bitI s (dif t n) then (no, 7, ()) else bif decide (n ≥ l) then (no, 9, ()) else
  bif decide (n ≤ t) then ((f, t, orI s (shlI 1 (dif t n)), l, ()), 0, ()) else ((f, n, orI (shlI s (dif n t)) 1, l, ()), 0, ())

theorem raw34_eq (f t s l n : Int) : raw34 ((f, t, s, l, ()), n, ()) = some (takeN f t s l n) := by
  have d1 : decide (0 ≤ IntKind.u64.wrap (t - n)) = true := dif_nonneg t n
  have d2 : decide (0 ≤ IntKind.u64.wrap (n - t)) = true := dif_nonneg n t
  have b0 : bitI s (dif t n) = (IntKind.u64.wrap ((BitVec.ofInt IntKind.u64.bits (s.fdiv (2 ^ (min (IntKind.u64.wrap (t - n)).toNat IntKind.u64.bits))) &&& BitVec.ofInt IntKind.u64.bits 1).toNat : Int) == 1) := rfl
  unfold raw34 takeN
  simp only [d1, d2, cond_true]
  rw [b0]
  cases (n == 0)
  case true => rfl
  cases decide (n > 1152921504606846976)
  case true => rfl
  cases hf : decide (n < f)
  case true => rfl
  cases decide (n ≤ t)
  case false => cases decide (n ≥ l) <;> rfl
  cases hd : decide (dif t n ≥ 64)
  case true =>
    have hd' : decide (IntKind.u64.wrap (t - n) ≥ 64) = true := hd
    simp only [cond_true, cond_false, hd', Bool.and_self]; rfl
  have hd' : decide (IntKind.u64.wrap (t - n) ≥ 64) = false := hd
  simp only [cond_true, cond_false, hd', Bool.and_false, Bool.true_and]
  cases (IntKind.u64.wrap ((BitVec.ofInt IntKind.u64.bits (s.fdiv (2 ^ (min (IntKind.u64.wrap (t - n)).toNat IntKind.u64.bits))) &&& BitVec.ofInt IntKind.u64.bits 1).toNat : Int) == 1)
  case true => rfl
  cases decide (n ≥ l) <;> rfl

/-- What Check answers: 0, or 2. -/
def lowOk (s : Int) (g : Int) : Bool :=
  bif !(bitI s 0 == decide (g > 0)) then false else bif decide (g < 64) then !(s.fdiv (2 ^ (min g.toNat IntKind.u64.bits)) != 0) else true

def chkB (f t s l : Int) : Bool :=
  bif decide (f < 1) then false else bif decide (f > 1152921504606846977) then false else bif decide (l < f) then false else bif decide (l > 1152921504606846977) then false else
  bif decide (t < dif f 1) then false else bif decide (t ≥ l) && (t != dif f 1) then false else
  bif !((IntKind.u64.wrap ((BitVec.ofInt IntKind.u64.bits s &&& BitVec.ofInt IntKind.u64.bits 1).toNat : Int) == 1) == decide (dif (IntKind.u64.wrap (t + 1)) f > 0)) then false else
  bif decide (dif (IntKind.u64.wrap (t + 1)) f < 64) then !(s.fdiv (2 ^ (min (dif (IntKind.u64.wrap (t + 1)) f).toNat IntKind.u64.bits)) != 0) else true

theorem raw27_eq (f t s l : Int) : raw27 ((f, t, s, l, ()), ()) = some ((bif chkB f t s l then 0 else 2), ()) := by
  have d1 : decide (0 ≤ IntKind.u64.wrap (IntKind.u64.wrap (t + 1) - f)) = true := dif_nonneg _ _
  unfold raw27 chkB
  simp only [d1, cond_true]
  cases decide (f < 1)
  case true => rfl
  cases decide (f > 1152921504606846977)
  case true => rfl
  cases decide (l < f)
  case true => rfl
  cases decide (l > 1152921504606846977)
  case true => rfl
  cases h5 : decide (t < dif f 1)
  case true =>
    have h5' : decide (t < IntKind.u64.wrap (f - 1)) = true := h5
    simp only [cond_true, cond_false, h5']
  have h5' : decide (t < IntKind.u64.wrap (f - 1)) = false := h5
  have e : dif (IntKind.u64.wrap (t + 1)) f = IntKind.u64.wrap (IntKind.u64.wrap (t + 1) - f) := rfl
  have e1 : dif f 1 = IntKind.u64.wrap (f - 1) := rfl
  simp only [cond_true, cond_false, h5', e, e1]
  cases decide (t ≥ l) <;> simp only [cond_true, cond_false, Bool.true_and, Bool.false_and]
  · cases (!((IntKind.u64.wrap ((BitVec.ofInt IntKind.u64.bits s &&& BitVec.ofInt IntKind.u64.bits 1).toNat : Int) == 1) == decide (IntKind.u64.wrap (IntKind.u64.wrap (t + 1) - f) > 0)))
    case true => rfl
    cases decide (IntKind.u64.wrap (IntKind.u64.wrap (t + 1) - f) < 64)
    case false => rfl
    cases (s.fdiv (2 ^ (min (IntKind.u64.wrap (IntKind.u64.wrap (t + 1) - f)).toNat IntKind.u64.bits)) != 0) <;> rfl
  · cases (t != IntKind.u64.wrap (f - 1))
    case true => rfl
    cases (!((IntKind.u64.wrap ((BitVec.ofInt IntKind.u64.bits s &&& BitVec.ofInt IntKind.u64.bits 1).toNat : Int) == 1) == decide (IntKind.u64.wrap (IntKind.u64.wrap (t + 1) - f) > 0)))
    case true => rfl
    cases decide (IntKind.u64.wrap (IntKind.u64.wrap (t + 1) - f) < 64)
    case false => rfl
    cases (s.fdiv (2 ^ (min (IntKind.u64.wrap (IntKind.u64.wrap (t + 1) - f)).toNat IntKind.u64.bits)) != 0) <;> rfl

/-- More is allowed: the window is a window still. -/
theorem chkB_more {f t s l m : Int} (h : chkB f t s l = true) (h1 : l < m) (h2 : m ≤ 1152921504606846977) : chkB f t s m = true := by
  unfold chkB at h ⊢
  cases c1 : decide (f < 1) <;> simp only [c1, cond_true, cond_false, Bool.false_eq_true] at h ⊢
  cases c2 : decide (f > 1152921504606846977) <;> simp only [c2, cond_true, cond_false, Bool.false_eq_true] at h ⊢
  cases c3 : decide (l < f) <;> simp only [c3, cond_true, cond_false, Bool.false_eq_true] at h
  cases c4 : decide (l > 1152921504606846977) <;> simp only [c4, cond_true, cond_false, Bool.false_eq_true] at h
  have c3' : ¬ l < f := of_decide_eq_false c3
  have d3 : decide (m < f) = false := decide_eq_false (by omega)
  have d4 : decide (m > 1152921504606846977) = false := decide_eq_false (by omega)
  rw [d3, d4]
  simp only [cond_false]
  cases c5 : decide (t < dif f 1) <;> simp only [c5, cond_true, cond_false, Bool.false_eq_true] at h ⊢
  cases c6 : (decide (t ≥ l) && (t != dif f 1)) <;> simp only [c6, cond_true, cond_false, Bool.false_eq_true] at h
  have d6 : (decide (t ≥ m) && (t != dif f 1)) = false := by
    cases c7 : (t != dif f 1)
    · simp
    · rw [c7] at c6
      simp at c6 ⊢
      omega
  rw [d6]
  exact h

end Go.Proofs.Ytloohkifibfdiaa.Ae
