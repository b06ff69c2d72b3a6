/- DetectApart: the plain law. -/
import Derived.Test.YtloohkifibfdiaaFns
set_option linter.unusedVariables false
set_option linter.unusedSimpArgs false
namespace Go.Proofs.Ytloohkifibfdiaa.Ae
open Go

def WOk (h m b q : Int) : Prop := 2 ≤ m ∧ m ≤ 1024 ∧ 1 ≤ b ∧ b < m ∧ 0 ≤ h ∧ h ≤ m ∧ 0 ≤ q ∧ q ≤ b
instance (h m b q : Int) : Decidable (WOk h m b q) := by unfold WOk; exact inferInstance

def wok (h m b q : Int) : Bool := decide (WOk h m b q)
theorem wok_t {h m b q : Int} (k : WOk h m b q) : wok h m b q = true := decide_eq_true k
theorem wok_f {h m b q : Int} (k : ¬ WOk h m b q) : wok h m b q = false := decide_eq_false k

theorem toF_some {Ka Ko : Kd} {r : Ka.T → Option Ko.T} {g : Ka.T → Ko.T} (h : ∀ x, r x = some (g x)) : toF r = fun x => (true, g x) := by
  funext x
  simp only [toF, h]

theorem f33 : G33 = fun x => (true, wok x.1.1 x.1.2.1 x.1.2.2.1 x.1.2.2.2.1, ()) := toF_some fun x => by
  obtain ⟨⟨h, m, b, q, u⟩, v⟩ := x
  show raw33 ((h, m, b, q, u), v) = some (wok h m b q, ())
  by_cases h1 : m ≥ 2 <;> by_cases h2 : m ≤ 1024 <;> by_cases h3 : b ≥ 1 <;> by_cases h4 : b < m <;> by_cases h5 : h ≥ 0 <;> by_cases h6 : h ≤ m <;> by_cases h7 : q ≥ 0 <;> simp [raw33, wok, WOk, h1, h2, h3, h4, h5, h6, h7] <;> omega

theorem f17 : G17 = fun x => (true, (bif wok x.1.1 x.1.2.1 x.1.2.2.1 x.1.2.2.2.1 then 0 else 2), ()) := toF_some fun x => by
  rw [f33]
  simp only [raw17, cond_true]
  cases wok x.1.1 x.1.2.1 x.1.2.2.1 x.1.2.2.2.1 <;> rfl

theorem f18 : G18 = fun x => (true, (wok x.1.1 x.1.2.1 x.1.2.2.1 x.1.2.2.2.1 && (x.1.1 == x.1.2.1)), ()) := toF_some fun x => by
  rw [f33]
  simp only [raw18, cond_true]
  cases wok x.1.1 x.1.2.1 x.1.2.2.1 x.1.2.2.2.1 <;> rfl

theorem f19 : G19 = fun x => (true, (wok x.1.1 x.1.2.1 x.1.2.2.1 x.1.2.2.2.1 && (x.1.2.2.2.1 == x.1.2.2.1)), ()) := toF_some fun x => by
  rw [f33]
  simp only [raw19, cond_true]
  cases wok x.1.1 x.1.2.1 x.1.2.2.1 x.1.2.2.2.1 <;> rfl

theorem f14 : G14 = fun x => (true, (bif wok x.1.1 x.1.2.1 x.1.2.2.1 x.1.2.2.2.1 then IntKind.i64.wrap (x.1.2.1 - x.1.1) else 0), ()) := toF_some fun x => by
  rw [f33]
  simp only [raw14, cond_true]
  cases wok x.1.1 x.1.2.1 x.1.2.2.1 x.1.2.2.2.1 <;> rfl

/-- The two counts put in. -/
def withN (h m b q x y : Int) : (Int × Int × Int × Int × Unit) × Int × Unit :=
  bif wok h m b q then (((if m < x then m else x), m, b, (if b < y then b else y), ()), 0, ()) else ((0, 0, 0, 0, ()), 2, ())

theorem f32 : G32 = fun x => (true, withN x.1.1 x.1.2.1 x.1.2.2.1 x.1.2.2.2.1 x.2.1 x.2.2.1) := toF_some fun x => by
  rw [f17]
  simp only [raw32, cond_true, withN]
  cases wok x.1.1 x.1.2.1 x.1.2.2.1 x.1.2.2.2.1 <;> rfl

def inc (n : Int) : Int := IntKind.i64.wrap (n + 1)

theorem f15 : G15 = fun x => (true, withN x.1.1 x.1.2.1 x.1.2.2.1 x.1.2.2.2.1 0 x.1.2.2.2.1) := toF_some fun x => by
  rw [f32]; rfl
theorem f16 : G16 = fun x => (true, withN x.1.1 x.1.2.1 x.1.2.2.1 x.1.2.2.2.1 x.1.1 0) := toF_some fun x => by
  rw [f32]; rfl
theorem f12 : G12 = fun x => (true, withN x.1.1 x.1.2.1 x.1.2.2.1 x.1.2.2.2.1 (inc x.1.1) (inc x.1.2.2.2.1)) := toF_some fun x => by
  rw [f32]; rfl

theorem apart_ints (h m b q : Int) : raw5 G13 G17 G18 G19 G14 G15 G16 G12 ((h, m, b, q, ()), ()) = some (true, ()) := by
  rw [f17, f18, f19, f14, f15, f16, f12]
  simp only [raw5, G13, cond_true, cond_false, Bool.not_true]
  by_cases k : WOk h m b q
  · have kH : WOk 0 m b q := by unfold WOk at k ⊢; omega
    have kT : WOk h m b 0 := by unfold WOk at k ⊢; omega
    have kB : WOk 0 m b 0 := by unfold WOk at k ⊢; omega
    have m0 : ¬ (0 : Int) = m := by have := k; unfold WOk at this; omega
    have b0 : ¬ (0 : Int) = b := by have := k; unfold WOk at this; omega
    have e1 : ¬ m < h := by have := k; unfold WOk at this; omega
    have e2 : ¬ b < 0 := by have := k; unfold WOk at this; omega
    have e3 : ¬ m < 0 := by have := k; unfold WOk at this; omega
    have e4 : ¬ b < q := by have := k; unfold WOk at this; omega
    have w1 : inc h = h + 1 := by unfold inc; rw [IntKind.wrap_i64]; have := k; unfold WOk at this; omega
    have w2 : inc q = q + 1 := by unfold inc; rw [IntKind.wrap_i64]; have := k; unfold WOk at this; omega
    have kN : WOk (if m < h + 1 then m else h + 1) m b (if b < q + 1 then b else q + 1) := by
      unfold WOk at k ⊢
      split <;> split <;> omega
    simp only [withN, wok_t k, wok_t kH, wok_t kT, wok_t kB, cond_true, e1, e2, e3, e4, if_false, w1, w2, wok_t kN]
    have kb := k
    unfold WOk at kb
    have z1 : ((0 : Int) == m) = false := beq_false_of_ne m0
    have z2 : ((0 : Int) == b) = false := beq_false_of_ne b0
    by_cases c1 : h = m
    · have d1 : (h == m) = true := by simp [c1]
      have d2 : ((if m < h + 1 then m else h + 1) == m) = true := by rw [if_pos (by omega)]; simp
      by_cases c2 : q = b
      · have d3 : (q == b) = true := by simp [c2]
        have d4 : ((if b < q + 1 then b else q + 1) == b) = true := by rw [if_pos (by omega)]; simp
        simp [z1, z2, d1, d2, d3, d4]
      · have d3 : (q == b) = false := beq_false_of_ne c2
        simp [z1, z2, d1, d2, d3]
    · have d1 : (h == m) = false := beq_false_of_ne c1
      by_cases c2 : q = b
      · have d3 : (q == b) = true := by simp [c2]
        have d4 : ((if b < q + 1 then b else q + 1) == b) = true := by rw [if_pos (by omega)]; simp
        simp [z1, z2, d1, d3, d4]
      · have d3 : (q == b) = false := beq_false_of_ne c2
        simp [z1, z2, d1, d3]
  · simp [wok_f k]

theorem apart_pure (x : K5a.T) : raw5 G13 G17 G18 G19 G14 G15 G16 G12 x = some (true, ()) := by
  obtain ⟨⟨h, m, b, q, u⟩, v⟩ := x
  exact apart_ints h m b q

end Go.Proofs.Ytloohkifibfdiaa.Ae
