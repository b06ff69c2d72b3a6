/- Two numbers taken in either order lead to the same window. -/
import Derived.Test.YtloohkifibfdiaaBits
set_option linter.unusedVariables false
set_option linter.unusedSimpArgs false
namespace Go.Proofs.Ytloohkifibfdiaa.Ae
open Go

theorem one_bv : (1 : Int) = ((1#64 : BitVec 64).toNat : Int) := rfl

theorem takeN_ok {f t l n : Nat} {B : BitVec 64} {w' : Win} (ht : t < 2 ^ 64) (hn : n < 2 ^ 64) (h : takeN f t (B.toNat : Int) l n = (w', 0, ())) :
    (n ≤ t ∧ t - n < 64 ∧ B.getLsbD (t - n) = false ∧ w' = ((f : Int), (t : Int), ((B ||| 1#64 <<< (t - n)).toNat : Int), (l : Int), ())) ∨ (t < n ∧ w' = ((f : Int), (n : Int), ((B <<< (n - t) ||| 1#64).toNat : Int), (l : Int), ())) := by
  unfold takeN at h
  cases h1 : ((n : Int) == 0) <;> simp only [h1, cond_true, cond_false, Prod.mk.injEq, reduceCtorEq, false_and, and_false] at h
  case true => simp at h
  cases h2 : decide ((n : Int) > 1152921504606846976) <;> simp only [h2, cond_true, cond_false] at h
  case true => simp at h
  cases h3 : decide ((n : Int) < f) <;> simp only [h3, cond_true, cond_false] at h
  case true => simp at h
  by_cases hnt : n ≤ t
  · left
    have d : dif (t : Int) (n : Int) = ((t - n : Nat) : Int) := dif_le hnt ht
    have h4 : decide ((n : Int) ≤ t) = true := decide_eq_true (by omega)
    rw [h4, d] at h
    simp only [Bool.true_and, cond_true] at h
    cases h5 : decide (((t - n : Nat) : Int) ≥ 64) <;> simp only [h5, cond_true, cond_false] at h
    case true => simp at h
    have h5' := of_decide_eq_false h5
    have hlt : t - n < 64 := by omega
    rw [bitI_bv B _ hlt] at h
    cases h6 : B.getLsbD (t - n) <;> simp only [h6, cond_true, cond_false] at h
    case true => simp at h
    cases h7 : decide ((n : Int) ≥ l) <;> simp only [h7, cond_true, cond_false] at h
    case true => simp at h
    refine ⟨hnt, hlt, rfl, ?_⟩
    rw [one_bv, shlI_bv, orI_bv] at h
    exact (Prod.mk.inj h).1.symm
  · right
    have h4 : decide ((n : Int) ≤ t) = false := decide_eq_false (by omega)
    have d : dif (n : Int) (t : Int) = ((n - t : Nat) : Int) := dif_le (by omega) hn
    rw [h4, d] at h
    simp only [Bool.false_and, cond_false] at h
    cases h7 : decide ((n : Int) ≥ l) <;> simp only [h7, cond_true, cond_false] at h
    case true => simp at h
    refine ⟨by omega, ?_⟩
    rw [shlI_bv, one_bv, orI_bv] at h
    exact (Prod.mk.inj h).1.symm

theorem bit_one (k : Nat) (hk : k < 64) : (1#64 <<< k).getLsbD k = true := by
  simp [BitVec.getLsbD_shiftLeft, hk]

theorem take_commutes {f t l a b : Nat} {B : BitVec 64} {w1 w2 w3 w4 : Win} (ht : t < 2 ^ 64) (ha : a < 2 ^ 64) (hb : b < 2 ^ 64) (e1 : takeN f t (B.toNat : Int) l a = (w1, 0, ())) (e2 : takeN w1.1 w1.2.1 w1.2.2.1 w1.2.2.2.1 b = (w2, 0, ()))
    (e3 : takeN f t (B.toNat : Int) l b = (w3, 0, ())) (e4 : takeN w3.1 w3.2.1 w3.2.2.1 w3.2.2.2.1 a = (w4, 0, ())) : a ≠ b ∧ w2 = w4 := by
  rcases takeN_ok ht ha e1 with ⟨p1, p2, p3, rfl⟩ | ⟨p1, rfl⟩ <;> rcases takeN_ok ht hb e3 with ⟨q1, q2, q3, rfl⟩ | ⟨q1, rfl⟩
  · rcases takeN_ok ht hb e2 with ⟨r1, r2, r3, rfl⟩ | ⟨r1, rfl⟩
    · rcases takeN_ok ht ha e4 with ⟨s1, s2, s3, rfl⟩ | ⟨s1, rfl⟩
      · refine ⟨?_, ?_⟩
        · rintro rfl
          rw [BitVec.getLsbD_or, bit_one _ r2] at r3
          simp at r3
        · rw [BitVec.or_assoc, BitVec.or_comm (1#64 <<< (t - a)), ← BitVec.or_assoc]
      · omega
    · omega
  · rcases takeN_ok ht hb e2 with ⟨r1, r2, r3, rfl⟩ | ⟨r1, rfl⟩
    · omega
    · rcases takeN_ok hb ha e4 with ⟨s1, s2, s3, rfl⟩ | ⟨s1, rfl⟩
      · refine ⟨by omega, ?_⟩
        have : (B ||| 1#64 <<< (t - a)) <<< (b - t) ||| 1#64 = B <<< (b - t) ||| 1#64 ||| 1#64 <<< (b - a) := by
          rw [BitVec.shiftLeft_or_distrib, ← BitVec.shiftLeft_add, show t - a + (b - t) = b - a by omega, BitVec.or_assoc, BitVec.or_comm (1#64 <<< (b - a)), ← BitVec.or_assoc]
        rw [this]
      · omega
  · rcases takeN_ok ha hb e2 with ⟨r1, r2, r3, rfl⟩ | ⟨r1, rfl⟩
    · rcases takeN_ok ht ha e4 with ⟨s1, s2, s3, rfl⟩ | ⟨s1, rfl⟩
      · omega
      · refine ⟨by omega, ?_⟩
        have : (B ||| 1#64 <<< (t - b)) <<< (a - t) ||| 1#64 = B <<< (a - t) ||| 1#64 ||| 1#64 <<< (a - b) := by
          rw [BitVec.shiftLeft_or_distrib, ← BitVec.shiftLeft_add, show t - b + (a - t) = a - b by omega, BitVec.or_assoc, BitVec.or_comm (1#64 <<< (a - b)), ← BitVec.or_assoc]
        rw [this]
    · omega
  · have key : ∀ {x y : Nat}, t < x → x < y → (B <<< (x - t) ||| 1#64) <<< (y - x) ||| 1#64 = B <<< (y - t) ||| 1#64 ||| 1#64 <<< (y - x) := by
      intro x y h1 h2
      rw [BitVec.shiftLeft_or_distrib, ← BitVec.shiftLeft_add, show x - t + (y - x) = y - t by omega, BitVec.or_assoc, BitVec.or_comm (1#64 <<< (y - x)), ← BitVec.or_assoc]
    rcases takeN_ok ha hb e2 with ⟨r1, r2, r3, rfl⟩ | ⟨r1, rfl⟩
    · rcases takeN_ok hb ha e4 with ⟨s1, s2, s3, rfl⟩ | ⟨s1, rfl⟩
      · have : a = b := by omega
        subst this
        simp [BitVec.getLsbD_or] at r3
      · exact ⟨by omega, by rw [key q1 s1]⟩
    · rcases takeN_ok hb ha e4 with ⟨s1, s2, s3, rfl⟩ | ⟨s1, rfl⟩
      · exact ⟨by omega, by rw [key p1 r1]⟩
      · omega

end Go.Proofs.Ytloohkifibfdiaa.Ae
