/- What the functions on windows answer at valid windows, over natural numbers and a word of 64 bits. -/
import Derived.Test.YtloohkifibfdiaaFnsB
import Derived.Laws.Bits64
set_option linter.unusedVariables false
set_option linter.unusedSimpArgs false
namespace Go.Proofs.Ytloohkifibfdiaa.Ae
open Go

theorem wrap_nat (n : Nat) : IntKind.u64.wrap (n : Int) = ((n % 2 ^ 64 : Nat) : Int) := by
  rw [IntKind.wrap_u64]
  omega

theorem ofInt_nat (A : BitVec 64) : BitVec.ofInt 64 (A.toNat : Int) = A := by
  rw [BitVec.ofInt_natCast]
  simp

/-- The bits of a word behind k places. -/
theorem shr_bv (A : BitVec 64) (k : Nat) : (A.toNat : Int).fdiv (2 ^ (min k 64)) = ((A >>> k).toNat : Int) := by
  rw [BitVec.toNat_ushiftRight, Nat.shiftRight_eq_div_pow, Int.fdiv_eq_ediv_of_nonneg _ (by exact Int.pow_nonneg (by omega))]
  by_cases h : k ≤ 64
  · rw [Nat.min_eq_left h]; simp
  · rw [Nat.min_eq_right (by omega), Nat.div_eq_of_lt (Nat.lt_of_lt_of_le A.isLt (Nat.pow_le_pow_right (by omega) (by omega)))]
    have := A.isLt
    have h2 : ((A.toNat : Int) / 2 ^ 64) = 0 := Int.ediv_eq_zero_of_lt (by omega) (by omega)
    rw [h2]; rfl

theorem and1_bv (A : BitVec 64) : (IntKind.u64.wrap ((BitVec.ofInt 64 (A.toNat : Int) &&& BitVec.ofInt 64 (1 : Int)).toNat : Int) == (1 : Int)) = A.getLsbD 0 := by
  rw [ofInt_nat, wrap_nat, Nat.mod_eq_of_lt (BitVec.isLt _)]
  have e1 : (A &&& BitVec.ofInt 64 1 : BitVec 64).toNat = A.toNat % 2 := by
    rw [BitVec.toNat_and]
    show A.toNat &&& 1 = _
    rw [Nat.and_one_is_mod]
  rw [e1, BitVec.getLsbD, Nat.testBit_eq_decide_div_mod_eq]
  rcases Nat.mod_two_eq_zero_or_one A.toNat with h | h <;> simp [h]

theorem or_bv (A B : BitVec 64) : IntKind.u64.wrap ((BitVec.ofInt 64 (A.toNat : Int) ||| BitVec.ofInt 64 (B.toNat : Int)).toNat : Int) = ((A ||| B).toNat : Int) := by
  rw [ofInt_nat, ofInt_nat, wrap_nat, Nat.mod_eq_of_lt (BitVec.isLt _)]

theorem shl_bv (A : BitVec 64) (k : Nat) : IntKind.u64.wrap ((A.toNat : Int) * 2 ^ (min k 64)) = ((A <<< k).toNat : Int) := by
  rw [show ((A.toNat : Int) * 2 ^ (min k 64)) = ((A.toNat * 2 ^ (min k 64) : Nat) : Int) by simp, wrap_nat]
  rw [BitVec.toNat_shiftLeft, Nat.shiftLeft_eq]
  congr 1
  by_cases h : k ≤ 64
  · rw [Nat.min_eq_left h]
  · rw [Nat.min_eq_right (by omega), Nat.mul_mod_left]
    rw [show k = 64 + (k - 64) by omega, Nat.pow_add, ← Nat.mul_assoc, Nat.mul_right_comm, Nat.mul_mod_left]

/-- A window that may be. -/
structure W (f t : Nat) (S : BitVec 64) (l : Nat) : Prop where
  f1 : 1 ≤ f
  fl : f ≤ l
  le : l ≤ 1152921504606846977
  ft : f ≤ t + 1
  tl : t < l
  low : S.getLsbD 0 = decide (f ≤ t)
  high : ∀ i, t + 1 - f ≤ i → S.getLsbD i = false

theorem W.shr {f t l : Nat} {S : BitVec 64} (h : W f t S l) : (S >>> (t + 1 - f)).toNat = 0 := by
  have : S >>> (t + 1 - f) = 0#64 := by
    apply BitVec.eq_of_getLsbD_eq
    intro i hi
    rw [BitVec.getLsbD_ushiftRight, h.high _ (by omega)]; simp
  rw [this]; rfl

theorem G27_ok {f t l : Nat} {S : BitVec 64} (h : W f t S l) : G27 (((f : Int), (t : Int), (S.toNat : Int), (l : Int), ()), ()) = (true, (0, ()), ((), ())) := by
  refine G27_of ?_
  obtain ⟨h1, h2, h3, h4, h5, h6, h7⟩ := h
  have hs := W.shr ⟨h1, h2, h3, h4, h5, h6, h7⟩
  have w1 : IntKind.u64.wrap ((f : Int) - 1) = ((f - 1 : Nat) : Int) := by rw [wrap_u64 (by omega) (by omega)]; omega
  have w2 : IntKind.u64.wrap ((t : Int) + 1) = ((t + 1 : Nat) : Int) := by rw [wrap_u64 (by omega) (by omega)]; omega
  have w3 : IntKind.u64.wrap (((t + 1 : Nat) : Int) - (f : Int)) = ((t + 1 - f : Nat) : Int) := by rw [wrap_u64 (by omega) (by omega)]; omega
  unfold t27
  rw [w2, w3, w1, and1_bv, Int.toNat_natCast, shr_bv, hs, h6]
  have c1 : ¬ ((f : Int) < 1) := by omega
  have c2 : ¬ ((f : Int) > 1152921504606846977) := by omega
  have c3 : ¬ ((l : Int) < f) := by omega
  have c4 : ¬ ((l : Int) > 1152921504606846977) := by omega
  have c5 : ¬ ((t : Int) < ((f - 1 : Nat) : Int)) := by omega
  have c6 : ¬ ((t : Int) ≥ l) := by omega
  have c7 : decide (f ≤ t) = decide (((t + 1 - f : Nat) : Int) > 0) := by rw [decide_eq_decide]; omega
  have c8 : (0 : Int) ≤ ((t + 1 - f : Nat) : Int) := by omega
  rw [c7]
  simp only [jn, ck, c1, c2, c3, c4, c5, c6, c8, decide_false, decide_true, cond_false, cond_true, beq_self_eq_true, Bool.not_true]
  cases decide (((t + 1 - f : Nat) : Int) < 64) <;> rfl

/-- What Take does, over natural numbers: the error, the new Top and Seen. -/
def tk (f t : Nat) (S : BitVec 64) (l n : Nat) : Nat × Nat × BitVec 64 :=
  if n = 0 ∨ 1152921504606846976 < n then (2, 0, 0) else if n < f ∨ (n ≤ t ∧ 64 ≤ t - n) then (8, 0, 0) else if n ≤ t ∧ S.getLsbD (t - n) = true then (7, 0, 0) else
  if l ≤ n then (9, 0, 0) else if n ≤ t then (0, t, S ||| 1#64 <<< (t - n)) else (0, n, S <<< (n - t) ||| 1#64)

theorem and1_shr (A : BitVec 64) (k : Nat) : (IntKind.u64.wrap ((BitVec.ofInt 64 ((A.toNat : Int).fdiv (2 ^ (min k 64))) &&& BitVec.ofInt 64 (1 : Int)).toNat : Int) == (1 : Int)) = A.getLsbD k := by
  rw [shr_bv, and1_bv, BitVec.getLsbD_ushiftRight, Nat.add_zero]

theorem G34_ok {f t l n : Nat} {S : BitVec 64} (h : W f t S l) (hn : n < 2 ^ 64) : G34 (((f : Int), (t : Int), (S.toNat : Int), (l : Int), ()), (n : Int), ()) =
    (true, (if (tk f t S l n).1 = 0 then (((f : Int), ((tk f t S l n).2.1 : Int), ((tk f t S l n).2.2.toNat : Int), (l : Int), ()), 0, ()) else ((0, 0, 0, 0, ()), ((tk f t S l n).1 : Int), ())), ((), (), ())) := by
  refine G34_of ?_
  obtain ⟨h1, h2, h3, h4, h5, h6, h7⟩ := h
  unfold t34 tk
  by_cases c1 : n = 0
  · subst c1; simp [jn]
  by_cases c2 : 1152921504606846976 < n
  · simp [jn, Bool.cond_eq_ite, c1, c2, show (1152921504606846976 : Int) < (n : Int) by omega]
  have c2' : ¬ ((1152921504606846976 : Int) < (n : Int)) := by omega
  by_cases c3 : n < f
  · simp [jn, Bool.cond_eq_ite, c1, c2, c2', c3, show (n : Int) < f by omega]
  have c3' : ¬ ((n : Int) < f) := by omega
  by_cases c4 : n ≤ t
  · have c4' : (n : Int) ≤ t := by omega
    have w : IntKind.u64.wrap ((t : Int) - (n : Int)) = ((t - n : Nat) : Int) := by rw [wrap_u64 (by omega) (by omega)]; omega
    rw [w, Int.toNat_natCast, and1_shr]
    have hp : (0 : Int) ≤ ((t - n : Nat) : Int) := by omega
    by_cases c5 : 64 ≤ t - n
    · simp [jn, Bool.cond_eq_ite, c1, c2, c2', c3, c3', c4, c4', c5, show (64 : Int) ≤ ((t - n : Nat) : Int) by omega]
    · have c5' : ¬ ((64 : Int) ≤ ((t - n : Nat) : Int)) := by omega
      by_cases c6 : S.getLsbD (t - n) = true
      · simp [jn, ck, Bool.cond_eq_ite, c1, c2, c2', c3, c3', c4, c4', c5, c5', c6]
      · have c6' : S.getLsbD (t - n) = false := by simpa using c6
        have c7 : ¬ (l ≤ n) := by omega
        have c7' : ¬ ((n : Int) ≥ l) := by omega
        have e1 : IntKind.u64.wrap ((1 : Int) * 2 ^ (min (t - n) 64)) = ((1#64 <<< (t - n)).toNat : Int) := shl_bv 1#64 (t - n)
        rw [e1, or_bv]
        simp [jn, ck, Bool.cond_eq_ite, c1, c2, c2', c3, c3', c4, c4', c5, c5', c6', c7, c7', hp]
  · have c4' : ¬ ((n : Int) ≤ t) := by omega
    by_cases c7 : l ≤ n
    · simp [jn, Bool.cond_eq_ite, c1, c2, c2', c3, c3', c4, c4', c7, show (l : Int) ≤ n by omega]
    · have c7' : ¬ ((l : Int) ≤ n) := by omega
      have w : IntKind.u64.wrap ((n : Int) - (t : Int)) = ((n - t : Nat) : Int) := by rw [wrap_u64 (by omega) (by omega)]; omega
      have e2 : IntKind.u64.wrap ((BitVec.ofInt 64 ((S <<< (n - t)).toNat : Int) ||| BitVec.ofInt 64 (1 : Int)).toNat : Int) = ((S <<< (n - t) ||| 1#64).toNat : Int) := or_bv _ 1#64
      rw [w, Int.toNat_natCast, shl_bv, e2]
      have hp : (0 : Int) ≤ ((n - t : Nat) : Int) := by omega
      simp [jn, ck, Bool.cond_eq_ite, c1, c2, c2', c3, c3', c4, c4', c7, c7', hp]

theorem G23_ok {f t l n : Nat} {S : BitVec 64} (h : W f t S l) (hn : n < 2 ^ 64) : G23 (((f : Int), (t : Int), (S.toNat : Int), (l : Int), ()), (n : Int), ()) =
    (true, (if (tk f t S l n).1 = 0 then (((f : Int), ((tk f t S l n).2.1 : Int), ((tk f t S l n).2.2.toNat : Int), (l : Int), ()), 0, ()) else ((0, 0, 0, 0, ()), ((tk f t S l n).1 : Int), ())), ((), (), ())) := by
  refine G23_of ?_
  unfold t23
  rw [G27_ok h, G34_ok h hn]
  simp only [cl_true]
  split <;> simp [Bool.cond_eq_ite]

theorem G22_ok {f t l m : Nat} {S : BitVec 64} (h : W f t S l) : G22 (((f : Int), (t : Int), (S.toNat : Int), (l : Int), ()), (m : Int), ()) =
    (true, (if 1152921504606846977 < m then ((0, 0, 0, 0, ()), 2, ()) else if m ≤ l then ((0, 0, 0, 0, ()), 8, ()) else (((f : Int), (t : Int), (S.toNat : Int), (m : Int), ()), 0, ())), ((), (), ())) := by
  refine G22_of ?_
  unfold t22
  rw [G27_ok h]
  simp only [cl_true]
  by_cases c1 : 1152921504606846977 < m
  · simp [Bool.cond_eq_ite, c1, show (1152921504606846977 : Int) < m by omega]
  · have c1' : ¬ ((1152921504606846977 : Int) < m) := by omega
    by_cases c2 : m ≤ l
    · simp [Bool.cond_eq_ite, c1, c1', c2, show (m : Int) ≤ l by omega]
    · simp [Bool.cond_eq_ite, c1, c1', c2, show ¬ ((m : Int) ≤ l) by omega]

theorem G26_ok {f t l : Nat} {S : BitVec 64} (h : W f t S l) : G26 (((f : Int), (t : Int), (S.toNat : Int), (l : Int), ()), ()) =
    (true, (((l : Int), ((l - 1 : Nat) : Int), 0, (l : Int), ()), 0, ()), ((), ())) := by
  refine G26_of ?_
  unfold t26
  have h1 := h.f1
  have h2 := h.fl
  have h3 := h.le
  rw [G27_ok h, wrap_u64 (by omega) (by omega), show (l : Int) - 1 = ((l - 1 : Nat) : Int) by omega]
  simp [cl_true]

theorem G24_ok {f t l n : Nat} {S : BitVec 64} (h : W f t S l) (hn : n < 2 ^ 64) : G24 (((f : Int), (t : Int), (S.toNat : Int), (l : Int), ()), (n : Int), ()) =
    (true, (decide (n ≤ t ∧ t - n < 64) && S.getLsbD (t - n), ()), ((), (), ())) := by
  refine G24_of ?_
  unfold t24
  rw [G27_ok h]
  have h2 := h.le
  have h3 := h.tl
  by_cases c1 : n ≤ t
  · have w : IntKind.u64.wrap ((t : Int) - (n : Int)) = ((t - n : Nat) : Int) := by rw [wrap_u64 (by omega) (by omega)]; omega
    rw [w, Int.toNat_natCast, and1_shr]
    by_cases c2 : t - n < 64
    · simp [cl_true, jn, ck, Bool.cond_eq_ite, c1, c2, show (n : Int) ≤ t by omega, show ((t - n : Nat) : Int) < 64 by omega]
    · simp [cl_true, jn, ck, Bool.cond_eq_ite, c1, c2, show (n : Int) ≤ t by omega, show ¬ (((t - n : Nat) : Int) < 64) by omega]
  · simp [cl_true, jn, ck, Bool.cond_eq_ite, c1, show ¬ ((n : Int) ≤ t) by omega]

theorem G20_eq : G20 () = (true, (true, ()), ()) := by kernel_rfl
theorem G25_eq : G25 () = (true, ((1, 0, 0, 1, ()), ()), ()) := by kernel_rfl
end Go.Proofs.Ytloohkifibfdiaa.Ae
