/- Words of 64 bits, as the window keeps them. -/
import Derived.Test.YtloohkifibfdiaaPureCommutes
import Derived.Laws.Bits64
set_option linter.unusedVariables false
set_option linter.unusedSimpArgs false
namespace Go.Proofs.Ytloohkifibfdiaa.Ae
open Go

theorem wrap_nat (n : Nat) : IntKind.u64.wrap (n : Int) = ((n % 2 ^ 64 : Nat) : Int) := by
  rw [IntKind.wrap_u64]
  omega

theorem ofInt_nat (A : BitVec 64) : BitVec.ofInt IntKind.u64.bits (A.toNat : Int) = A := by
  show BitVec.ofInt 64 (A.toNat : Int) = A
  rw [BitVec.ofInt_natCast]
  simp

theorem orI_bv (A B : BitVec 64) : orI (A.toNat : Int) (B.toNat : Int) = ((A ||| B).toNat : Int) := by
  unfold orI
  rw [ofInt_nat, ofInt_nat]
  show IntKind.u64.wrap (((A ||| B : BitVec 64).toNat : Nat) : Int) = _
  rw [wrap_nat, Nat.mod_eq_of_lt (A ||| B).isLt]

theorem shlI_bv (A : BitVec 64) (k : Nat) : shlI (A.toNat : Int) (k : Int) = ((A <<< k).toNat : Int) := by
  unfold shlI
  show IntKind.u64.wrap ((A.toNat : Int) * 2 ^ (min k 64)) = _
  rw [show ((A.toNat : Int) * 2 ^ (min k 64)) = ((A.toNat * 2 ^ (min k 64) : Nat) : Int) by simp, wrap_nat]
  rw [BitVec.toNat_shiftLeft, Nat.shiftLeft_eq]
  congr 1
  by_cases h : k ≤ 64
  · rw [Nat.min_eq_left h]
  · rw [Nat.min_eq_right (by omega), Nat.mul_mod_left]
    rw [show k = 64 + (k - 64) by omega, Nat.pow_add, ← Nat.mul_assoc, Nat.mul_right_comm, Nat.mul_mod_left]

theorem bitI_bv (A : BitVec 64) (k : Nat) (hk : k < 64) : bitI (A.toNat : Int) (k : Int) = A.getLsbD k := by
  unfold bitI
  have e : ((A.toNat : Int).fdiv (2 ^ (min ((k : Int)).toNat IntKind.u64.bits))) = (((A >>> k).toNat : Nat) : Int) := by
    show ((A.toNat : Int).fdiv (2 ^ (min k 64))) = _
    rw [Nat.min_eq_left (by omega), BitVec.toNat_ushiftRight, Nat.shiftRight_eq_div_pow, Int.fdiv_eq_ediv_of_nonneg _ (by exact Int.pow_nonneg (by omega))]
    simp
  rw [e, ofInt_nat]
  show (IntKind.u64.wrap (((A >>> k &&& BitVec.ofInt 64 1 : BitVec 64).toNat : Nat) : Int) == 1) = _
  rw [wrap_nat, Nat.mod_eq_of_lt (BitVec.isLt _)]
  have e1 : (A >>> k &&& BitVec.ofInt 64 1 : BitVec 64).toNat = (A >>> k).toNat % 2 := by
    rw [BitVec.toNat_and]
    show (A >>> k).toNat &&& 1 = _
    rw [Nat.and_one_is_mod]
  rw [e1, BitVec.toNat_ushiftRight, BitVec.getLsbD, Nat.testBit_eq_decide_div_mod_eq, Nat.shiftRight_eq_div_pow]
  rcases Nat.mod_two_eq_zero_or_one (A.toNat / 2 ^ k) with h | h <;> rw [h] <;> rfl

theorem dif_le {a b : Nat} (h : b ≤ a) (ha : a < 2 ^ 64) : dif (a : Int) (b : Int) = ((a - b : Nat) : Int) := by
  unfold dif
  rw [show ((a : Int) - (b : Int)) = ((a - b : Nat) : Int) by omega, wrap_nat, Nat.mod_eq_of_lt (by omega)]

end Go.Proofs.Ytloohkifibfdiaa.Ae
