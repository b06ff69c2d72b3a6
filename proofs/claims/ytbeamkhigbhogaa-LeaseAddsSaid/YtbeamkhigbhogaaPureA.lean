/- The examples of chapter 6, and what its functions answer. -/
import Derived.Test.YtbeamkhigbhogaaFns
set_option linter.unusedVariables false
set_option linter.unusedSimpArgs false
namespace Go.Proofs.Ytbeamkhigbhogaa.Ae
open Go
theorem G11_eq : G11 () = (true, (true, ()), ()) := by kernel_rfl
theorem G9_eq : G9 () = (true, ((1, 0, ()), ()), ()) := by kernel_rfl
theorem names : runD (cx3 G8 G9 G10 G11 G12 0) (fnOf 3) (body 3) K3a K3o () = some (true, ()) := (eq3 G8 G9 G10 G11 G12 0).trans (by kernel_rfl)

/-- A counter that may be. -/
def V (a b : Int) : Prop := 0 ≤ b ∧ b ≤ 1152921504606846976 ∧ 1 ≤ a ∧ a ≤ b + 1
theorem G15_ok {a b : Int} (h : V a b) : G15 ((a, b, ()), ()) = (true, (0, ()), ((), ())) := by
  obtain ⟨h0, h1, h2, h3⟩ := h
  refine G15_of ?_
  unfold t15
  rw [wrap_u64 (n := b + 1) (by omega) (by omega)]
  simp [jn, show ¬ (b > 1152921504606846976) by omega, show ¬ (a > b + 1) by omega, show ¬ (a < 1) by omega]
theorem G15_bad {a b : Int} (hb : 0 ≤ b) (h : ¬ V a b) : G15 ((a, b, ()), ()) = (true, (2, ()), ((), ())) := by
  refine G15_of ?_
  unfold t15 V at *
  by_cases h1 : b ≤ 1152921504606846976
  · rw [wrap_u64 (n := b + 1) (by omega) (by omega)]
    by_cases h2 : a < 1
    · simp [jn, h2, show ¬ (b > 1152921504606846976) by omega]
    · simp [jn, h2, show a > b + 1 by omega, show ¬ (b > 1152921504606846976) by omega]
  · simp [jn, show b > 1152921504606846976 by omega]

theorem G8_ok {a b c : Int} (h : V a b) (h0 : 0 ≤ c) (h1 : c < 18446744073709551616) (hc : c ≠ 0) (hb : b ≠ 1152921504606846976) : G8 ((a, b, ()), c, ()) = (true, ((a, b + min (1152921504606846976 - b) c, ()), 0, ()), ((), (), ())) := by
  refine G8_of ?_
  unfold t8
  have h' := h
  obtain ⟨q0, q1, q2, q3⟩ := h'
  rw [G15_ok h, wrap_u64 (n := 1152921504606846976 - b) (by omega) (by omega)]
  have e : (if (1152921504606846976 - b) < c then (1152921504606846976 - b) else c) = min (1152921504606846976 - b) c := by
    split <;> omega
  rw [e, wrap_u64 (by omega) (by omega)]
  simp [cl_true, Bool.cond_eq_ite, hc, hb]
theorem G8_zero {a b : Int} (h : V a b) : G8 ((a, b, ()), 0, ()) = (true, ((0, 0, ()), 2, ()), ((), (), ())) := by
  refine G8_of ?_
  unfold t8
  rw [G15_ok h]
  simp [cl_true]
theorem G8_full {a c : Int} (h : V a 1152921504606846976) (hc : c ≠ 0) : G8 ((a, 1152921504606846976, ()), c, ()) = (true, ((0, 0, ()), 9, ()), ((), (), ())) := by
  refine G8_of ?_
  unfold t8
  rw [G15_ok h]
  simp [cl_true, Bool.cond_eq_ite, hc]
theorem G8_bad {a b c : Int} (hb : 0 ≤ b) (h : ¬ V a b) : G8 ((a, b, ()), c, ()) = (true, ((0, 0, ()), 2, ()), ((), (), ())) := by
  refine G8_of ?_
  unfold t8
  rw [G15_bad hb h]
  simp [cl_true]
theorem G10_ok {a b : Int} (h : V a b) (hab : a ≤ b) : G10 ((a, b, ()), ()) = (true, (a, (a + 1, b, ()), 0, ()), ((), ())) := by
  refine G10_of ?_
  unfold t10
  have h' := h
  obtain ⟨q0, q1, q2, q3⟩ := h'
  rw [G15_ok h, wrap_u64 (n := a + 1) (by omega) (by omega)]
  simp [cl_true, show ¬ (a > b) by omega]
theorem G10_none {a b : Int} (h : V a b) (hab : b < a) : G10 ((a, b, ()), ()) = (true, (0, (0, 0, ()), 6, ()), ((), ())) := by
  refine G10_of ?_
  unfold t10
  rw [G15_ok h]
  simp [cl_true, show (a > b) by omega]
theorem G12_ok {a b : Int} (h : V a b) : G12 ((a, b, ()), ()) = (true, (b + 1 - a, ()), ((), ())) := by
  refine G12_of ?_
  unfold t12
  have h' := h
  obtain ⟨q0, q1, q2, q3⟩ := h'
  rw [G15_ok h, wrap_u64 (n := b + 1) (by omega) (by omega), wrap_u64 (n := b + 1 - a) (by omega) (by omega)]
  simp [cl_true]
theorem G12_bad {a b : Int} (hb : 0 ≤ b) (h : ¬ V a b) : G12 ((a, b, ()), ()) = (true, (0, ()), ((), ())) := by
  refine G12_of ?_
  unfold t12
  rw [G15_bad hb h]
  simp [cl_true]
theorem G14_ok {a b : Int} (h : V a b) : G14 ((a, b, ()), ()) = (true, ((b + 1, b, ()), 0, ()), ((), ())) := by
  refine G14_of ?_
  unfold t14
  have h' := h
  obtain ⟨q0, q1, q2, q3⟩ := h'
  rw [G15_ok h, wrap_u64 (n := b + 1) (by omega) (by omega)]
  simp [cl_true]
theorem G13_eq {n m : Int} (hn : inR .i64 n) (h1 : 1 ≤ m) (h2 : m < 1000000) : G13 (n, m, ()) = (true, (n % m, ()), ((), (), ())) := by
  refine G13_of ?_
  unfold t13
  have e : n.tmod m = if 0 ≤ n then n % m else -((-n) % m) := by
    split
    · rename_i h; exact Int.tmod_eq_emod_of_nonneg h
    · rename_i h
      have := Int.neg_tmod (a := n) (b := m)
      rw [Int.tmod_eq_emod_of_nonneg (a := -n) (by omega)] at this
      omega
  have b1 : 0 ≤ n % m := Int.emod_nonneg _ (by omega)
  have b2 : n % m < m := Int.emod_lt_of_pos _ (by omega)
  have b3 : 0 ≤ (-n) % m := Int.emod_nonneg _ (by omega)
  have b4 : (-n) % m < m := Int.emod_lt_of_pos _ (by omega)
  by_cases h : 0 ≤ n
  · rw [if_pos h] at e
    rw [e]
    simp [jn, ck, Bool.cond_eq_ite, show ¬ (m < 1) by omega, show m ≠ 0 by omega, show ¬ (n % m < 0) by omega]
  · rw [if_neg h] at e
    rw [e]
    by_cases hz : (-n) % m = 0
    · have : n % m = 0 := by
        have := Int.dvd_of_emod_eq_zero hz
        exact Int.emod_eq_zero_of_dvd ((Int.dvd_neg).1 this)
      simp [jn, ck, Bool.cond_eq_ite, show ¬ (m < 1) by omega, show m ≠ 0 by omega, hz, this]
    · have : n % m = m - (-n) % m := by
        have h3 := Int.emod_add_mul_ediv (-n) m
        have h4 : n = (m - (-n) % m) + m * (-((-n) / m) - 1) := by
          rw [Int.mul_sub, Int.mul_neg]; omega
        have h5 : n % m = (m - (-n) % m) % m := by
          conv => lhs; rw [h4]
          exact Int.add_mul_emod_self_left _ _ _
        rw [h5]
        exact Int.emod_eq_of_lt (by omega) (by omega)
      rw [this, wrap_i64 (by omega) (by omega)]
      simp [jn, ck, Bool.cond_eq_ite, show ¬ (m < 1) by omega, show m ≠ 0 by omega, show (-((-n) % m) < 0) by omega]
      rw [if_pos (by omega)]
      congr 3
      omega

/-- LeaseOnce: the loop. -/
theorem loop4 (n : Nat) (l : List (Int × (Int × Unit))) (hl : K4a.ok (l, ())) : ∀ (k i : Nat) (last nx ls : Int), i ≤ l.length → l.length - i < k → V nx ls → last < nx →
    l4_506_0 G15 G8 G9 G10 G14 G11 G12 G13 n k l last i nx ls = some (true, ()) := by
  have hlen : l.length < 9223372036854775808 := hl.1.1
  intro k
  induction k with
  | zero => intro i last nx ls h1 h2; omega
  | succ k ih =>
    intro i last nx ls h1 h2 hv hlast
    rw [l4_506_0_s]
    by_cases hi : (i : Int) < l.length
    case neg => simp [Bool.cond_eq_ite, hi]
    have hir : rng (i : Int) l.length = true := rng_ok (by omega) hi
    have hw : IntKind.i64.wrap ((i : Int) + 1) = (i : Int) + 1 := wrap_i64 (by omega) (by omega)
    have next : ∀ (last nx ls : Int), V nx ls → last < nx → l4_506_0 G15 G8 G9 G10 G14 G11 G12 G13 n k l last ((i : Int) + 1) nx ls = some (true, ()) := fun last nx ls hv hl => ih (i + 1) last nx ls (by omega) (by omega) hv hl
    obtain ⟨kind, by', he, hk, hb⟩ : ∃ kind by' : Int, l.getD i (0, 0, ()) = (kind, by', ()) ∧ inR .i64 kind ∧ inR .u64 by' := by
      have hlt : i < l.length := by omega
      have := hl.1.2 i _ (List.getElem?_eq_getElem hlt)
      refine ⟨(l[i]).1, (l[i]).2.1, ?_, this.1, this.2.1⟩
      rw [List.getD_eq_getElem?_getD, List.getElem?_eq_getElem hlt]; rfl
    simp only [hi, decide_true, cond_true, hir, ck_true, hw, Int.toNat_natCast, he]
    rw [G13_eq hk (by omega) (by omega)]
    have p1 : 0 ≤ kind % 6 := Int.emod_nonneg _ (by omega)
    have p2 : kind % 6 < 6 := Int.emod_lt_of_pos _ (by omega)
    have hv' := hv
    obtain ⟨q0, q1, q2, q3⟩ := hv'
    obtain ⟨b0, b1⟩ := hb
    have hv2 : V (ls + 1) ls := ⟨by omega, by omega, by omega, by omega⟩
    have hcases : kind % 6 = 3 ∨ kind % 6 = 4 ∨ kind % 6 = 5 ∨ (kind % 6 ≠ 3 ∧ kind % 6 ≠ 4 ∧ kind % 6 ≠ 5) := by omega
    rcases hcases with hp | hp | hp | ⟨c3, c4, c5⟩
    · -- Lease
      simp only [cl_true, jn, hp]
      by_cases hz : by' = 0
      · subst hz
        rw [G8_zero hv, G15_ok hv]
        simp [cl_true, next _ _ _ hv hlast]
      · by_cases hf : ls = 1152921504606846976
        · subst hf
          rw [G8_full hv hz, G15_ok hv]
          simp [cl_true, next _ _ _ hv hlast, show by' > 0 by omega]
        · have hv2 : V nx (ls + min (1152921504606846976 - ls) by') := by
            refine ⟨?_, ?_, ?_, ?_⟩ <;> omega
          rw [G8_ok hv b0 (by omega) hz hf]
          simp only [cl_true]
          rw [G15_ok hv2, wrap_u64 (by omega) (by omega)]
          simp [cl_true, next _ _ _ hv2 hlast, show by' > 0 by omega, show ls < 1152921504606846976 by omega, show ¬ (ls + min (1152921504606846976 - ls) by' ≤ ls) by omega, show ¬ (ls + min (1152921504606846976 - ls) by' - ls > by') by omega]
    · -- Recover
      simp [cl_true, jn, hp, G14_ok hv, G12_ok hv2, G15_ok hv2, next _ _ _ hv2 (show last < ls + 1 by omega)]
    · -- a crash
      have w1 : IntKind.u64.wrap (ls + 1) = ls + 1 := wrap_u64 (by omega) (by omega)
      have m0 : 0 ≤ by' % (ls + 1) := Int.emod_nonneg _ (by omega)
      have m1 : by' % (ls + 1) < ls + 1 := Int.emod_lt_of_pos _ (by omega)
      have e : by'.tmod (ls + 1) = by' % (ls + 1) := Int.tmod_eq_emod_of_nonneg b0
      have hv3 : V (1 + by' % (ls + 1)) ls := ⟨by omega, by omega, by omega, by omega⟩
      have w2 : IntKind.u64.wrap (1 + by' % (ls + 1)) = 1 + by' % (ls + 1) := wrap_u64 (by omega) (by omega)
      simp [cl_true, jn, ck, hp, w1, w2, e, G14_ok hv3, G12_ok hv2, G15_ok hv2, next _ _ _ hv2 (show last < ls + 1 by omega), Bool.cond_eq_ite, show ls + 1 ≠ 0 by omega]
    · -- Take
      by_cases hab : nx ≤ ls
      · have hv3 : V (nx + 1) ls := ⟨by omega, by omega, by omega, by omega⟩
        have w3 : IntKind.u64.wrap (ls + 1 - nx - 1) = ls + 1 - (nx + 1) := by rw [wrap_u64 (by omega) (by omega)]; omega
        simp [cl_true, jn, Bool.cond_eq_ite, c3, c4, c5, w3, G12_ok hv, G10_ok hv hab, G12_ok hv3, G15_ok hv3, next _ _ _ hv3 (show nx < nx + 1 by omega), show ls + 1 - nx > 0 by omega, show ¬ (nx ≤ last) by omega, show ¬ (nx > ls) by omega]
        omega
      · simp [cl_true, jn, Bool.cond_eq_ite, c3, c4, c5, G12_ok hv, G10_none hv (show ls < nx by omega), G15_ok hv, next _ _ _ hv hlast, show ¬ (ls + 1 - nx > 0) by omega]
        omega

theorem once (l : List (Int × (Int × Unit))) (h : K4a.ok (l, ())) : runD (cx4 G15 G8 G9 G10 G14 G11 G12 G13 (l.length + 1)) (fnOf 4) (body 4) K4a K4o (l, ()) = some (true, ()) := by
  rw [eq4, G11_eq, G9_eq]
  have := loop4 (l.length + 1) l h (l.length + 1) 0 0 1 0 (by omega) (by omega) ⟨by omega, by omega, by omega, by omega⟩ (by omega)
  rw [cl_true, cl_true]
  by_cases hl : (l.length : Int) > 100
  · rw [decide_eq_true hl]; rfl
  · rw [decide_eq_false hl]; exact this

end Go.Proofs.Ytbeamkhigbhogaa.Ae
