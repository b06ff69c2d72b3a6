/- LeaseAdds, as plain arithmetic. -/
import Derived.Test.YtbeamkhigbhogaaPureA
set_option linter.unusedVariables false
set_option linter.unusedSimpArgs false
namespace Go.Proofs.Ytbeamkhigbhogaa.Ae
open Go
/-- LeaseAdds: the loop. -/
theorem loop5 (n : Nat) (m : Int) (h1 : 0 ≤ m) (h2 : m < 200) : ∀ (k : Nat) (i : Int), 1 ≤ i → i ≤ m + 1 → m + 1 - i < k →
    l5_8186_0 G15 G8 G9 G10 G11 G12 G13 n k m i i m = some (true, ()) := by
  intro k
  induction k with
  | zero => intro i h3 h4 h5; omega
  | succ k ih =>
    intro i h3 h4 h5
    have hv : V i m := ⟨by omega, by omega, by omega, by omega⟩
    rw [l5_8186_0_s]
    by_cases hi : i ≤ m
    · have hv2 : V (i + 1) m := ⟨by omega, by omega, by omega, by omega⟩
      have w1 : IntKind.u64.wrap i = i := wrap_u64 (by omega) (by omega)
      have w2 : IntKind.i64.wrap (m - i) = m - i := wrap_i64 (by omega) (by omega)
      have w3 : IntKind.u64.wrap (m - i) = m + 1 - (i + 1) := by rw [wrap_u64 (by omega) (by omega)]; omega
      have w4 : IntKind.i64.wrap (i + 1) = i + 1 := wrap_i64 (by omega) (by omega)
      simp [cl_true, Bool.cond_eq_ite, hi, G10_ok hv hi, G12_ok hv2, w1, w2, w3, w4]
      exact ih (i + 1) (by omega) (by omega) (by omega)
    · simp [cl_true, Bool.cond_eq_ite, hi, G10_none hv (show m < i by omega)]

theorem adds (a b c d e : Int) (h : K5a.ok ((a, b, ()), c, d, e, ())) : ∃ n, runD (cx5 G15 G8 G9 G10 G11 G12 G13 n) (fnOf 5) (body 5) K5a K5o ((a, b, ()), c, d, e, ()) = some (true, ()) := by
  obtain ⟨⟨⟨ha0, ha1⟩, ⟨hb0, hb1⟩, _⟩, ⟨hc0, hc1⟩, ⟨hd0, hd1⟩, he, _⟩ := h
  refine ⟨300, ?_⟩
  rw [eq5, G11_eq, G9_eq, G13_eq he (by omega) (by omega)]
  have p1 : 0 ≤ e % 200 := Int.emod_nonneg _ (by omega)
  have p2 : e % 200 < 200 := Int.emod_lt_of_pos _ (by omega)
  have fin := loop5 300 (e % 200) p1 p2 300 1 (by omega) (by omega) (by omega)
  have c1 : c.tmod 576460752303423488 = c % 576460752303423488 := Int.tmod_eq_emod_of_nonneg hc0
  have d1 : d.tmod 576460752303423488 = d % 576460752303423488 := Int.tmod_eq_emod_of_nonneg hd0
  have c2 : 0 ≤ c % 576460752303423488 := Int.emod_nonneg _ (by omega)
  have c3 : c % 576460752303423488 < 576460752303423488 := Int.emod_lt_of_pos _ (by omega)
  have d2 : 0 ≤ d % 576460752303423488 := Int.emod_nonneg _ (by omega)
  have d3 : d % 576460752303423488 < 576460752303423488 := Int.emod_lt_of_pos _ (by omega)
  rw [c1, d1]
  generalize c % 576460752303423488 = p at c2 c3 ⊢
  generalize d % 576460752303423488 = q at d2 d3 ⊢
  have w1 : IntKind.u64.wrap (1 + p) = 1 + p := wrap_u64 (by omega) (by omega)
  have w2 : IntKind.u64.wrap (1 + q) = 1 + q := wrap_u64 (by omega) (by omega)
  have w3 : IntKind.u64.wrap (1 + p + (1 + q)) = 1 + p + (1 + q) := wrap_u64 (by omega) (by omega)
  have hnew : V 1 0 := ⟨by omega, by omega, by omega, by omega⟩
  generalize e % 200 = m at p1 p2 fin ⊢
  have w4 : IntKind.u64.wrap m = m := wrap_u64 (by omega) (by omega)
  have tail : (if 0 < m then cl (G8 ((1, 0, ()), m, ())) fun r => l5_8186_0 G15 G8 G9 G10 G11 G12 G13 300 300 m 1 r.1.1.1 r.1.1.2.1 else l5_8186_0 G15 G8 G9 G10 G11 G12 G13 300 300 m 1 1 0) = some (true, ()) := by
    by_cases hz : m = 0
    · subst hz; simpa using fin
    · have e1 : (0 : Int) + min (1152921504606846976 - 0) m = m := by omega
      rw [if_pos (by omega), G8_ok hnew p1 (by omega) hz (by omega), cl_true, e1]
      exact fin
  by_cases hv : V a b
  · obtain ⟨q0, q1, q2, q3⟩ := hv
    have hv : V a b := ⟨q0, q1, q2, q3⟩
    by_cases hf : b = 1152921504606846976
    · subst hf
      simp [cl_true, jn, Bool.cond_eq_ite, w1, w2, w3, w4, G8_full hv (show 1 + p ≠ 0 by omega), G8_full hv (show 1 + p + (1 + q) ≠ 0 by omega), G15_ok hv, tail]
    · have hv2 : V a (b + min (1152921504606846976 - b) (1 + p)) := ⟨by omega, by omega, by omega, by omega⟩
      by_cases hf2 : b + min (1152921504606846976 - b) (1 + p) = 1152921504606846976
      · have e2 : b + min (1152921504606846976 - b) (1 + p + (1 + q)) = 1152921504606846976 := by omega
        rw [hf2] at hv2
        simp [cl_true, jn, Bool.cond_eq_ite, w1, w2, w3, w4, G8_ok hv (show 0 ≤ 1 + p by omega) (by omega) (by omega) hf, G8_ok hv (show 0 ≤ 1 + p + (1 + q) by omega) (by omega) (by omega) hf, hf2, e2, G8_full hv2 (show 1 + q ≠ 0 by omega), tail]
      · have e2 : b + min (1152921504606846976 - b) (1 + p) + min (1152921504606846976 - (b + min (1152921504606846976 - b) (1 + p))) (1 + q) = b + min (1152921504606846976 - b) (1 + p + (1 + q)) := by omega
        simp [cl_true, jn, Bool.cond_eq_ite, w1, w2, w3, w4, G8_ok hv (show 0 ≤ 1 + p by omega) (by omega) (by omega) hf, G8_ok hv (show 0 ≤ 1 + p + (1 + q) by omega) (by omega) (by omega) hf, G8_ok hv2 (show 0 ≤ 1 + q by omega) (by omega) (by omega) hf2, e2, tail]
  · simp [cl_true, jn, Bool.cond_eq_ite, w1, w2, w3, w4, G8_bad hb0 hv, G15_bad hb0 hv, tail]
end Go.Proofs.Ytbeamkhigbhogaa.Ae
