/- LinkSends: the plain law. -/
import Derived.Test.YtkmeimhapokdlaaFnsB
set_option linter.unusedVariables false
set_option linter.unusedSimpArgs false
namespace Go.Proofs.Ytkmeimhapokdlaa.Ae
open Go

theorem G9_eq : G9 () = (true, (true, ()), ()) := by kernel_rfl

/-- What Check tells. -/
def chk (a b c d : Int) (q : List (List Int)) (w r : Int) : Int :=
  if 64 < q.length ∨ (q.any fun b => decide (1048576 < b.length)) = true then 3
  else if 1 ≤ a ∧ a ≤ 9223372036854775808 ∧ 1 ≤ c ∧ c ≤ 9223372036854775808 ∧ (q.length : Int) < c ∧ 1 ≤ r ∧ r ≤ 1024 ∧ 0 ≤ w ∧ w ≤ r ∧ (b ≠ 0 ∨ d = 0) then 0 else 2

/-- A link that may be. -/
structure L (a b c d : Int) (q : List (List Int)) (w r : Int) : Prop where
  len : q.length ≤ 64
  all : ∀ x ∈ q, x.length ≤ 1048576
  a1 : 1 ≤ a
  a2 : a ≤ 9223372036854775808
  c1 : 1 ≤ c
  c2 : c ≤ 9223372036854775808
  qc : (q.length : Int) < c
  r1 : 1 ≤ r
  r2 : r ≤ 1024
  w1 : 0 ≤ w
  w2 : w ≤ r
  bd : b ≠ 0 ∨ d = 0

theorem chk_L {a b c d : Int} {q : List (List Int)} {w r : Int} : chk a b c d q w r = 0 ↔ L a b c d q w r := by
  unfold chk
  constructor
  · intro h
    split at h
    · cases h
    rename_i h1
    split at h
    case isFalse => cases h
    rename_i h2
    obtain ⟨p1, p2, p3, p4, p5, p6, p7, p8, p9, p10⟩ := h2
    refine ⟨by omega, fun x hx => ?_, p1, p2, p3, p4, p5, p6, p7, p8, p9, p10⟩
    have h3 : ¬ (q.any fun b => decide (1048576 < b.length)) = true := fun e => h1 (.inr e)
    rw [List.any_eq_true] at h3
    by_cases e : 1048576 < x.length
    · exact absurd ⟨x, hx, decide_eq_true e⟩ h3
    · omega
  · rintro ⟨h1, h2, p1, p2, p3, p4, p5, p6, p7, p8, p9, p10⟩
    rw [if_neg, if_pos ⟨p1, p2, p3, p4, p5, p6, p7, p8, p9, p10⟩]
    rintro (h | h)
    · omega
    · obtain ⟨x, hx, hd⟩ := List.any_eq_true.1 h
      have := h2 x hx
      have := of_decide_eq_true hd
      omega

theorem check19 (a b c d : Int) (q : List (List Int)) (w r : Int) (o : Bool) : G19 ((a, b, c, d, q, w, r, o, ()), ()) = (true, ((chk a b c d q w r, ()), ((), ()))) := by
  refine G19_of ?_
  unfold t19 chk
  by_cases h1 : 64 < q.length
  · simp [jn, Bool.cond_eq_ite, h1]; omega
  have e : decide ((q.length : Int) > 64) = false := decide_eq_false (by omega)
  rw [e, any44 q (by omega), wrap_u64 (show 0 ≤ (q.length : Int) by omega) (by omega)]
  simp only [jn, cl_true, cond_false]
  by_cases h2 : (q.any fun b => decide (1048576 < b.length)) = true
  · simp only [h2, cond_true, or_true, if_true]
  · have h2' : (q.any fun b => decide (1048576 < b.length)) = false := by simpa using h2
    rw [h2', if_neg (show ¬ (64 < q.length ∨ false = true) by simp; omega)]
    simp only [cond_false, Bool.cond_eq_ite, decide_eq_true_eq, ge_iff_le, gt_iff_lt, bne_iff_ne, beq_iff_eq]
    by_cases hR : 1 ≤ a ∧ a ≤ 9223372036854775808 ∧ 1 ≤ c ∧ c ≤ 9223372036854775808 ∧ (q.length : Int) < c ∧ 1 ≤ r ∧ r ≤ 1024 ∧ 0 ≤ w ∧ w ≤ r ∧ (b ≠ 0 ∨ d = 0)
    · rw [if_pos hR]
      obtain ⟨p1, p2, p3, p4, p5, p6, p7, p8, p9, p10⟩ := hR
      rw [if_pos p1, if_pos p2, if_pos p3, if_pos p4, if_pos p5, if_pos p6, if_pos p7, if_pos p8, if_pos p9]
      by_cases hb : b = 0
      · have : d = 0 := by omega
        simp [hb, this]
      · simp [hb]
    · rw [if_neg hR]
      repeat' split
      all_goals first | rfl | (exfalso; simp_all; done) | (simp_all; done)

theorem L.clone {a b c d : Int} {q : List (List Int)} {w r : Int} (h : L a b c d q w r) (a' b' c' d' w' r' : Int) (o : Bool) : G41 ((a', b', c', d', q, w', r', o, ()), ()) = (true, (((a', b', c', d', q, w', r', o, ()), ()), ((), ()))) :=
  clone41 _ _ _ _ _ _ _ _ (by have := h.len; omega) fun x hx => by have := h.all x hx; omega

theorem tick24 {a b c d : Int} {q : List (List Int)} {w r : Int} (o : Bool) (h : L a b c d q w r) : G24 ((a, b, c, d, q, w, r, o, ()), ()) = (true, (((a, b, c, d, q, min (w + 1) r, r, o, ()), 0, ()), ((), ()))) := by
  refine G24_of ?_
  unfold t24
  rw [check19, chk_L.2 h, cl_true, h.clone, cl_true]
  have h1 := h.w1
  have h2 := h.w2
  have h3 := h.r2
  simp only [bne_self_eq_false, cond_false]
  rw [wrap_i64 (by omega) (by omega), show (if w + 1 < r then w + 1 else r) = min (w + 1) r by omega]

/-- What Send tells of a link that may be. -/
def snd (a b c d : Int) (q : List (List Int)) (w r : Int) (o : Bool) : ((Int × (Int × (Int × (Int × (List Int × Unit))))) × ((Int × (Int × (Int × (Int × (List (List Int) × (Int × (Int × (Bool × Unit)))))))) × (Bool × Unit))) :=
  if 0 < q.length ∧ w = r then ((a, b, c - q.length, d, q.getD 0 [], ()), (a, b, c, d, q, 0, r, false, ()), true, ())
  else if o = true then ((a, b, 0, d, [], ()), (a, b, c, d, q, w, r, false, ()), true, ())
  else ((0, 0, 0, 0, [], ()), (a, b, c, d, q, w, r, o, ()), false, ())

theorem send21 {a b c d : Int} {q : List (List Int)} {w r : Int} (o : Bool) (h : L a b c d q w r) : G21 ((a, b, c, d, q, w, r, o, ()), ()) = (true, (snd a b c d q w r o, ((), ()))) := by
  refine G21_of ?_
  unfold t21 snd
  have h1 := h.qc
  have h2 := h.c2
  have e : G47 ((a, b, c, d, q, w, r, o, ()), ()) = (true, ((c - q.length, ()), ((), ()))) := by
    refine G47_of ?_
    unfold t47
    rw [wrap_u64 (show 0 ≤ (q.length : Int) by omega) (by omega), wrap_u64 (by omega) (by omega)]
  rw [check19, chk_L.2 h, h.clone, e]
  simp only [cl_true, jn, bne_self_eq_false, cond_false]
  by_cases hq : 0 < q.length
  · have hm : q.getD 0 [] ∈ q := by
      rw [List.getD_eq_getElem?_getD, List.getElem?_eq_getElem hq]
      exact List.getElem_mem hq
    have := h.all _ hm
    rw [decide_eq_true (show (q.length : Int) > 0 by omega), show rng 0 q.length = true from rng_ok (by omega) (by omega), clone42 _ (by omega)]
    simp only [cl_true, ck_true, cond_true]
    by_cases hw : w = r
    · rw [if_pos ⟨hq, hw⟩, show (w == r) = true by simpa using hw]
      rfl
    · rw [if_neg (fun hh => hw hh.2), show (w == r) = false by simpa using hw]
      cases o <;> rfl
  · rw [if_neg (fun hh => hq hh.1), decide_eq_false (show ¬ (q.length : Int) > 0 by omega)]
    cases o <;> rfl

theorem lists23 (q : List (List Int)) (h : q.length < 9223372036854775808) : G23 (q, q, ()) = (true, ((true, ()), ((), (), ()))) := by
  simp only [G23, decide_eq_true h, lsEq_self]
theorem bytes25 (l : List Int) : G25 (l, l, ()) = (true, ((true, ()), ((), (), ()))) := by
  refine G25_of ?_
  unfold t25
  rw [bstr_self]
theorem link22 (a b c d : Int) (q : List (List Int)) (w r : Int) (o : Bool) (h : q.length < 9223372036854775808) : G22 ((a, b, c, d, q, w, r, o, ()), (a, b, c, d, q, w, r, o, ()), ()) = (true, ((true, ()), ((), (), ()))) := by
  refine G22_of ?_
  unfold t22
  rw [lists23 q h]
  simp [jn, cl_true]

theorem loop5 (n : Nat) (a b c d : Int) (q : List (List Int)) (w0 r : Int) (h : L a b c d q w0 r) (x5 x7 : Int) (x8 : Bool) : ∀ (k i : Nat), (i : Int) ≤ r → r - i < k →
    l5_2042_0 G19 G21 G24 G9 G20 G23 G22 G25 n k i a b c d q (min (w0 + i) r) r false a b c d q x5 r x8 = some (true, ()) := by
  intro k
  induction k with
  | zero => intro i h1 h2; omega
  | succ k ih =>
    intro i h1 h2
    have hr1 := h.r1
    have hr2 := h.r2
    have hw1 := h.w1
    have hw2 := h.w2
    have hl : L a b c d q (min (w0 + i) r) r := ⟨h.len, h.all, h.a1, h.a2, h.c1, h.c2, h.qc, h.r1, h.r2, by omega, by omega, h.bd⟩
    rw [l5_2042_0_s]
    by_cases hi : (i : Int) < r
    · rw [decide_eq_true hi, tick24 false hl, wrap_i64 (show -9223372036854775808 ≤ (i : Int) + 1 by omega) (by omega), show min (min (w0 + (i : Int)) r + 1) r = min (w0 + ((i + 1 : Nat) : Int)) r by omega]
      exact ih (i + 1) (by omega) (by omega)
    · rw [decide_eq_false hi, send21 false hl, show min (w0 + (i : Int)) r = r by omega]
      simp only [cond_false, cl_true]
      by_cases hq : q.length = 0
      · unfold snd
        rw [if_neg (fun hh => by omega)]
        simp [hq]
      · unfold snd
        have h1 := h.qc
        have h2 := h.c2
        rw [if_pos ⟨by omega, rfl⟩, wrap_u64 (show 0 ≤ (q.length : Int) by omega) (by omega), wrap_u64 (by omega) (by omega)]
        simp only [bytes25, lists23 q (by have := h.len; omega), cl_true, beq_self_eq_true, cond_true, show ((q.length : Int) == 0) = false by rw [beq_eq_false_iff_ne]; omega, cond_false, show rng 0 q.length = true from rng_ok (by omega) (by omega), ck_true]

theorem sends (n : Nat) (hn : 1025 ≤ n) (a b c d : Int) (q : List (List Int)) (w r : Int) (o : Bool) (hq : q.length < 9223372036854775808) : runD (cx5 G19 G21 G24 G9 G20 G23 G22 G25 n) (fnOf 5) (body 5) K5a K5o ((a, b, c, d, q, w, r, o, ()), ()) = some (true, ()) := by
  rw [eq5, G9_eq, check19]
  simp only [cl_true, jn, Bool.not_true, cond_false]
  by_cases h : L a b c d q w r
  case neg =>
    rw [show (chk a b c d q w r != 0) = true by rw [bne_iff_ne]; exact fun e => h (chk_L.1 e)]
    rfl
  rw [chk_L.2 h]
  simp only [bne_self_eq_false, cond_false]
  have e20 : G20 ((a, b, c, d, q, w, r, o, ()), 64, 300, ()) = (true, ((decide ((q.length : Int) ≤ 64) && q.all fun b => decide ((b.length : Int) ≤ 300), ()), ((), (), (), ()))) := by
    refine G20_of ?_
    unfold t20
    simp only [G46, decide_eq_true hq, cl_true]
  rw [e20, cl_true]
  cases (decide ((q.length : Int) ≤ 64) && q.all fun b => decide ((b.length : Int) ≤ 300))
  · rfl
  simp only [Bool.not_true, cond_false]
  have hr1 := h.r1
  have hr2 := h.r2
  have hw1 := h.w1
  have hw2 := h.w2
  have fin : ∀ w0, 0 ≤ w0 → w0 ≤ r → l5_2042_0 G19 G21 G24 G9 G20 G23 G22 G25 n n (0 : Int) a b c d q w0 r false a b c d q w r o = some (true, ()) := fun w0 h1 h2 => by
    have := loop5 n a b c d q w0 r ⟨h.len, h.all, h.a1, h.a2, h.c1, h.c2, h.qc, h.r1, h.r2, h1, h2, h.bd⟩ w r o n 0 (by omega) (by omega)
    rw [show min (w0 + ((0 : Nat) : Int)) r = w0 by omega] at this
    exact this
  have again : ∀ w0, 0 ≤ w0 → w0 ≤ r → ¬ (0 < q.length ∧ w0 = r) → G21 ((a, b, c, d, q, w0, r, false, ()), ()) = (true, (((0, 0, 0, 0, [], ()), (a, b, c, d, q, w0, r, false, ()), false, ()), ((), ()))) := fun w0 h1 h2 h3 => by
    rw [send21 false ⟨h.len, h.all, h.a1, h.a2, h.c1, h.c2, h.qc, h.r1, h.r2, h1, h2, h.bd⟩, snd, if_neg h3]
    rfl
  rw [send21 o h, cl_true]
  unfold snd
  by_cases h1 : 0 < q.length ∧ w = r
  · rw [if_pos h1]
    simp only [Bool.not_true, cond_false]
    rw [again 0 (by omega) (by omega) (by omega), cl_true]
    simp only [cond_false, bne_self_eq_false, lists23 q hq, cl_true, Bool.not_true]
    exact fin 0 (by omega) (by omega)
  · rw [if_neg h1]
    cases o
    · rw [if_neg (show ¬ false = true by decide)]
      simp only [Bool.not_false, cond_true]
      rw [link22 _ _ _ _ _ _ _ _ hq, cl_true]
      by_cases h2 : q.length = 0
      · simp [h2]
      · rw [show ((q.length : Int) == 0) = false by rw [beq_eq_false_iff_ne]; omega, decide_eq_true (show w < r by omega)]
        rfl
    · simp only [Bool.not_true, cond_false, if_true]
      rw [again w hw1 hw2 h1, cl_true]
      simp only [cond_false, bne_self_eq_false, lists23 q hq, cl_true, Bool.not_true]
      exact fin w hw1 hw2
theorem sends5 (x : K5a.T) (hx : K5a.ok x) : ∃ n, runD (cx5 G19 G21 G24 G9 G20 G23 G22 G25 n) (fnOf 5) (body 5) K5a K5o x = some (true, ()) := by
  obtain ⟨⟨a, b, c, d, q, w, r, o, ⟨⟩⟩, ⟨⟩⟩ := x
  exact ⟨1025, sends 1025 (Nat.le_refl _) a b c d q w r o hx.1.2.2.2.2.1.1⟩
end Go.Proofs.Ytkmeimhapokdlaa.Ae
