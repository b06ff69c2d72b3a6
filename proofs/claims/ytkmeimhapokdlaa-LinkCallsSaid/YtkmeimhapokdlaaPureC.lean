/- What Hear does; pieces as bytes. -/
import Derived.Test.YtkmeimhapokdlaaPureB
set_option linter.unusedVariables false
set_option linter.unusedSimpArgs false
namespace Go.Proofs.Ytkmeimhapokdlaa.Ae
open Go

theorem jn1 {α β : Type} (T : α → β) (A : (α → β) → β) (v : α) (h : ∀ T, A T = T v) : jn T A = T v := h T
theorem jn8 {α : Type} (T : List (List Int) → Int → Int → Int → Int → Int → Int → Bool → α) (A : (List (List Int) → Int → Int → Int → Int → Int → Int → Bool → α) → α) (q : List (List Int)) (a b c d w r : Int) (o : Bool)
    (h : ∀ T : List (List Int) → Int → Int → Int → Int → Int → Int → Bool → α, A T = T q a b c d w r o) : jn T A = T q a b c d w r o := h T

/-- What CheckPiece tells. -/
def chkP (a b s k : Int) (p : List Int) : Int :=
  if 1048576 < p.length then 3 else if a < 1 ∨ 9223372036854775808 < a ∨ 9223372036854775808 < b ∨ 9223372036854775808 < s ∨ 9223372036854775808 < k ∨ (s = 0 ∧ 0 < p.length) then 2 else 0

theorem piece27 (a b s k : Int) (p : List Int) : G27 ((a, b, s, k, p, ()), ()) = (true, ((chkP a b s k p, ()), ((), ()))) := by
  refine G27_of ?_
  unfold t27
  by_cases h1 : 1048576 < p.length
  · have e : chkP a b s k p = 3 := by unfold chkP; rw [if_pos h1]
    rw [decide_eq_true (show (p.length : Int) > 1048576 by omega), e]; rfl
  rw [decide_eq_false (show ¬ (p.length : Int) > 1048576 by omega)]
  simp only [cond_false, jn]
  by_cases h2 : a < 1
  · have e : chkP a b s k p = 2 := by unfold chkP; rw [if_neg h1, if_pos (by omega)]
    rw [decide_eq_true h2, e]; rfl
  rw [decide_eq_false h2]
  simp only [cond_false]
  by_cases h3 : 9223372036854775808 < a ∨ 9223372036854775808 < b ∨ 9223372036854775808 < s ∨ 9223372036854775808 < k
  · have e : chkP a b s k p = 2 := by unfold chkP; rw [if_neg h1, if_pos (by omega)]
    rw [decide_eq_true (by split <;> split <;> split <;> omega), e]; rfl
  rw [decide_eq_false (by split <;> split <;> split <;> omega)]
  simp only [cond_false]
  by_cases h4 : s = 0
  · rw [show (s == 0) = true by simpa using h4]
    by_cases h5 : 0 < p.length
    · have e : chkP a b s k p = 2 := by unfold chkP; rw [if_neg h1, if_pos (by omega)]
      rw [decide_eq_true (show (p.length : Int) > 0 by omega), e]; rfl
    · have e : chkP a b s k p = 0 := by unfold chkP; rw [if_neg h1, if_neg (by omega)]
      rw [decide_eq_false (show ¬ (p.length : Int) > 0 by omega), e]; rfl
  · have e : chkP a b s k p = 0 := by unfold chkP; rw [if_neg h1, if_neg (by omega)]
    rw [show (s == 0) = false by simpa using h4, e]; rfl

/-- A piece that may be. -/
structure P (a b s k : Int) (p : List Int) : Prop where
  len : p.length ≤ 1048576
  a1 : 1 ≤ a
  a2 : a ≤ 9223372036854775808
  b2 : b ≤ 9223372036854775808
  s2 : s ≤ 9223372036854775808
  k2 : k ≤ 9223372036854775808
  sp : s = 0 → p.length = 0
theorem chkP_P {a b s k : Int} {p : List Int} : chkP a b s k p = 0 ↔ P a b s k p := by
  unfold chkP
  constructor
  · intro h
    split at h
    · cases h
    rename_i h1
    split at h
    · cases h
    rename_i h2
    exact ⟨by omega, by omega, by omega, by omega, by omega, by omega, by omega⟩
  · rintro ⟨h1, h2, h3, h4, h5, h6, h7⟩
    rw [if_neg (by omega), if_neg (by omega)]

abbrev Out := List Int × (Bool × ((Int × (Int × (Int × (Int × (List (List Int) × (Int × (Int × (Bool × Unit)))))))) × (Int × Unit)))
/-- Behind the lives: what is acknowledged, and what comes. -/
def hearW (a b c d : Int) (q : List (List Int)) (w r : Int) (o : Bool) (s k : Int) (p : List Int) : Out :=
  if c - q.length ≤ k ∧ k < c then
    (if s = 0 ∨ s ≠ IntKind.u64.wrap (d + 1) then ([], false, (a, b, c, d, q.drop (k - (c - q.length) + 1).toNat, r, r, o, ()), 0, ())
    else (p, true, (a, b, c, s, q.drop (k - (c - q.length) + 1).toNat, r, r, o, ()), 0, ()))
  else
    (if s = 0 ∨ s ≠ IntKind.u64.wrap (d + 1) then ([], false, (a, b, c, d, q, w, r, o, ()), 0, ())
    else (p, true, (a, b, c, s, q, w, r, o, ()), 0, ()))
/-- What Hear does. -/
def hearV (a b c d : Int) (q : List (List Int)) (w r : Int) (o : Bool) (x y s k : Int) (p : List Int) : Out :=
  if x < b then ([], false, (a, b, c, d, q, w, r, o, ()), 0, ())
  else if y ≠ a then
    (if b < x then ([], false, (a, x, (if b ≠ 0 then (q.length : Int) + 1 else c), 0, q, (if b ≠ 0 then r else w), r, true, ()), 0, ())
    else ([], false, (a, b, c, d, q, w, r, (decide (0 < s) || (decide (y ≠ 0) || o)), ()), 0, ()))
  else
    (if b < x then hearW a x (if b ≠ 0 then (q.length : Int) + 1 else c) 0 q (if b ≠ 0 then r else w) r true s k p
    else hearW a b c d q w r (decide (0 < s) || o) s k p)

theorem hear31 {a b c d : Int} {q : List (List Int)} {w r : Int} (o : Bool) {x y s k : Int} {p : List Int} (h : L a b c d q w r) (hp : P x y s k p) (hy : 0 ≤ y) (hs : 0 ≤ s) (hk : 0 ≤ k) :
    G31 ((a, b, c, d, q, w, r, o, ()), (x, y, s, k, p, ()), ()) = (true, (hearV a b c d q w r o x y s k p, ((), (), ()))) := by
  refine G31_of ?_
  have hl := h.len
  have hc1 := h.c1
  have hc2 := h.c2
  have hqc := h.qc
  have ha1 := h.a1
  have hk2 := hp.k2
  unfold t31 hearV
  rw [check19, chk_L.2 h, piece27, chkP_P.2 hp]
  refine (jn1 _ _ 0 (fun T => rfl)).trans ?_
  rw [h.clone]
  simp only [bne_self_eq_false, cond_false, cl_true]
  by_cases h1 : x < b
  · rw [decide_eq_true h1, if_pos h1]; rfl
  rw [decide_eq_false h1, if_neg h1]
  simp only [cond_false]
  have e47 : ∀ (b' c' d' w' : Int) (o' : Bool), c' ≤ 9223372036854775808 → (q.length : Int) < c' → G47 ((a, b', c', d', q, w', r, o', ()), ()) = (true, ((c' - q.length, ()), ((), ()))) := by
    intro b' c' d' w' o' _ _
    refine G47_of ?_
    unfold t47
    rw [wrap_u64 (show 0 ≤ (q.length : Int) by omega) (by omega), wrap_u64 (by omega) (by omega)]
  by_cases h2 : b < x
  · rw [if_pos h2, if_pos h2]
    obtain ⟨C, hC⟩ : ∃ C : Int, C = if b ≠ 0 then (q.length : Int) + 1 else c := ⟨_, rfl⟩
    obtain ⟨W, hW⟩ : ∃ W : Int, W = if b ≠ 0 then r else w := ⟨_, rfl⟩
    have hC1 : C ≤ 9223372036854775808 ∧ (q.length : Int) < C := by rw [hC]; split <;> omega
    have e56 : G56 ((a, b, c, d, q, w, r, o, ()), x, ()) = (true, ((), ((a, x, C, 0, q, W, r, true, ()), (), ()))) := by
      refine G56_of ?_
      unfold t56
      rw [wrap_u64 (show 0 ≤ (q.length : Int) by omega) (by omega), wrap_u64 (show 0 ≤ (q.length : Int) + 1 by omega) (by omega), hC, hW]
      by_cases hb : b = 0
      · simp [hb, jn, Bool.cond_eq_ite]
      · simp [hb, jn, Bool.cond_eq_ite]
    rw [← hC, ← hW]
    refine (jn8 _ _ q a (x) (C) (0) (W) r (true) (fun T => ?_)).trans ?_
    · rw [decide_eq_true (show x > b from h2), e56]; rfl
    refine (jn1 _ _ (decide (0 < s) || ((decide (y ≠ 0) && decide (y ≠ a)) || true)) (fun T => ?_)).trans ?_
    · simp only [jn]
      by_cases e1 : 0 < s
      · rw [decide_eq_true (show s > 0 from e1)]; simp [e1]
      · rw [decide_eq_false (show ¬ s > 0 from e1)]
        by_cases e2 : y = 0
        · simp [e1, e2]
        · by_cases e3 : y = a
          · simp [e1, e2, e3, Bool.cond_eq_ite]
          · simp [e1, e2, e3, Bool.cond_eq_ite]
    by_cases h3 : y = a
    · rw [show (y != a) = false by simpa using h3, if_neg (show ¬ y ≠ a from fun hh => hh h3), show (decide (0 < s) || ((decide (y ≠ 0) && decide (y ≠ a)) || true)) = true by simp]
      simp only [cond_false]
      rw [e47 (x) (C) (0) (W) _ hC1.1 hC1.2, cl_true]
      refine (jn1 _ _ (decide ((C) - q.length ≤ k ∧ k < (C))) (fun T => ?_)).trans ?_
      · by_cases e1 : (C) - q.length ≤ k
        · rw [decide_eq_true (show k ≥ (C) - q.length from e1)]; simp only [e1, true_and]; rfl
        · rw [decide_eq_false (show ¬ k ≥ (C) - q.length from e1)]; simp only [e1, false_and, decide_false]; rfl
      unfold hearW
      by_cases h4 : (C) - q.length ≤ k ∧ k < (C)
      · rw [decide_eq_true h4, if_pos h4]
        simp only [cond_true]
        rw [wrap_u64 (show 0 ≤ k - ((C) - (q.length : Int)) by omega) (by omega), wrap_u64 (show 0 ≤ k - ((C) - (q.length : Int)) + 1 by omega) (by omega), decide_eq_true (show 0 ≤ k - ((C) - (q.length : Int)) + 1 by omega), decide_eq_true (show k - ((C) - (q.length : Int)) + 1 ≤ ((q.length : Nat) : Int) by omega), List.take_of_length_le (by rw [List.length_drop]; omega)]
        simp only [Bool.and_true, ck_true]
        refine (jn1 _ _ (decide (s = 0 ∨ s ≠ IntKind.u64.wrap ((0) + 1))) (fun T => ?_)).trans ?_
        · by_cases e1 : s = 0
          · simp [e1]
          · by_cases e2 : s = IntKind.u64.wrap ((0) + 1)
            · simp only [show (s == 0) = false by simpa using e1, show (s != IntKind.u64.wrap ((0) + 1)) = false by simpa using e2, cond_false, decide_eq_false (show ¬ (s = 0 ∨ s ≠ IntKind.u64.wrap ((0) + 1)) from fun hh => hh.elim e1 (fun g => g e2))]
            · simp only [show (s == 0) = false by simpa using e1, show (s != IntKind.u64.wrap ((0) + 1)) = true by simpa using e2, cond_false, decide_eq_true (show (s = 0 ∨ s ≠ IntKind.u64.wrap ((0) + 1)) from .inr e2)]
        by_cases h5 : s = 0 ∨ s ≠ IntKind.u64.wrap ((0) + 1)
        · rw [decide_eq_true h5, if_pos h5]; rfl
        · rw [decide_eq_false h5, if_neg h5]
          simp only [cond_false]
          rw [clone42 p (by have := hp.len; omega), cl_true]
      · rw [decide_eq_false h4, if_neg h4]
        simp only [cond_false]
        refine (jn1 _ _ (decide (s = 0 ∨ s ≠ IntKind.u64.wrap ((0) + 1))) (fun T => ?_)).trans ?_
        · by_cases e1 : s = 0
          · simp [e1]
          · by_cases e2 : s = IntKind.u64.wrap ((0) + 1)
            · simp only [show (s == 0) = false by simpa using e1, show (s != IntKind.u64.wrap ((0) + 1)) = false by simpa using e2, cond_false, decide_eq_false (show ¬ (s = 0 ∨ s ≠ IntKind.u64.wrap ((0) + 1)) from fun hh => hh.elim e1 (fun g => g e2))]
            · simp only [show (s == 0) = false by simpa using e1, show (s != IntKind.u64.wrap ((0) + 1)) = true by simpa using e2, cond_false, decide_eq_true (show (s = 0 ∨ s ≠ IntKind.u64.wrap ((0) + 1)) from .inr e2)]
        by_cases h5 : s = 0 ∨ s ≠ IntKind.u64.wrap ((0) + 1)
        · rw [decide_eq_true h5, if_pos h5]; rfl
        · rw [decide_eq_false h5, if_neg h5]
          simp only [cond_false]
          rw [clone42 p (by have := hp.len; omega), cl_true]
    · rw [show (y != a) = true by simpa using h3, if_pos h3, show (decide (0 < s) || ((decide (y ≠ 0) && decide (y ≠ a)) || true)) = true by simp]
      rfl
  · rw [if_neg h2, if_neg h2]
    refine (jn8 _ _ q a (b) (c) (d) (w) r (o) (fun T => ?_)).trans ?_
    · rw [decide_eq_false (show ¬ x > b from h2)]; rfl
    refine (jn1 _ _ (decide (0 < s) || ((decide (y ≠ 0) && decide (y ≠ a)) || o)) (fun T => ?_)).trans ?_
    · simp only [jn]
      by_cases e1 : 0 < s
      · rw [decide_eq_true (show s > 0 from e1)]; simp [e1]
      · rw [decide_eq_false (show ¬ s > 0 from e1)]
        by_cases e2 : y = 0
        · simp [e1, e2]
        · by_cases e3 : y = a
          · simp [e1, e2, e3, Bool.cond_eq_ite]
          · simp [e1, e2, e3, Bool.cond_eq_ite]
    by_cases h3 : y = a
    · rw [show (y != a) = false by simpa using h3, if_neg (show ¬ y ≠ a from fun hh => hh h3), show (decide (0 < s) || ((decide (y ≠ 0) && decide (y ≠ a)) || o)) = (decide (0 < s) || o) by simp [h3]]
      simp only [cond_false]
      rw [e47 (b) (c) (d) (w) _ hc2 hqc, cl_true]
      refine (jn1 _ _ (decide ((c) - q.length ≤ k ∧ k < (c))) (fun T => ?_)).trans ?_
      · by_cases e1 : (c) - q.length ≤ k
        · rw [decide_eq_true (show k ≥ (c) - q.length from e1)]; simp only [e1, true_and]; rfl
        · rw [decide_eq_false (show ¬ k ≥ (c) - q.length from e1)]; simp only [e1, false_and, decide_false]; rfl
      unfold hearW
      by_cases h4 : (c) - q.length ≤ k ∧ k < (c)
      · rw [decide_eq_true h4, if_pos h4]
        simp only [cond_true]
        rw [wrap_u64 (show 0 ≤ k - ((c) - (q.length : Int)) by omega) (by omega), wrap_u64 (show 0 ≤ k - ((c) - (q.length : Int)) + 1 by omega) (by omega), decide_eq_true (show 0 ≤ k - ((c) - (q.length : Int)) + 1 by omega), decide_eq_true (show k - ((c) - (q.length : Int)) + 1 ≤ ((q.length : Nat) : Int) by omega), List.take_of_length_le (by rw [List.length_drop]; omega)]
        simp only [Bool.and_true, ck_true]
        refine (jn1 _ _ (decide (s = 0 ∨ s ≠ IntKind.u64.wrap ((d) + 1))) (fun T => ?_)).trans ?_
        · by_cases e1 : s = 0
          · simp [e1]
          · by_cases e2 : s = IntKind.u64.wrap ((d) + 1)
            · simp only [show (s == 0) = false by simpa using e1, show (s != IntKind.u64.wrap ((d) + 1)) = false by simpa using e2, cond_false, decide_eq_false (show ¬ (s = 0 ∨ s ≠ IntKind.u64.wrap ((d) + 1)) from fun hh => hh.elim e1 (fun g => g e2))]
            · simp only [show (s == 0) = false by simpa using e1, show (s != IntKind.u64.wrap ((d) + 1)) = true by simpa using e2, cond_false, decide_eq_true (show (s = 0 ∨ s ≠ IntKind.u64.wrap ((d) + 1)) from .inr e2)]
        by_cases h5 : s = 0 ∨ s ≠ IntKind.u64.wrap ((d) + 1)
        · rw [decide_eq_true h5, if_pos h5]; rfl
        · rw [decide_eq_false h5, if_neg h5]
          simp only [cond_false]
          rw [clone42 p (by have := hp.len; omega), cl_true]
      · rw [decide_eq_false h4, if_neg h4]
        simp only [cond_false]
        refine (jn1 _ _ (decide (s = 0 ∨ s ≠ IntKind.u64.wrap ((d) + 1))) (fun T => ?_)).trans ?_
        · by_cases e1 : s = 0
          · simp [e1]
          · by_cases e2 : s = IntKind.u64.wrap ((d) + 1)
            · simp only [show (s == 0) = false by simpa using e1, show (s != IntKind.u64.wrap ((d) + 1)) = false by simpa using e2, cond_false, decide_eq_false (show ¬ (s = 0 ∨ s ≠ IntKind.u64.wrap ((d) + 1)) from fun hh => hh.elim e1 (fun g => g e2))]
            · simp only [show (s == 0) = false by simpa using e1, show (s != IntKind.u64.wrap ((d) + 1)) = true by simpa using e2, cond_false, decide_eq_true (show (s = 0 ∨ s ≠ IntKind.u64.wrap ((d) + 1)) from .inr e2)]
        by_cases h5 : s = 0 ∨ s ≠ IntKind.u64.wrap ((d) + 1)
        · rw [decide_eq_true h5, if_pos h5]; rfl
        · rw [decide_eq_false h5, if_neg h5]
          simp only [cond_false]
          rw [clone42 p (by have := hp.len; omega), cl_true]
    · rw [show (y != a) = true by simpa using h3, if_pos h3, show (decide (0 < s) || ((decide (y ≠ 0) && decide (y ≠ a)) || o)) = (decide (0 < s) || (decide (y ≠ 0) || o)) by simp [h3]]
      rfl

end Go.Proofs.Ytkmeimhapokdlaa.Ae
