/- LinkCalls: the document's Hear; the law. -/
import Derived.Test.YtkmeimhapokdlaaPureE
set_option linter.unusedVariables false
set_option linter.unusedSimpArgs false
namespace Go.Proofs.Ytkmeimhapokdlaa.Ae
open Go

theorem jn5 {α : Type} (T : Int → Int → Int → Int → Bool → α) (A : (Int → Int → Int → Int → Bool → α) → α) (b c d w : Int) (o : Bool)
    (h : ∀ T : Int → Int → Int → Int → Bool → α, A T = T b c d w o) : jn T A = T b c d w o := h T

theorem hear38 {a b c d : Int} {q : List (List Int)} {w r : Int} (o : Bool) {x y s k : Int} {p : List Int} (h : L a b c d q w r) (hp : P x y s k p) (hc : u c) (hy : 0 ≤ y) (hs : 0 ≤ s) (hk : 0 ≤ k) :
    G38 ((a, b, c, d, q, w, r, o, ()), (x, y, s, k, p, ()), ()) = (true, (hearV a b c d q w r o x y s k p, ((), (), ()))) := by
  refine G38_of ?_
  have hl := h.len
  have hc1 := h.c1
  have hc2 := h.c2
  have hqc := h.qc
  have ha1 := h.a1
  have hk2 := hp.k2
  unfold t38 hearV
  rw [check33 _ _ _ _ _ _ _ _ hc, chk_L.2 h, piece34, chkP_P.2 hp, cl_true]
  refine (jn1 _ _ 0 (fun T => rfl)).trans ?_
  simp only [bne_self_eq_false, cond_false]
  by_cases h1 : x < b
  · rw [decide_eq_true h1, if_pos h1]; rfl
  rw [decide_eq_false h1, if_neg h1]
  simp only [cond_false]
  by_cases h2 : b < x
  · rw [if_pos h2, if_pos h2]
    obtain ⟨C, hC⟩ : ∃ C : Int, C = if b ≠ 0 then (q.length : Int) + 1 else c := ⟨_, rfl⟩
    obtain ⟨W, hW⟩ : ∃ W : Int, W = if b ≠ 0 then r else w := ⟨_, rfl⟩
    have hC1 : C ≤ 9223372036854775808 ∧ (q.length : Int) < C := by rw [hC]; split <;> omega
    rw [← hC, ← hW]
    refine (jn5 _ _ (x) (C) (0) (W) (true) (fun T => ?_)).trans ?_
    · rw [decide_eq_true (show x > b from h2), wrap_u64 (show 0 ≤ (q.length : Int) by omega) (by omega), wrap_u64 (show 0 ≤ 1 + (q.length : Int) by omega) (by omega), Int.add_comm 1, hC, hW]
      by_cases hb : b = 0
      · simp [hb]
      · simp [hb, Bool.cond_eq_ite]
    by_cases h3 : y = a
    · rw [show (y != a) = false by simpa using h3, if_neg (show ¬ y ≠ a from fun hh => hh h3)]
      simp only [cond_false]
      rw [wrap_u64 (show 0 ≤ (q.length : Int) by omega) (by omega), wrap_u64 (show 0 ≤ (C) - (q.length : Int) by omega) (by omega)]
      refine (jn1 _ _ (decide ((C) - q.length ≤ k ∧ k < (C))) (fun T => ?_)).trans ?_
      · by_cases e1 : (C) - q.length ≤ k
        · rw [decide_eq_true (show k ≥ (C) - q.length from e1)]; simp only [e1, true_and]; rfl
        · rw [decide_eq_false (show ¬ k ≥ (C) - q.length from e1)]; simp only [e1, false_and, decide_false]; rfl
      unfold hearW
      by_cases h4 : (C) - q.length ≤ k ∧ k < (C)
      · rw [decide_eq_true h4, if_pos h4]
        simp only [cond_true]
        rw [wrap_u64 (show 0 ≤ k - ((C) - (q.length : Int)) by omega) (by omega), wrap_u64 (show 0 ≤ k - ((C) - (q.length : Int)) + 1 by omega) (by omega), decide_eq_true (show 0 ≤ k - ((C) - (q.length : Int)) + 1 by omega), decide_eq_true (show k - ((C) - (q.length : Int)) + 1 ≤ ((q.length : Nat) : Int) by omega), List.take_of_length_le (by rw [List.length_drop]; omega)]
        rw [show fits (0 + (q.drop (k - ((C) - (q.length : Int)) + 1).toNat).length) 24 = true from decide_eq_true (by rw [List.length_drop]; omega)]
        simp only [Bool.and_true, ck_true, List.nil_append]
        by_cases e1 : s = 0
        · rw [show (s == 0) = true by simpa using e1, if_pos (Or.inl e1)]; rfl
        · rw [show (s == 0) = false by simpa using e1]
          by_cases e2 : s = IntKind.u64.wrap ((0) + 1)
          · rw [show (s != IntKind.u64.wrap ((0) + 1)) = false by simpa using e2, if_neg (fun hh => Or.elim hh e1 (fun g => g e2)), show fits (0 + p.length) 1 = true from decide_eq_true (by have := hp.len; omega)]; rfl
          · rw [show (s != IntKind.u64.wrap ((0) + 1)) = true by simpa using e2, if_pos (Or.inr e2)]; rfl
      · rw [decide_eq_false h4, if_neg h4]
        simp only [cond_false]
        by_cases e1 : s = 0
        · rw [show (s == 0) = true by simpa using e1, if_pos (Or.inl e1)]; rfl
        · rw [show (s == 0) = false by simpa using e1]
          by_cases e2 : s = IntKind.u64.wrap ((0) + 1)
          · rw [show (s != IntKind.u64.wrap ((0) + 1)) = false by simpa using e2, if_neg (fun hh => Or.elim hh e1 (fun g => g e2)), show fits (0 + p.length) 1 = true from decide_eq_true (by have := hp.len; omega)]; rfl
          · rw [show (s != IntKind.u64.wrap ((0) + 1)) = true by simpa using e2, if_pos (Or.inr e2)]; rfl
    · rw [show (y != a) = true by simpa using h3, if_pos h3]
      simp only [cond_true]
      refine (jn1 _ _ (true) (fun T => ?_)).trans rfl
      by_cases e1 : y = 0
      · by_cases e2 : 0 < s
        · simp [e1, e2]
        · simp [e1, e2]
      · by_cases e2 : 0 < s
        · simp [e1, e2]
        · simp [e1, e2, Bool.cond_eq_ite]
  · rw [if_neg h2, if_neg h2]
    refine (jn5 _ _ (b) (c) (d) (w) (o) (fun T => ?_)).trans ?_
    · rw [decide_eq_false (show ¬ x > b from h2)]; rfl
    by_cases h3 : y = a
    · rw [show (y != a) = false by simpa using h3, if_neg (show ¬ y ≠ a from fun hh => hh h3)]
      simp only [cond_false]
      rw [wrap_u64 (show 0 ≤ (q.length : Int) by omega) (by omega), wrap_u64 (show 0 ≤ (c) - (q.length : Int) by omega) (by omega)]
      refine (jn1 _ _ (decide ((c) - q.length ≤ k ∧ k < (c))) (fun T => ?_)).trans ?_
      · by_cases e1 : (c) - q.length ≤ k
        · rw [decide_eq_true (show k ≥ (c) - q.length from e1)]; simp only [e1, true_and]; rfl
        · rw [decide_eq_false (show ¬ k ≥ (c) - q.length from e1)]; simp only [e1, false_and, decide_false]; rfl
      unfold hearW
      by_cases h4 : (c) - q.length ≤ k ∧ k < (c)
      · rw [decide_eq_true h4, if_pos h4]
        simp only [cond_true]
        rw [wrap_u64 (show 0 ≤ k - ((c) - (q.length : Int)) by omega) (by omega), wrap_u64 (show 0 ≤ k - ((c) - (q.length : Int)) + 1 by omega) (by omega), decide_eq_true (show 0 ≤ k - ((c) - (q.length : Int)) + 1 by omega), decide_eq_true (show k - ((c) - (q.length : Int)) + 1 ≤ ((q.length : Nat) : Int) by omega), List.take_of_length_le (by rw [List.length_drop]; omega)]
        rw [show fits (0 + (q.drop (k - ((c) - (q.length : Int)) + 1).toNat).length) 24 = true from decide_eq_true (by rw [List.length_drop]; omega)]
        simp only [Bool.and_true, ck_true, List.nil_append]
        by_cases e1 : s = 0
        · rw [show (s == 0) = true by simpa using e1, if_pos (Or.inl e1), decide_eq_false (show ¬ 0 < s by omega)]; rfl
        · rw [show (s == 0) = false by simpa using e1, decide_eq_true (show 0 < s by omega)]
          by_cases e2 : s = IntKind.u64.wrap ((d) + 1)
          · rw [show (s != IntKind.u64.wrap ((d) + 1)) = false by simpa using e2, if_neg (fun hh => Or.elim hh e1 (fun g => g e2)), show fits (0 + p.length) 1 = true from decide_eq_true (by have := hp.len; omega)]; rfl
          · rw [show (s != IntKind.u64.wrap ((d) + 1)) = true by simpa using e2, if_pos (Or.inr e2)]; rfl
      · rw [decide_eq_false h4, if_neg h4]
        simp only [cond_false]
        by_cases e1 : s = 0
        · rw [show (s == 0) = true by simpa using e1, if_pos (Or.inl e1), decide_eq_false (show ¬ 0 < s by omega)]; rfl
        · rw [show (s == 0) = false by simpa using e1, decide_eq_true (show 0 < s by omega)]
          by_cases e2 : s = IntKind.u64.wrap ((d) + 1)
          · rw [show (s != IntKind.u64.wrap ((d) + 1)) = false by simpa using e2, if_neg (fun hh => Or.elim hh e1 (fun g => g e2)), show fits (0 + p.length) 1 = true from decide_eq_true (by have := hp.len; omega)]; rfl
          · rw [show (s != IntKind.u64.wrap ((d) + 1)) = true by simpa using e2, if_pos (Or.inr e2)]; rfl
    · rw [show (y != a) = true by simpa using h3, if_pos h3]
      simp only [cond_true]
      refine (jn1 _ _ (decide (0 < s) || (decide (y ≠ 0) || o)) (fun T => ?_)).trans rfl
      by_cases e1 : y = 0
      · by_cases e2 : 0 < s
        · cases o <;> simp [e1, e2]
        · cases o <;> simp [e1, e2]
      · by_cases e2 : 0 < s
        · cases o <;> simp [e1, e2]
        · cases o <;> simp [e1, e2, Bool.cond_eq_ite]

theorem hearBoth {a b c d : Int} {q : List (List Int)} {w r : Int} (o : Bool) {x y s k : Int} {p : List Int} (hc : u c) (hy : 0 ≤ y) (hs : 0 ≤ s) (hk : 0 ≤ k) (hq : ∀ z ∈ q, okB z = true) (hql : q.length < 9223372036854775808) :
    ∃ l, ∃ came : Bool, ∃ a' b' c' d' q' w' r' o' e, q'.length < 9223372036854775808 ∧ (∀ z ∈ q', okB z = true) ∧
      G31 ((a, b, c, d, q, w, r, o, ()), (x, y, s, k, p, ()), ()) = (true, ((l, came, (a', b', c', d', q', w', r', o', ()), e, ()), ((), (), ()))) ∧
      G38 ((a, b, c, d, q, w, r, o, ()), (x, y, s, k, p, ()), ()) = (true, ((l, came, (a', b', c', d', q', w', r', o', ()), e, ()), ((), (), ()))) := by
  by_cases h : chk a b c d q w r = 0
  case neg =>
    have hne : (chk a b c d q w r == 0) = false := by simpa using h
    have hne2 : (chk a b c d q w r != 0) = true := by simpa using h
    refine ⟨[], false, 0, 0, 0, 0, [], 0, 0, false, chk a b c d q w r, by decide, by simp, G31_of ?_, G38_of ?_⟩
    · unfold t31
      rw [check19]
      refine (jn1 _ _ (chk a b c d q w r) (fun T => by rw [cl_true]; simp only [hne, cond_false])).trans ?_
      simp only [hne2, cond_true]
    · unfold t38
      rw [check33 _ _ _ _ _ _ _ _ hc, cl_true]
      refine (jn1 _ _ (chk a b c d q w r) (fun T => by simp only [hne, cond_false])).trans ?_
      simp only [hne2, cond_true]
  by_cases hP : chkP x y s k p = 0
  case neg =>
    have hne2 : (chkP x y s k p != 0) = true := by simpa using hP
    refine ⟨[], false, 0, 0, 0, 0, [], 0, 0, false, chkP x y s k p, by decide, by simp, G31_of ?_, G38_of ?_⟩
    · unfold t31
      rw [check19, h, piece27]
      refine (jn1 _ _ (chkP x y s k p) (fun T => rfl)).trans ?_
      simp only [hne2, cond_true]
    · unfold t38
      rw [check33 _ _ _ _ _ _ _ _ hc, h, piece34, cl_true]
      refine (jn1 _ _ (chkP x y s k p) (fun T => rfl)).trans ?_
      simp only [hne2, cond_true]
  have e1 := hear31 o (chk_L.1 h) (chkP_P.1 hP) hy hs hk
  have e2 := hear38 o (chk_L.1 h) (chkP_P.1 hP) hc hy hs hk
  have hd : ∀ n, ∀ z ∈ q.drop n, okB z = true := fun n z hz => hq z (List.mem_of_mem_drop hz)
  have hdl : ∀ n, (q.drop n).length < 9223372036854775808 := fun n => by rw [List.length_drop]; omega
  unfold hearV hearW at e1 e2
  repeat' split at e1
  all_goals simp only [*, if_true, if_false, ne_eq, not_true_eq_false, not_false_eq_true] at e2
  all_goals exact ⟨_, _, _, _, _, _, _, _, _, _, _, by first | exact hql | exact hdl _, by first | exact hq | exact hd _, e1, e2⟩
end Go.Proofs.Ytkmeimhapokdlaa.Ae
