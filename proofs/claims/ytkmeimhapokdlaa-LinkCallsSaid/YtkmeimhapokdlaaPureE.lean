/- LinkCalls: the document's functions answer as the program's. -/
import Derived.Test.YtkmeimhapokdlaaPureD
import Derived.Test.YtkmeimhapokdlaaFnsBb
set_option linter.unusedVariables false
set_option linter.unusedSimpArgs false
namespace Go.Proofs.Ytkmeimhapokdlaa.Ae
open Go

theorem rchk_eq (a b c d : Int) (q : List (List Int)) (w r : Int) (hc : u c) : rchk a b c d q w r = chk a b c d q w r := by
  unfold rchk chk
  split
  · rfl
  rename_i h1
  by_cases h2 : 1 ≤ a ∧ a ≤ 9223372036854775808 ∧ 1 ≤ c ∧ c ≤ 9223372036854775808 ∧ (q.length : Int) < c ∧ 1 ≤ r ∧ r ≤ 1024 ∧ 0 ≤ w ∧ w ≤ r ∧ (b ≠ 0 ∨ d = 0)
  · rw [if_pos h2, wrap_u64 (by omega) (by omega), if_neg (by omega)]
  · rw [if_neg h2, if_pos]
    by_cases h3 : 1 ≤ c
    · obtain ⟨h4, h5⟩ := hc
      rw [wrap_u64 (by omega) (by omega)]; omega
    · omega
theorem check33 (a b c d : Int) (q : List (List Int)) (w r : Int) (o : Bool) (hc : u c) : G33 ((a, b, c, d, q, w, r, o, ()), ()) = (true, ((chk a b c d q w r, ()), ((), ()))) := by
  simp only [G33, rchk_eq _ _ _ _ _ _ _ hc]

theorem piece34 (a b s k : Int) (p : List Int) : G34 ((a, b, s, k, p, ()), ()) = (true, ((chkP a b s k p, ()), ((), ()))) := by
  refine G34_of ?_
  unfold t34
  by_cases h1 : 1048576 < p.length
  · have e : chkP a b s k p = 3 := by unfold chkP; rw [if_pos h1]
    rw [decide_eq_true (show (p.length : Int) > 1048576 by omega), e]; rfl
  rw [decide_eq_false (show ¬ (p.length : Int) > 1048576 by omega)]
  simp only [cond_false, jn]
  by_cases h2 : a < 1 ∨ 9223372036854775808 < a ∨ 9223372036854775808 < b ∨ 9223372036854775808 < s ∨ 9223372036854775808 < k
  · have e : chkP a b s k p = 2 := by unfold chkP; rw [if_neg h1, if_pos (by omega)]
    rw [e]
    simp only [Bool.cond_eq_ite, decide_eq_true_eq, gt_iff_lt, if_true]
    repeat' split
    all_goals first | rfl | (exfalso; omega)
  · simp only [decide_eq_false (show ¬ a < 1 by omega), decide_eq_false (show ¬ a > 9223372036854775808 by omega), decide_eq_false (show ¬ b > 9223372036854775808 by omega), decide_eq_false (show ¬ s > 9223372036854775808 by omega), decide_eq_false (show ¬ k > 9223372036854775808 by omega), cond_false]
    by_cases h4 : s = 0
    · rw [show (s == 0) = true by simpa using h4]
      by_cases h5 : 0 < p.length
      · have e : chkP a b s k p = 2 := by unfold chkP; rw [if_neg h1, if_pos (by omega)]
        rw [decide_eq_true (show (p.length : Int) > 0 by omega), e]; rfl
      · have e : chkP a b s k p = 0 := by unfold chkP; rw [if_neg h1, if_neg (by omega)]
        rw [decide_eq_false (show ¬ (p.length : Int) > 0 by omega), e]; rfl
    · have e : chkP a b s k p = 0 := by unfold chkP; rw [if_neg h1, if_neg (by omega)]
      rw [show (s == 0) = false by simpa using h4, e]; rfl

theorem new11 (a r : Int) : ∃ a' c' w' r' e, G11 (a, r, ()) = (true, (((a', 0, c', 0, [], w', r', false, ()), e, ()), ((), (), ()))) ∧ G32 (a, r, ()) = (true, (((a', 0, c', 0, [], w', r', false, ()), e, ()), ((), (), ()))) := by
  by_cases h : chk a 0 1 0 [] r r = 0
  · refine ⟨a, 1, r, r, 0, G11_of ?_, G32_of ?_⟩
    · unfold t11; rw [check19, h]; rfl
    · unfold t32; rw [check33 _ _ _ _ _ _ _ _ ⟨by decide, by decide⟩, h]; rfl
  · have h2 : chk a 0 1 0 [] r r = 2 := by
      unfold chk at h ⊢
      rw [if_neg (by simp)] at h ⊢
      split at h
      · exact absurd rfl h
      · rename_i h3; rw [if_neg h3]
    refine ⟨0, 0, 0, 0, 2, G11_of ?_, G32_of ?_⟩
    · unfold t11; rw [check19, h2]; rfl
    · unfold t32; rw [check33 _ _ _ _ _ _ _ _ ⟨by decide, by decide⟩, h2]; rfl

theorem put13 {a b c d : Int} {q : List (List Int)} {w r : Int} (o : Bool) (x : List Int) (hc : u c) (hx : x.length ≤ 3000) : ∃ a' b' c' d' q' w' r' o' e, q'.length < 9223372036854775808 ∧ G13 ((a, b, c, d, q, w, r, o, ()), x, ()) = (true, (((a', b', c', d', q', w', r', o', ()), e, ()), ((), (), ()))) ∧ G35 ((a, b, c, d, q, w, r, o, ()), x, ()) = (true, (((a', b', c', d', q', w', r', o', ()), e, ()), ((), (), ()))) := by
  by_cases h : chk a b c d q w r = 0
  case neg =>
    refine ⟨0, 0, 0, 0, [], 0, 0, false, chk a b c d q w r, by decide, G13_of ?_, G35_of ?_⟩
    · unfold t13; rw [check19, cl_true]; simp only [show (chk a b c d q w r != 0) = true by simpa using h, cond_true]
    · unfold t35; rw [check33 _ _ _ _ _ _ _ _ hc, cl_true]; simp only [show (chk a b c d q w r != 0) = true by simpa using h, cond_true]
  have hL := chk_L.1 h
  have hl := hL.len
  have e1 : decide ((x.length : Int) > 1048576) = false := decide_eq_false (by omega)
  by_cases h2 : 64 ≤ q.length
  · refine ⟨0, 0, 0, 0, [], 0, 0, false, 9, by decide, G13_of ?_, G35_of ?_⟩
    · unfold t13; rw [check19, h, cl_true, e1, decide_eq_true (show (q.length : Int) ≥ 64 by omega)]; rfl
    · unfold t35; rw [check33 _ _ _ _ _ _ _ _ hc, h, cl_true, e1, decide_eq_true (show (q.length : Int) ≥ 64 by omega)]; rfl
  · refine ⟨a, b, IntKind.u64.wrap (c + 1), d, q ++ [x], if q.length = 0 then r else w, r, o, 0, by simp; omega, G13_of ?_, G35_of ?_⟩
    · unfold t13
      rw [check19, h, cl_true, e1, decide_eq_false (show ¬ (q.length : Int) ≥ 64 by omega), hL.clone, clone42 x (by omega)]
      simp only [bne_self_eq_false, cond_false, cl_true, jn, show fits (q.length + 1) 24 = true from decide_eq_true (by omega), ck_true]
      by_cases h3 : q.length = 0
      · simp [h3]
      · simp [h3, Bool.cond_eq_ite]
    · unfold t35
      rw [check33 _ _ _ _ _ _ _ _ hc, h, cl_true, e1, decide_eq_false (show ¬ (q.length : Int) ≥ 64 by omega)]
      simp only [bne_self_eq_false, cond_false, cl_true, jn, show fits (0 + q.length) 24 = true from decide_eq_true (by omega), show fits (0 + x.length) 1 = true from decide_eq_true (by omega), List.nil_append, show fits (q.length + 1) 24 = true from decide_eq_true (by omega), ck_true]
      by_cases h3 : q.length = 0
      · simp [h3]
      · simp [h3, Bool.cond_eq_ite]

theorem tick36 {a b c d : Int} {q : List (List Int)} {w r : Int} (o : Bool) (hc : u c) (hq : q.length < 9223372036854775808) : ∃ a' b' c' d' q' w' r' o' e, q'.length < 9223372036854775808 ∧ G24 ((a, b, c, d, q, w, r, o, ()), ()) = (true, (((a', b', c', d', q', w', r', o', ()), e, ()), ((), ()))) ∧ G36 ((a, b, c, d, q, w, r, o, ()), ()) = (true, (((a', b', c', d', q', w', r', o', ()), e, ()), ((), ()))) := by
  by_cases h : chk a b c d q w r = 0
  case neg =>
    refine ⟨0, 0, 0, 0, [], 0, 0, false, chk a b c d q w r, by decide, G24_of ?_, G36_of ?_⟩
    · unfold t24; rw [check19, cl_true]; simp only [show (chk a b c d q w r != 0) = true by simpa using h, cond_true]
    · unfold t36; rw [check33 _ _ _ _ _ _ _ _ hc, cl_true]; simp only [show (chk a b c d q w r != 0) = true by simpa using h, cond_true]
  have hL := chk_L.1 h
  have h1 := hL.w1
  have h2 := hL.w2
  have h3 := hL.r2
  refine ⟨_, _, _, _, _, _, _, _, _, hq, tick24 o hL, G36_of ?_⟩
  unfold t36
  rw [check33 _ _ _ _ _ _ _ _ hc, h, cl_true, wrap_i64 (by omega) (by omega), show (if r < w + 1 then r else w + 1) = min (w + 1) r by omega]
  rfl

theorem send37 {a b c d : Int} {q : List (List Int)} {w r : Int} (o : Bool) (hc : u c) (hq : q.length ≤ 70) (hx : ∀ x ∈ q, x.length ≤ 300) : ∃ x y s k p, ∃ a' b' c' d' q' w' r' o', ∃ ok : Bool, q'.length < 9223372036854775808 ∧
    G21 ((a, b, c, d, q, w, r, o, ()), ()) = (true, (((x, y, s, k, p, ()), (a', b', c', d', q', w', r', o', ()), ok, ()), ((), ()))) ∧ G37 ((a, b, c, d, q, w, r, o, ()), ()) = (true, (((x, y, s, k, p, ()), (a', b', c', d', q', w', r', o', ()), ok, ()), ((), ()))) := by
  have hq2 : q.length < 9223372036854775808 := by omega
  have hcl : G41 ((a, b, c, d, q, w, r, o, ()), ()) = (true, (((a, b, c, d, q, w, r, o, ()), ()), ((), ()))) := clone41 _ _ _ _ _ _ _ _ (by omega) fun x h => by have := hx x h; omega
  by_cases h : chk a b c d q w r = 0
  case neg =>
    refine ⟨0, 0, 0, 0, [], a, b, c, d, q, w, r, o, false, hq2, G21_of ?_, G37_of ?_⟩
    · unfold t21; rw [check19, hcl, cl_true, cl_true]; simp only [show (chk a b c d q w r != 0) = true by simpa using h, cond_true]
    · unfold t37; rw [check33 _ _ _ _ _ _ _ _ hc, cl_true]; simp only [show (chk a b c d q w r != 0) = true by simpa using h, cond_true]
  have hL := chk_L.1 h
  have h1 := hL.qc
  have h2 := hL.c2
  have key : ∀ V, snd a b c d q w r o = V → G21 ((a, b, c, d, q, w, r, o, ()), ()) = (true, (V, ((), ()))) ∧ G37 ((a, b, c, d, q, w, r, o, ()), ()) = (true, (V, ((), ()))) := by
    rintro _ rfl
    refine ⟨send21 o hL, G37_of ?_⟩
    unfold t37 snd
    rw [check33 _ _ _ _ _ _ _ _ hc, h, wrap_u64 (show 0 ≤ (q.length : Int) by omega) (by omega), wrap_u64 (show 0 ≤ c - (q.length : Int) by omega) (by omega)]
    simp only [cl_true, jn, bne_self_eq_false, cond_false]
    by_cases hq : 0 < q.length
    · have hm : q.getD 0 [] ∈ q := by
        rw [List.getD_eq_getElem?_getD, List.getElem?_eq_getElem hq]
        exact List.getElem_mem hq
      have := hL.all _ hm
      rw [decide_eq_true (show (q.length : Int) > 0 by omega), show rng 0 q.length = true from rng_ok (by omega) (by omega), show fits (0 + (q.getD 0 []).length) 1 = true from decide_eq_true (by omega)]
      simp only [cl_true, ck_true, cond_true, List.nil_append]
      by_cases hw : w = r
      · rw [if_pos ⟨hq, hw⟩, show (w == r) = true by simpa using hw]
        rfl
      · rw [if_neg (fun hh => hw hh.2), show (w == r) = false by simpa using hw]
        cases o <;> rfl
    · rw [if_neg (fun hh => hq hh.1), decide_eq_false (show ¬ (q.length : Int) > 0 by omega)]
      cases o <;> rfl
  unfold snd at key
  split at key
  · exact ⟨_, _, _, _, _, _, _, _, _, _, _, _, _, _, hq2, (key _ rfl).1, (key _ rfl).2⟩
  split at key
  · exact ⟨_, _, _, _, _, _, _, _, _, _, _, _, _, _, hq2, (key _ rfl).1, (key _ rfl).2⟩
  · exact ⟨_, _, _, _, _, _, _, _, _, _, _, _, _, _, hq2, (key _ rfl).1, (key _ rfl).2⟩

theorem bytes39 {x y s k : Int} {p : List Int} (hx : u x) (hy : u y) (hs : u s) (hk : u k) : ∃ l e, G29 ((x, y, s, k, p, ()), ()) = (true, ((l, e, ()), ((), ()))) ∧ G39 ((x, y, s, k, p, ()), ()) = (true, ((l, e, ()), ((), ()))) := by
  by_cases h : chkP x y s k p = 0
  case neg =>
    refine ⟨[], chkP x y s k p, G29_of ?_, G39_of ?_⟩
    · unfold t29; rw [piece27, cl_true]; simp only [show (chkP x y s k p != 0) = true by simpa using h, cond_true]
    · unfold t39; rw [piece34, cl_true]; simp only [show (chkP x y s k p != 0) = true by simpa using h, cond_true]
  have hP := chkP_P.1 h
  refine ⟨_, _, bytes29 hP hx hy hs hk, G39_of ?_⟩
  have h1 := numB_len_le x
  have h2 := numB_len_le y
  have h3 := numB_len_le s
  have h4 := numB_len_le k
  have h5 := numB_len_le (p.length : Int)
  have hl := hP.len
  have e58 : G58 (numB x ++ numB y ++ numB s ++ numB k, p, ()) = (true, ((encP x y s k p, 0, ()), ((), (), ()))) := by
    refine G58_of ?_
    unfold t58
    rw [decide_eq_false (show ¬ (p.length : Int) > 1048576 by omega), wrap_u64 (show 0 ≤ (p.length : Int) by omega) (by omega), number57 _ _ (by simp only [List.length_append]; omega) (by omega) (by omega), cl_true]
    dsimp only
    rw [show fits ((numB x ++ numB y ++ numB s ++ numB k ++ numB (p.length : Int)).length + p.length) 1 = true from decide_eq_true (by simp only [List.length_append]; omega)]
    rfl
  unfold t39
  rw [piece34, h, cl_true]
  simp only [bne_self_eq_false, cond_false]
  rw [number57 _ _ (by simp) hx.1 hx.2, cl_true]
  dsimp only
  rw [number57 _ _ (by simp; omega) hy.1 hy.2, cl_true]
  dsimp only
  rw [number57 _ _ (by simp; omega) hs.1 hs.2, cl_true]
  dsimp only
  rw [number57 _ _ (by simp; omega) hk.1 hk.2, cl_true]
  dsimp only
  rw [List.nil_append, e58, cl_true]

theorem block61 (b : List Int) (e : Int) (hb : okB b = true) (hl : b.length ≤ 140737488355328) : G61 ((b, e, ()), ()) = (true, (((blk (b, e)).1, ()), (((blk (b, e)).2.1, (blk (b, e)).2.2, ()), ()))) := by
  refine G61_of ?_
  have k := st_ok (s := (b, e)) hb
  have fixed69 : ∀ (b : List Int) (e n : Int), 0 ≤ n → b.length ≤ 140737488355328 → G69 ((b, e, ()), n, ()) = (true, (((fx (b, e) n).1, ()), (((fx (b, e) n).2.1, (fx (b, e) n).2.2, ()), (), ()))) := by
    intro b e n hn hb
    refine G69_of ?_
    have hm : (if n > 0 then n else 0) = n := by split <;> omega
    unfold t69 fx
    rw [hm]
    dsimp only
    by_cases he : e = 0
    · subst he
      rw [if_neg (show ¬ (0 : Int) ≠ 0 from fun h => h rfl)]
      simp only [bne_self_eq_false, cond_false]
      by_cases h1 : (b.length : Int) < n
      · rw [decide_eq_true (show n > (b.length : Int) from h1), if_pos h1]; rfl
      · rw [decide_eq_false (show ¬ n > (b.length : Int) from h1), if_neg h1, decide_eq_true hn, decide_eq_true (show n ≤ ((b.length : Nat) : Int) by omega), List.drop_zero, show fits (0 + (b.take n.toNat).length) 1 = true from decide_eq_true (by rw [List.length_take]; omega), List.take_of_length_le (l := b.drop n.toNat) (by rw [List.length_drop]; omega)]
        simp only [cond_false, Bool.and_true, ck_true, List.nil_append]
    · rw [if_pos he, show (e != 0) = true by simpa using he]
      rfl
  have upto68 : G68 ((b, e, ()), 1048576, ()) = (true, ((if (st (b, e)).2.2 ≠ 0 then 0 else if 1048576 < (st (b, e)).1 then 0 else (st (b, e)).1, ()), (((st (b, e)).2.1, if (st (b, e)).2.2 ≠ 0 then (st (b, e)).2.2 else if 1048576 < (st (b, e)).1 then 3 else 0, ()), (), ()))) := by
    refine G68_of ?_
    unfold t68
    rw [st60 b e hb (by omega), cl_true]
    generalize st (b, e) = t
    obtain ⟨v, b1, e1⟩ := t
    dsimp only
    by_cases he : e1 = 0
    · subst he
      by_cases h1 : 1048576 < v
      · simp [jn, h1]
      · simp [jn, h1]
    · simp [jn, he, Bool.cond_eq_ite]
  unfold t61 blk
  rw [upto68, cl_true]
  have hl2 : (st (b, e)).2.1.length ≤ 140737488355328 := Nat.le_trans k.2.1 hl
  have hr := k.2.2
  generalize st (b, e) = t at hl2 hr ⊢
  obtain ⟨v, b1, e1⟩ := t
  dsimp only at hl2 hr ⊢
  by_cases he : e1 = 0
  · subst he
    by_cases h1 : 1048576 < v
    · simp only [ne_eq, not_true_eq_false, if_false, h1, if_true]
      rw [show IntKind.i64.wrap 0 = 0 from rfl, fixed69 b1 3 0 (Int.le_refl _) hl2, cl_true]
      rfl
    · simp only [ne_eq, not_true_eq_false, if_false, h1]
      rw [wrap_i64 (by omega) (by omega), fixed69 b1 0 v hr.1 hl2, cl_true]
  · simp only [ne_eq, he, not_false_eq_true, if_true]
    rw [show IntKind.i64.wrap 0 = 0 from rfl, fixed69 b1 e1 0 (Int.le_refl _) hl2, cl_true]
    unfold fx
    dsimp only
    rw [if_pos he]

theorem read40 (b : List Int) (hb : okB b = true) (hl : b.length ≤ 140737488355328) : G40 (b, ()) = (true, (((rdP b).1, (rdP b).2, ()), ((), ()))) := by
  refine G40_of ?_
  have k1 := st_ok (s := (b, 0)) hb
  have k2 := st_ok (s := (st (b, 0)).2) k1.1
  have k3 := st_ok (s := (st (st (b, 0)).2).2) k2.1
  have k4 := st_ok (s := (st (st (st (b, 0)).2).2).2) k3.1
  have f0 : G59 (b, ()) = (true, (((b, 0, ()), ()), ((), ()))) := by
    refine G59_of ?_
    unfold t59
    rw [show fits (0 + b.length) 1 = true from decide_eq_true (by omega)]; rfl
  have f1 := st60 b 0 hb (by omega)
  have f2 := st60 (st (b, 0)).2.1 (st (b, 0)).2.2 k1.1 (by have := k1.2.1; simp only at this; omega)
  have f3 := st60 (st (st (b, 0)).2).2.1 (st (st (b, 0)).2).2.2 k2.1 (by have := k1.2.1; have := k2.2.1; simp only at *; omega)
  have f4 := st60 (st (st (st (b, 0)).2).2).2.1 (st (st (st (b, 0)).2).2).2.2 k3.1 (by have := k1.2.1; have := k2.2.1; have := k3.2.1; simp only at *; omega)
  have f5 := block61 (st (st (st (st (b, 0)).2).2).2).2.1 (st (st (st (st (b, 0)).2).2).2).2.2 k4.1 (by have := k1.2.1; have := k2.2.1; have := k3.2.1; have := k4.2.1; simp only at *; omega)
  have end62 : ∀ (b : List Int) (e : Int), G62 ((b, e, ()), ()) = (true, ((if e = 0 ∧ b ≠ [] then 4 else e, ()), ((b, if e = 0 ∧ b ≠ [] then 4 else e, ()), ()))) := by
    intro b e
    refine G62_of ?_
    unfold t62
    by_cases h0 : e = 0
    · subst h0
      cases b with
      | nil => simp [jn]
      | cons a t => simp [jn, cl_true, Bool.cond_eq_ite, show ((0 : Int) < (t.length : Int) + 1) by omega]
    · simp [h0, jn, Bool.cond_eq_ite]
  unfold rdP
  clear k1 k2 k3 k4
  generalize st (b, 0) = s1 at *
  obtain ⟨v1, b1, e1⟩ := s1
  dsimp only at *
  generalize st (b1, e1) = s2 at *
  obtain ⟨v2, b2, e2⟩ := s2
  dsimp only at *
  generalize st (b2, e2) = s3 at *
  obtain ⟨v3, b3, e3⟩ := s3
  dsimp only at *
  generalize st (b3, e3) = s4 at *
  obtain ⟨v4, b4, e4⟩ := s4
  dsimp only at *
  generalize blk (b4, e4) = z at *
  obtain ⟨body, rest, e⟩ := z
  dsimp only at *
  unfold t40
  rw [f0, cl_true, f1, cl_true, f2, cl_true, f3, cl_true, f4, cl_true, f5, cl_true]
  dsimp only
  rw [end62, piece34]
  simp only [jn, cl_true]
  by_cases h1 : e = 0
  · subst h1
    by_cases h2 : rest = []
    · subst h2
      rw [if_neg (show ¬ ((0 : Int) = 0 ∧ ([] : List Int) ≠ []) from fun h => h.2 rfl)]
      by_cases h3 : chkP v1 v2 v3 v4 body = 0
      · rw [if_pos ⟨rfl, rfl, h3⟩, h3]; rfl
      · rw [if_neg (fun hh => h3 hh.2.2)]
        simp only [bne_self_eq_false, cond_false, show (chkP v1 v2 v3 v4 body != 0) = true by simpa using h3, cond_true]
    · rw [if_pos (show (0 : Int) = 0 ∧ rest ≠ [] from ⟨rfl, h2⟩), if_neg (fun hh => h2 hh.2.1)]
      rfl
  · rw [if_neg (show ¬ (e = 0 ∧ rest ≠ []) from fun h => h1 h.1), if_neg (fun hh => h1 hh.1), show (e != 0) = true by simpa using h1]
    rfl
end Go.Proofs.Ytkmeimhapokdlaa.Ae
