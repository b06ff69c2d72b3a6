/- LinkPassed: the plain law. -/
import Derived.Test.YtkmeimhapokdlaaPureC
set_option linter.unusedVariables false
set_option linter.unusedSimpArgs false
namespace Go.Proofs.Ytkmeimhapokdlaa.Ae
open Go

/-- n bytes of a reader. -/
def fx (s : List Int × Int) (n : Int) : List Int × (List Int × Int) :=
  if s.2 ≠ 0 then ([], s) else if (s.1.length : Int) < n then ([], (s.1, 5)) else (s.1.take n.toNat, (s.1.drop n.toNat, 0))
/-- A block of a reader. -/
def blk (s : List Int × Int) : List Int × (List Int × Int) :=
  if (st s).2.2 ≠ 0 then ([], (st s).2) else if 1048576 < (st s).1 then ([], ((st s).2.1, 3)) else fx (st s).2 (st s).1

theorem fixed66 (b : List Int) (e n : Int) (hn : 0 ≤ n) (hb : b.length ≤ 140737488355328) : G66 ((b, e, true, ()), n, ()) = (true, (((fx (b, e) n).1, ()), (((fx (b, e) n).2.1, (fx (b, e) n).2.2, true, ()), (), ()))) := by
  refine G66_of ?_
  have hm : (if n > 0 then n else 0) = n := by split <;> omega
  unfold t66 fx
  rw [dead64, cl_true, hm]
  dsimp only
  by_cases he : e = 0
  · subst he
    rw [if_neg (show ¬ (0 : Int) ≠ 0 from fun h => h rfl)]
    simp only [bne_self_eq_false, Bool.not_true, Bool.or_self, cond_false]
    by_cases h1 : (b.length : Int) < n
    · rw [decide_eq_true h1, if_pos h1, fail65]; rfl
    · rw [decide_eq_false h1, if_neg h1, decide_eq_true hn, decide_eq_true (show n ≤ ((b.length : Nat) : Int) by omega), List.drop_zero, show fits (0 + (b.take n.toNat).length) 1 = true from decide_eq_true (by rw [List.length_take]; omega), List.take_of_length_le (l := b.drop n.toNat) (by rw [List.length_drop]; omega)]
      simp only [cond_false, Bool.and_true, ck_true, List.nil_append]
  · rw [if_pos he, show (e != 0) = true by simpa using he]
    rfl

theorem block50 (b : List Int) (e : Int) (hb : okB b = true) (hl : b.length ≤ 140737488355328) : G50 ((b, e, true, ()), ()) = (true, (((blk (b, e)).1, ()), (((blk (b, e)).2.1, (blk (b, e)).2.2, true, ()), ()))) := by
  refine G50_of ?_
  have k := st_ok (s := (b, e)) hb
  unfold t50 blk
  rw [st49 b e hb (by omega), cl_true]
  have hl2 : (st (b, e)).2.1.length ≤ 140737488355328 := Nat.le_trans k.2.1 hl
  have hr := k.2.2
  generalize st (b, e) = t at hl2 hr ⊢
  obtain ⟨v, b1, e1⟩ := t
  dsimp only at hl2 hr ⊢
  rw [dead64, cl_true]
  by_cases he : e1 = 0
  · subst he
    rw [if_neg (show ¬ (0 : Int) ≠ 0 from fun h => h rfl)]
    simp only [bne_self_eq_false, Bool.not_true, Bool.or_self, cond_false]
    by_cases h1 : 1048576 < v
    · rw [decide_eq_true (show v > 1048576 from h1), if_pos h1, fail65]; rfl
    · rw [decide_eq_false (show ¬ v > 1048576 from h1), if_neg h1, wrap_i64 (by omega) (by omega), fixed66 b1 0 v hr.1 hl2]
      rfl
  · rw [if_pos he, show (e1 != 0) = true by simpa using he]
    rfl

theorem fx_ok {s : List Int × Int} {n : Int} (h : okB s.1 = true) : okB (fx s n).1 = true ∧ (fx s n).2.1.length ≤ s.1.length := by
  unfold fx
  split
  · exact ⟨rfl, Nat.le_refl _⟩
  split
  · exact ⟨rfl, Nat.le_refl _⟩
  · exact ⟨okB_take h _, by rw [List.length_drop]; omega⟩
theorem blk_ok {s : List Int × Int} (h : okB s.1 = true) : okB (blk s).1 = true ∧ (blk s).2.1.length ≤ s.1.length := by
  have k := st_ok h
  unfold blk
  split
  · exact ⟨rfl, k.2.1⟩
  split
  · exact ⟨rfl, k.2.1⟩
  · have := fx_ok (s := (st s).2) (n := (st s).1) k.1
    exact ⟨this.1, Nat.le_trans this.2 k.2.1⟩

/-- A piece of bytes. -/
def rdP (b : List Int) : (Int × (Int × (Int × (Int × (List Int × Unit))))) × Int :=
  if (blk (st (st (st (st (b, 0)).2).2).2).2).2.2 = 0 ∧ (blk (st (st (st (st (b, 0)).2).2).2).2).2.1 = [] ∧ chkP (st (b, 0)).1 (st (st (b, 0)).2).1 (st (st (st (b, 0)).2).2).1 (st (st (st (st (b, 0)).2).2).2).1 (blk (st (st (st (st (b, 0)).2).2).2).2).1 = 0 then
    (((st (b, 0)).1, (st (st (b, 0)).2).1, (st (st (st (b, 0)).2).2).1, (st (st (st (st (b, 0)).2).2).2).1, (blk (st (st (st (st (b, 0)).2).2).2).2).1, ()), 0)
  else ((0, 0, 0, 0, [], ()), 4)

theorem read26 (b : List Int) (hb : okB b = true) (hl : b.length ≤ 140737488355328) : G26 (b, ()) = (true, (((rdP b).1, (rdP b).2, ()), ((), ()))) := by
  refine G26_of ?_
  have k1 := st_ok (s := (b, 0)) hb
  have k2 := st_ok (s := (st (b, 0)).2) k1.1
  have k3 := st_ok (s := (st (st (b, 0)).2).2) k2.1
  have k4 := st_ok (s := (st (st (st (b, 0)).2).2).2) k3.1
  have f0 := new48 b hl
  have f1 := st49 b 0 hb (by omega)
  have f2 := st49 (st (b, 0)).2.1 (st (b, 0)).2.2 k1.1 (by have := k1.2.1; simp only at this; omega)
  have f3 := st49 (st (st (b, 0)).2).2.1 (st (st (b, 0)).2).2.2 k2.1 (by have := k1.2.1; have := k2.2.1; simp only at *; omega)
  have f4 := st49 (st (st (st (b, 0)).2).2).2.1 (st (st (st (b, 0)).2).2).2.2 k3.1 (by have := k1.2.1; have := k2.2.1; have := k3.2.1; simp only at *; omega)
  have f5 := block50 (st (st (st (st (b, 0)).2).2).2).2.1 (st (st (st (st (b, 0)).2).2).2).2.2 k4.1 (by have := k1.2.1; have := k2.2.1; have := k3.2.1; have := k4.2.1; simp only at *; omega)
  unfold rdP
  clear k1 k2 k3 k4
  generalize st (b, 0) = s1 at *
  obtain ⟨v1, b1, e1⟩ := s1
  dsimp only at *
  generalize st (b1, e1) = s2 at *
  obtain ⟨v2, b2, e2⟩ := s2
  dsimp only at *
  generalize st (b2, e2) = s3 at *
  obtain ⟨v3, b3, e3⟩ := s3
  dsimp only at *
  generalize st (b3, e3) = s4 at *
  obtain ⟨v4, b4, e4⟩ := s4
  dsimp only at *
  generalize blk (b4, e4) = z at *
  obtain ⟨body, rest, e⟩ := z
  dsimp only at *
  unfold t26
  rw [f0, cl_true, f1, cl_true, f2, cl_true, f3, cl_true, f4, cl_true, f5, cl_true]
  dsimp only
  rw [end51, piece27]
  simp only [jn, cl_true]
  by_cases h1 : e = 0
  · subst h1
    by_cases h2 : rest = []
    · subst h2
      rw [if_neg (show ¬ ((0 : Int) = 0 ∧ ([] : List Int) ≠ []) from fun h => h.2 rfl)]
      by_cases h3 : chkP v1 v2 v3 v4 body = 0
      · rw [if_pos ⟨rfl, rfl, h3⟩, h3]; rfl
      · rw [if_neg (fun hh => h3 hh.2.2)]
        simp only [bne_self_eq_false, cond_false, show (chkP v1 v2 v3 v4 body != 0) = true by simpa using h3, cond_true]
    · rw [if_pos (show (0 : Int) = 0 ∧ rest ≠ [] from ⟨rfl, h2⟩), if_neg (fun hh => h2 hh.2.1)]
      rfl
  · rw [if_neg (show ¬ (e = 0 ∧ rest ≠ []) from fun h => h1 h.1), if_neg (fun hh => h1 hh.1), show (e != 0) = true by simpa using h1]
    rfl

def encP (x y s k : Int) (p : List Int) : List Int := numB x ++ numB y ++ numB s ++ numB k ++ numB (p.length : Int) ++ p
/-- A number of the word's size. -/
def u (v : Int) : Prop := 0 ≤ v ∧ v < 18446744073709551616

theorem encP_len (x y s k : Int) (p : List Int) : (encP x y s k p).length ≤ p.length + 45 := by
  have h1 := numB_len_le x
  have h2 := numB_len_le y
  have h3 := numB_len_le s
  have h4 := numB_len_le k
  have h5 := numB_len_le (p.length : Int)
  simp only [encP, List.length_append]
  omega
theorem encP_ok (x y s k : Int) {p : List Int} (h : okB p = true) : okB (encP x y s k p) = true := by
  simp [encP, okB_append, numB_ok, h]

theorem bytes29 {x y s k : Int} {p : List Int} (h : P x y s k p) (hx : u x) (hy : u y) (hs : u s) (hk : u k) : G29 ((x, y, s, k, p, ()), ()) = (true, ((encP x y s k p, 0, ()), ((), ()))) := by
  refine G29_of ?_
  have h1 := numB_len_le x
  have h2 := numB_len_le y
  have h3 := numB_len_le s
  have h4 := numB_len_le k
  have h5 := numB_len_le (p.length : Int)
  have hl := h.len
  have e55 : G55 (numB x ++ numB y ++ numB s ++ numB k, p, ()) = (true, ((encP x y s k p, 0, ()), ((), (), ()))) := by
    refine G55_of ?_
    unfold t55
    rw [decide_eq_false (show ¬ (p.length : Int) > 1048576 by omega), wrap_u64 (show 0 ≤ (p.length : Int) by omega) (by omega), number54 _ _ (by simp only [List.length_append]; omega) (by omega) (by omega), cl_true]
    dsimp only
    rw [show fits ((numB x ++ numB y ++ numB s ++ numB k ++ numB (p.length : Int)).length + p.length) 1 = true from decide_eq_true (by simp only [List.length_append]; omega)]
    rfl
  unfold t29
  rw [piece27, chkP_P.2 h, cl_true]
  simp only [bne_self_eq_false, cond_false]
  show cl (G54 ([], x, ())) _ = _
  rw [number54 _ _ (by simp) hx.1 hx.2, cl_true]
  show cl (G54 (_, y, ())) _ = _
  rw [number54 _ _ (by simp; omega) hy.1 hy.2, cl_true]
  show cl (G54 (_, s, ())) _ = _
  rw [number54 _ _ (by simp; omega) hs.1 hs.2, cl_true]
  show cl (G54 (_, k, ())) _ = _
  rw [number54 _ _ (by simp; omega) hk.1 hk.2, cl_true]
  dsimp only
  rw [List.nil_append, e55, cl_true]

theorem rdP_enc {x y s k : Int} {p : List Int} (h : P x y s k p) (hx : u x) (hy : u y) (hs : u s) (hk : u k) : rdP (encP x y s k p) = ((x, y, s, k, p, ()), 0) := by
  have hl := h.len
  have e1 : st (encP x y s k p, 0) = (x, (numB y ++ (numB s ++ (numB k ++ (numB (p.length : Int) ++ p))), 0)) := by
    rw [encP]; simp only [List.append_assoc]; exact st_num hx.1 hx.2 _
  have e2 : st (st (encP x y s k p, 0)).2 = (y, (numB s ++ (numB k ++ (numB (p.length : Int) ++ p)), 0)) := by rw [e1]; exact st_num hy.1 hy.2 _
  have e3 : st (st (st (encP x y s k p, 0)).2).2 = (s, (numB k ++ (numB (p.length : Int) ++ p), 0)) := by rw [e2]; exact st_num hs.1 hs.2 _
  have e4 : st (st (st (st (encP x y s k p, 0)).2).2).2 = (k, (numB (p.length : Int) ++ p, 0)) := by rw [e3]; exact st_num hk.1 hk.2 _
  have e5 : blk (st (st (st (st (encP x y s k p, 0)).2).2).2).2 = (p, ([], 0)) := by
    rw [e4]
    unfold blk
    rw [st_num (by omega) (by omega)]
    dsimp only
    rw [if_neg (fun hh => hh rfl), if_neg (by omega)]
    unfold fx
    dsimp only
    rw [if_neg (fun hh => hh rfl), if_neg (by omega), Int.toNat_natCast, List.take_of_length_le (Nat.le_refl _), List.drop_of_length_le (Nat.le_refl _)]
  unfold rdP
  rw [e5, e4, e3, e2, e1]
  dsimp only
  rw [if_pos ⟨rfl, rfl, chkP_P.2 h⟩]

theorem piece30 (x y s k : Int) (p : List Int) : G30 ((x, y, s, k, p, ()), (x, y, s, k, p, ()), ()) = (true, ((true, ()), ((), (), ()))) := by
  refine G30_of ?_
  unfold t30
  rw [bytes25]
  simp [jn, cl_true]

theorem passed (n : Nat) (a b c d : Int) (q : List (List Int)) (w r : Int) (o : Bool) (x y s k : Int) (p : List Int) (hq : q.length < 9223372036854775808) (hx : u x) (hy : u y) (hs : u s) (hk : u k) (hp : okB p = true) :
    runD (cx7 G19 G27 G31 G9 G20 G23 G22 G29 G26 G30 n) (fnOf 7) (body 7) K7a K7o ((a, b, c, d, q, w, r, o, ()), (x, y, s, k, p, ()), ()) = some (true, ()) := by
  rw [eq7]
  unfold t7
  rw [G9_eq, check19]
  simp only [cl_true, jn, Bool.not_true, cond_false]
  by_cases h : L a b c d q w r
  case neg =>
    rw [show (chk a b c d q w r != 0) = true by rw [bne_iff_ne]; exact fun e => h (chk_L.1 e)]
    rfl
  rw [chk_L.2 h]
  simp only [bne_self_eq_false, cond_false]
  have e20 : G20 ((a, b, c, d, q, w, r, o, ()), 64, 300, ()) = (true, ((decide ((q.length : Int) ≤ 64) && q.all fun b => decide ((b.length : Int) ≤ 300), ()), ((), (), (), ()))) := by
    refine G20_of ?_
    unfold t20
    simp only [G46, decide_eq_true hq, cl_true]
  rw [e20, cl_true]
  cases (decide ((q.length : Int) ≤ 64) && q.all fun b => decide ((b.length : Int) ≤ 300))
  · rfl
  simp only [Bool.not_true, cond_false]
  rw [piece27, cl_true]
  by_cases hP : P x y s k p
  case neg =>
    rw [show (chkP x y s k p != 0) = true by rw [bne_iff_ne]; exact fun e => hP (chkP_P.1 e)]
    rfl
  rw [chkP_P.2 hP]
  simp only [bne_self_eq_false, cond_false]
  by_cases h3 : 3000 < p.length
  · rw [decide_eq_true (show (p.length : Int) > 3000 by omega)]; rfl
  rw [decide_eq_false (show ¬ (p.length : Int) > 3000 by omega), bytes29 hP hx hy hs hk]
  simp only [cond_false, cl_true]
  rw [read26 _ (encP_ok x y s k hp) (by have := encP_len x y s k p; omega), rdP_enc hP hx hy hs hk, cl_true]
  dsimp only
  rw [piece30, cl_true]
  simp only [bne_self_eq_false, cond_false, Bool.not_true]
  rw [hear31 o h hP hy.1 hs.1 hk.1, cl_true]
  unfold hearV
  by_cases h1 : x < b
  · rw [if_pos h1]
    dsimp only
    rw [link22 _ _ _ _ _ _ _ _ hq, decide_eq_true h1, decide_eq_false (show ¬ x ≥ b by omega), decide_eq_false (show ¬ x > b by omega), lists23 q hq]
    simp only [bne_self_eq_false, cond_false, cond_true, cl_true, Bool.not_true, link22 _ _ _ _ _ _ _ _ hq, List.length_nil]
    rfl
  · rw [if_neg h1]
    by_cases h4 : y = a
    · rw [if_neg (show ¬ y ≠ a from fun hh => hh h4)]
      have fin : ∀ (V : Out), V.2.2.1.1 = a → V.2.2.2.1 = 0 →
        ((bif (V.2.2.2.1 != 0) then some (false, ()) else bif (V.2.2.1.1 != a) then some (false, ()) else some (true, ())) : Option (Bool × Unit)) = some (true, ()) := by
        intro V e1 e2; rw [e1, e2]; simp
      have hV : ∀ (b' c' d' w' : Int) (o' : Bool), (hearW a b' c' d' q w' r o' s k p).2.2.1.1 = a ∧ (hearW a b' c' d' q w' r o' s k p).2.2.2.1 = 0 := by
        intro b' c' d' w' o'; unfold hearW; split <;> split <;> exact ⟨rfl, rfl⟩
      rw [decide_eq_false h1, decide_eq_true (show x ≥ b by omega), show (y == a) = true by simpa using h4]
      simp only [cond_false, cond_true]
      split
      · exact fin _ (hV _ _ _ _ _).1 (hV _ _ _ _ _).2
      · exact fin _ (hV _ _ _ _ _).1 (hV _ _ _ _ _).2
    · rw [if_pos h4]
      rw [decide_eq_false h1, decide_eq_true (show x ≥ b by omega), show (y == a) = false by simpa using h4]
      by_cases h5 : b < x
      · rw [if_pos h5, decide_eq_true (show x > b from h5)]
        dsimp only
        rw [lists23 q hq]
        simp only [bne_self_eq_false, cond_false, cond_true, cl_true, Bool.not_true, List.length_nil]
        rfl
      · rw [if_neg h5, decide_eq_false (show ¬ x > b from h5)]
        dsimp only
        rw [lists23 q hq, link22 _ _ _ _ _ _ _ _ hq]
        simp only [bne_self_eq_false, cond_false, cond_true, cl_true, Bool.not_true, List.length_nil]
        rfl

theorem passed7 (x : K7a.T) (hx : K7a.ok x) : ∃ n, runD (cx7 G19 G27 G31 G9 G20 G23 G22 G29 G26 G30 n) (fnOf 7) (body 7) K7a K7o x = some (true, ()) := by
  obtain ⟨⟨a, b, c, d, q, w, r, o, ⟨⟩⟩, ⟨x, y, s, k, p, ⟨⟩⟩, ⟨⟩⟩ := x
  obtain ⟨⟨-, -, -, -, hq, -⟩, ⟨hx, hy, hs, hk, hp, -⟩, -⟩ := hx
  refine ⟨0, passed 0 a b c d q w r o x y s k p hq.1 hx hy hs hk (okB_iff.2 fun z hz => ?_)⟩
  obtain ⟨i, hi, rfl⟩ := List.mem_iff_getElem.1 hz
  exact hp.2 i _ (List.getElem?_eq_getElem hi)
end Go.Proofs.Ytkmeimhapokdlaa.Ae
