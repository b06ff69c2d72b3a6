/- WindowBack: the plain law. -/
import Derived.Test.YtloohkifibfdiaaFnsC
set_option linter.unusedVariables false
set_option linter.unusedSimpArgs false
namespace Go.Proofs.Ytloohkifibfdiaa.Ae
open Go

theorem G20_eq : G20 () = (true, (true, ()), ()) := by kernel_rfl

theorem wrap_pos (n : Int) : 0 ≤ IntKind.u64.wrap n := by rw [wrap_u64_mod]; omega

theorem good_bif {α : Type} {P : Option α → Prop} (c : Bool) {x y : Option α} (hx : P x) (hy : P y) : P (bif c then x else y) := by cases c <;> assumption

theorem G27_all (a b c d : Int) : ∃ e, G27 ((a, b, c, d, ()), ()) = (true, ((e, ()), ((), ()))) := by
  have key : ∃ e, t27 a b c d = some ((e, ()), ((), ())) := by
    unfold t27
    simp only [decide_eq_true (wrap_pos _), ck_true, jn]
    let P : Option ((Int × Unit) × (Unit × Unit)) → Prop := fun o => ∃ e, o = some ((e, ()), ((), ()))
    show P _
    repeat' first | exact ⟨_, rfl⟩ | refine good_bif (P := P) _ ?_ ?_
  obtain ⟨e, h⟩ := key
  exact ⟨e, G27_of h⟩

/-- Is it a number of the word's size? -/
def u (v : Int) : Prop := 0 ≤ v ∧ v < 18446744073709551616
def encW (a b c d : Int) : List Int := numB a ++ numB b ++ numB c ++ numB d

theorem bytes31 {a b c d e : Int} (ha : u a) (hb : u b) (hc : u c) (hd : u d) (h : G27 ((a, b, c, d, ()), ()) = (true, ((e, ()), ((), ())))) :
    G31 ((a, b, c, d, ()), ()) = (true, (if e = 0 then (encW a b c d, 0, ()) else ([], e, ())), ((), ())) := by
  simp only [G31, h, ha.1, ha.2, hb.1, hb.2, hc.1, hc.2, hd.1, hd.2, decide_true, Bool.and_true, encW]

theorem read29 (b : List Int) (hb : okB b = true) (hl : b.length ≤ 140737488355328) :
    ∃ x1 x2 x3 x4 e, G29 (b, ()) = (true, ((x1, x2, x3, x4, ()), e, ()), ((), ())) ∧
      (e = 0 → u x1 ∧ u x2 ∧ u x3 ∧ u x4 ∧ b = encW x1 x2 x3 x4 ∧ G27 ((x1, x2, x3, x4, ()), ()) = (true, ((0, ()), ((), ())))) ∧
      (∀ y1 y2 y3 y4, u y1 → u y2 → u y3 → u y4 → b = encW y1 y2 y3 y4 → G27 ((y1, y2, y3, y4, ()), ()) = (true, ((0, ()), ((), ()))) → e = 0 ∧ x1 = y1 ∧ x2 = y2 ∧ x3 = y3 ∧ x4 = y4) := by
  have k1 := st_ok (s := (b, 0)) hb
  have k2 := st_ok (s := (st (b, 0)).2) k1.1
  have k3 := st_ok (s := (st (st (b, 0)).2).2) k2.1
  have k4 := st_ok (s := (st (st (st (b, 0)).2).2).2) k3.1
  have f0 := new35 b hl
  have f1 := st36 b 0 hb (by omega)
  have f2 := st36 (st (b, 0)).2.1 (st (b, 0)).2.2 k1.1 (by have := k1.2.1; simp only at this; omega)
  have f3 := st36 (st (st (b, 0)).2).2.1 (st (st (b, 0)).2).2.2 k2.1 (by have := k1.2.1; have := k2.2.1; simp only at *; omega)
  have f4 := st36 (st (st (st (b, 0)).2).2).2.1 (st (st (st (b, 0)).2).2).2.2 k3.1 (by have := k1.2.1; have := k2.2.1; have := k3.2.1; simp only at *; omega)
  have f5 := end37 (st (st (st (st (b, 0)).2).2).2).2.1 (st (st (st (st (b, 0)).2).2).2).2.2
  have r1 := st_back (s := (b, 0)) hb
  have r2 := st_back (s := (st (b, 0)).2) k1.1
  have r3 := st_back (s := (st (st (b, 0)).2).2) k2.1
  have r4 := st_back (s := (st (st (st (b, 0)).2).2).2) k3.1
  have n1 : ∀ y1 y2 y3 y4, u y1 → u y2 → u y3 → u y4 → b = encW y1 y2 y3 y4 → (st (b, 0)) = (y1, (numB y2 ++ (numB y3 ++ numB y4), 0)) ∧ (st (st (b, 0)).2) = (y2, (numB y3 ++ numB y4, 0)) ∧ (st (st (st (b, 0)).2).2) = (y3, (numB y4, 0)) ∧ (st (st (st (st (b, 0)).2).2).2) = (y4, ([], 0)) := by
    intro y1 y2 y3 y4 h1 h2 h3 h4 hb
    have e1 : st (b, 0) = (y1, (numB y2 ++ (numB y3 ++ numB y4), 0)) := by
      rw [hb, encW, List.append_assoc, List.append_assoc]; exact st_num h1.1 h1.2 _
    have e2 : st (st (b, 0)).2 = (y2, (numB y3 ++ numB y4, 0)) := by rw [e1]; exact st_num h2.1 h2.2 _
    have e3 : st (st (st (b, 0)).2).2 = (y3, (numB y4, 0)) := by rw [e2]; exact st_num h3.1 h3.2 _
    have e4 : st (st (st (st (b, 0)).2).2).2 = (y4, ([], 0)) := by rw [e3]; have := st_num h4.1 h4.2 []; rwa [List.append_nil] at this
    exact ⟨e1, e2, e3, e4⟩
  generalize st (b, 0) = s1 at *
  obtain ⟨v1, b1, e1⟩ := s1
  generalize st (v1, b1, e1).2 = s2 at *
  obtain ⟨v2, b2, e2⟩ := s2
  generalize st (v2, b2, e2).2 = s3 at *
  obtain ⟨v3, b3, e3⟩ := s3
  generalize st (v3, b3, e3).2 = s4 at *
  obtain ⟨v4, b4, e4⟩ := s4
  simp only at *
  obtain ⟨e, he⟩ := G27_all v1 v2 v3 v4
  have hu : u v1 ∧ u v2 ∧ u v3 ∧ u v4 := ⟨k1.2.2, k2.2.2, k3.2.2, k4.2.2⟩
  have key : t29 G27 G35 G36 G37 b = some ((if e4 = 0 ∧ b4 = [] ∧ e = 0 then ((v1, v2, v3, v4, ()), 0, ()) else ((0, 0, 0, 0, ()), 4, ())), ((), ())) := by
    unfold t29
    rw [f0, cl_true, f1, cl_true, f2, cl_true, f3, cl_true, f4, cl_true, f5]
    simp only [cl_true, jn]
    by_cases h4 : e4 = 0
    · by_cases h5 : b4 = []
      · rw [if_neg (fun hh => hh.2 h5)]
        by_cases h6 : e = 0
        · simp [h4, h5, h6, he, cl_true]
        · simp [h4, h5, h6, he, cl_true, Bool.cond_eq_ite]
      · simp [h4, h5, Bool.cond_eq_ite]
    · simp [h4, Bool.cond_eq_ite]
  by_cases hc : e4 = 0 ∧ b4 = [] ∧ e = 0
  · rw [if_pos hc] at key
    refine ⟨v1, v2, v3, v4, 0, G29_of key, fun _ => ⟨hu.1, hu.2.1, hu.2.2.1, hu.2.2.2, ?_, ?_⟩, fun y1 y2 y3 y4 h1 h2 h3 h4 hb _ => ?_⟩
    · obtain ⟨h4, h5, -⟩ := hc
      obtain ⟨h3, q4⟩ := r4 h4
      obtain ⟨h2, q3⟩ := r3 h3
      obtain ⟨h1, q2⟩ := r2 h2
      obtain ⟨h0, q1⟩ := r1 h1
      rw [q1, q2, q3, q4, h5, encW]; simp
    · rw [he, hc.2.2]
    · obtain ⟨q1, q2, q3, q4⟩ := n1 y1 y2 y3 y4 h1 h2 h3 h4 hb
      cases q1; cases q2; cases q3; cases q4
      exact ⟨rfl, rfl, rfl, rfl, rfl⟩
  · rw [if_neg hc] at key
    refine ⟨0, 0, 0, 0, 4, G29_of key, fun h => absurd h (by decide), fun y1 y2 y3 y4 h1 h2 h3 h4 hb hg => ?_⟩
    obtain ⟨q1, q2, q3, q4⟩ := n1 y1 y2 y3 y4 h1 h2 h3 h4 hb
    cases q1; cases q2; cases q3; cases q4
    rw [hg] at he
    cases he
    exact absurd ⟨rfl, rfl, rfl⟩ hc

theorem back10' (n : Nat) (a b c d : Int) (l : List Int) (ha : u a) (hb : u b) (hc : u c) (hd : u d) (hl : okB l = true) : runD (cx10 G27 G20 G30 G29 G31 n) (fnOf 10) (body 10) K10a K10o ((a, b, c, d, ()), l, ()) = some (true, ()) := by
  rw [eq10]
  unfold t10
  rw [G20_eq, cl_true]
  by_cases h1 : 100 < l.length
  · simp [Bool.cond_eq_ite, h1]; intro; omega
  rw [own30 l (by omega)]
  obtain ⟨x1, x2, x3, x4, e, hr, hr1, -⟩ := read29 l hl (by omega)
  obtain ⟨f, hf⟩ := G27_all a b c d
  have hB := bytes31 ha hb hc hd hf
  simp only [decide_eq_false (show ¬ ((l.length : Int) > 100) by omega), Bool.not_true, cond_false, cl_true, hr, jn]
  have fin : (cl (G31 ((a, b, c, d, ()), ())) fun r71 =>
      bif r71.1.2.1 != 0 then cl (G27 ((a, b, c, d, ()), ())) fun r72 => some ((r72.1.1 == r71.1.2.1), ())
      else cl (G29 (r71.1.1, ())) fun r73 => bif r73.1.2.1 == 0 then some (((r73.1.1.1 == a) && ((r73.1.1.2.1 == b) && ((r73.1.1.2.2.1 == c) && ((r73.1.1.2.2.2.1 == d) && true)))), ()) else some (false, ())) = some (true, ()) := by
    rw [hB, cl_true]
    by_cases h0 : f = 0
    · subst h0
      have hlen := numB_len_le a
      have hlen2 := numB_len_le b
      have hlen3 := numB_len_le c
      have hlen4 := numB_len_le d
      obtain ⟨y1, y2, y3, y4, e', hs, -, hs2⟩ := read29 (encW a b c d) (by simp [encW, okB_append, numB_ok]) (by simp [encW]; omega)
      obtain ⟨rfl, rfl, rfl, rfl, rfl⟩ := hs2 a b c d ha hb hc hd rfl hf
      simp [hs, cl_true]
    · simp [h0, hf, cl_true, Bool.cond_eq_ite]
  by_cases h2 : e = 0
  · obtain ⟨q1, q2, q3, q4, q5, q6⟩ := hr1 h2
    have hB2 := bytes31 q1 q2 q3 q4 q6
    rw [if_pos rfl] at hB2
    subst h2
    rw [hB2, ← q5]
    simp only [cl_true, beq_self_eq_true, cond_true, bne_self_eq_false, Bool.not_true, cond_false, bstr_self]
    exact fin
  · rw [show (e == 0) = false by simpa using h2]
    exact fin

theorem back10 (n : Nat) (x : K10a.T) (hx : K10a.ok x) : runD (cx10 G27 G20 G30 G29 G31 n) (fnOf 10) (body 10) K10a K10o x = some (true, ()) := by
  obtain ⟨⟨a, b, c, d, ⟨⟩⟩, l, ⟨⟩⟩ := x
  obtain ⟨⟨ha, hb, hc, hd, -⟩, hl, -⟩ := hx
  refine back10' n a b c d l ha hb hc hd (okB_iff.2 fun x hx => ?_)
  obtain ⟨i, hi, rfl⟩ := List.mem_iff_getElem.1 hx
  exact hl.2 i _ (List.getElem?_eq_getElem hi)
end Go.Proofs.Ytloohkifibfdiaa.Ae
