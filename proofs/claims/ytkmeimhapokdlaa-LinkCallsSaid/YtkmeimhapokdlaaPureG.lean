/- LinkCalls: the plain law. -/
import Derived.Test.YtkmeimhapokdlaaPureF
set_option linter.unusedVariables false
set_option linter.unusedSimpArgs false
namespace Go.Proofs.Ytkmeimhapokdlaa.Ae
open Go

theorem and8 (t1 t2 t3 t4 t5 t6 t7 t8 : Bool) {α : Type} (J : Bool → α) :
    (bif t1 then bif t2 then bif t3 then bif t4 then bif t5 then bif t6 then bif t7 then J t8 else J false else J false else J false else J false else J false else J false else J false) = J (t1 && (t2 && (t3 && (t4 && (t5 && (t6 && (t7 && t8))))))) := by
  cases t1 <;> try rfl
  cases t2 <;> try rfl
  cases t3 <;> try rfl
  cases t4 <;> try rfl
  cases t5 <;> try rfl
  cases t6 <;> try rfl
  cases t7 <;> rfl

theorem sameLink (a b c d : Int) (q : List (List Int)) (w r : Int) (o : Bool) (a' b' c' d' : Int) (q' : List (List Int)) (w' r' : Int) (o' : Bool) (h1 : q.length < 9223372036854775808) (h2 : ∀ x ∈ q, x.length < 9223372036854775808) (h3 : ∀ x ∈ q, okB x = true) (h4 : ∀ x ∈ q', okB x = true) :
    ∃ v, G28 ((a, b, c, d, q, w, r, o, ()), (a', b', c', d', q', w', r', o', ()), ()) = (true, ((v, ()), ((), (), ()))) ∧ G22 ((a, b, c, d, q, w, r, o, ()), (a', b', c', d', q', w', r', o', ()), ()) = (true, ((v, ()), ((), (), ()))) := by
  have e52 : G52 (q, q', ((), ()), ()) = (true, ((decide (q = q'), ()), ((), (), ((), ()), ()))) := by
    have : (q.all fun b => decide (b.length < 9223372036854775808)) = true := by simpa using h2
    simp only [G52, decide_eq_true h1, this, Bool.and_self]
  have e23 : G23 (q, q', ()) = (true, ((decide (q = q'), ()), ((), (), ()))) := by
    simp only [G23, decide_eq_true h1, lsEq_iff h3 h4]
  refine ⟨(a == a') && ((b == b') && ((c == c') && ((d == d') && (decide (q = q') && ((w == w') && ((r == r') && (o == o'))))))), G28_of ?_, G22_of ?_⟩
  · unfold t28
    rw [e52]
    have hh := and8 (a == a') (b == b') (c == c') (d == d') (w == w') (r == r') (o == o') (decide (q = q')) (fun y => some (((y, ()), ((), (), ())) : (Bool × Unit) × (Unit × (Unit × Unit))))
    refine Eq.trans hh ?_
    generalize (a == a') = t1; generalize (b == b') = t2; generalize (c == c') = t3; generalize (d == d') = t4; generalize (w == w') = t5; generalize (r == r') = t6; generalize (o == o') = t7; generalize decide (q = q') = t8
    cases t1 <;> cases t2 <;> cases t3 <;> cases t4 <;> try rfl
    cases t5 <;> cases t6 <;> cases t7 <;> cases t8 <;> rfl
  · unfold t22
    rw [e23]
    have hh := and8 (a == a') (b == b') (c == c') (d == d') (decide (q = q')) (w == w') (r == r') (o == o') (fun y => some (((y, ()), ((), (), ())) : (Bool × Unit) × (Unit × (Unit × Unit))))
    exact hh
theorem sameSelf (a b c d : Int) (q : List (List Int)) (w r : Int) (o : Bool) (h1 : q.length < 9223372036854775808) (h2 : ∀ x ∈ q, x.length < 9223372036854775808) :
    G28 ((a, b, c, d, q, w, r, o, ()), (a, b, c, d, q, w, r, o, ()), ()) = (true, ((true, ()), ((), (), ()))) := by
  have e52 : G52 (q, q, ((), ()), ()) = (true, ((true, ()), ((), (), ((), ()), ()))) := by
    have : (q.all fun b => decide (b.length < 9223372036854775808)) = true := by simpa using h2
    simp only [G52, decide_eq_true h1, this, Bool.and_self, decide_true]
  refine G28_of ?_
  unfold t28
  rw [e52]
  simp [jn, cl_true]

theorem calls (n : Nat) (a b c d : Int) (q : List (List Int)) (w r : Int) (o : Bool) (x y s k : Int) (p m : List Int) (life retry : Int) (hc : u c) (hq : q.length < 9223372036854775808) (hqo : ∀ z ∈ q, okB z = true) (hx : u x) (hy : u y) (hs : u s) (hk : u k) (hp : okB p = true) (hm : okB m = true) :
    runD (cx8 G19 G11 G13 G21 G27 G31 G24 G9 G20 G22 G25 G29 G26 G30 G33 G32 G34 G14 G35 G36 G37 G38 G39 G40 G28 n) (fnOf 8) (body 8) K8a K8o ((a, b, c, d, q, w, r, o, ()), (x, y, s, k, p, ()), m, life, retry, ()) = some (true, ()) := by
  rw [eq8]
  unfold t8
  rw [G9_eq, cl_true]
  simp only [Bool.not_true, cond_false]
  have e20 : G20 ((a, b, c, d, q, w, r, o, ()), 70, 300, ()) = (true, ((decide ((q.length : Int) ≤ 70) && q.all fun b => decide ((b.length : Int) ≤ 300), ()), ((), (), (), ()))) := by
    refine G20_of ?_
    unfold t20
    simp only [G46, decide_eq_true hq, cl_true]
  by_cases hA : (decide ((q.length : Int) ≤ 70) && q.all fun b => decide ((b.length : Int) ≤ 300)) = true ∧ ¬ 3000 < p.length ∧ ¬ 3000 < m.length
  case neg =>
    refine (jn1 _ _ true (fun T => ?_)).trans rfl
    rw [e20, cl_true]
    generalize (decide ((q.length : Int) ≤ 70) && q.all fun b => decide ((b.length : Int) ≤ 300)) = z at hA
    cases z
    · rfl
    · simp only [Bool.not_true, cond_false]
      by_cases h2 : 3000 < p.length
      · rw [decide_eq_true (show (p.length : Int) > 3000 by omega)]; rfl
      · rw [decide_eq_false (show ¬ (p.length : Int) > 3000 by omega), decide_eq_true (show (m.length : Int) > 3000 by
          by_cases h3 : 3000 < m.length
          · omega
          · exact absurd ⟨rfl, h2, h3⟩ hA)]; rfl
  obtain ⟨hz, h2, h3⟩ := hA
  refine (jn1 _ _ false (fun T => ?_)).trans ?_
  · rw [e20, cl_true, hz, decide_eq_false (show ¬ (p.length : Int) > 3000 by omega), decide_eq_false (show ¬ (m.length : Int) > 3000 by omega)]; rfl
  obtain ⟨hq70, hq300⟩ := (Bool.and_eq_true _ _).mp hz
  have hq70 : q.length ≤ 70 := by have := of_decide_eq_true hq70; omega
  have hq300 : ∀ z ∈ q, z.length ≤ 300 := fun z h => by
    have := of_decide_eq_true (List.all_eq_true.1 hq300 z h)
    omega
  simp only [cond_false]
  obtain ⟨_, _, _, _, _, n1, n2⟩ := new11 life retry
  rw [n1, cl_true, n2, cl_true]
  refine (jn1 _ _ false (fun T => ?_)).trans ?_
  · dsimp only
    rw [link22 _ _ _ _ _ _ _ _ (by decide), cl_true, check19, check33 _ _ _ _ _ _ _ _ hc, piece27, piece34]
    simp only [Bool.not_true, cond_false, bne_self_eq_false, cl_true]
  simp only [cond_false]
  rw [own14 m (by omega), cl_true]
  dsimp only
  obtain ⟨_, _, _, _, _, _, _, _, _, hl, n1, n2⟩ := put13 (a := a) (b := b) (c := c) (d := d) (q := q) (w := w) (r := r) o m hc (by omega)
  rw [n1, cl_true, n2, cl_true]
  refine (jn1 _ _ false (fun T => ?_)).trans ?_
  · dsimp only
    rw [link22 _ _ _ _ _ _ _ _ hl, cl_true]
    simp only [Bool.not_true, cond_false, bne_self_eq_false]
  simp only [cond_false]
  obtain ⟨_, _, _, _, _, _, _, _, _, hl, n1, n2⟩ := tick36 (a := a) (b := b) (c := c) (d := d) (q := q) (w := w) (r := r) o hc hq
  rw [n1, cl_true, n2, cl_true]
  refine (jn1 _ _ false (fun T => ?_)).trans ?_
  · dsimp only
    rw [link22 _ _ _ _ _ _ _ _ hl, cl_true]
    simp only [Bool.not_true, cond_false, bne_self_eq_false]
  simp only [cond_false]
  obtain ⟨_, _, _, _, _, _, _, _, _, _, _, _, _, _, hl, n1, n2⟩ := send37 (a := a) (b := b) (c := c) (d := d) (q := q) (w := w) (r := r) o hc hq70 hq300
  rw [n1, cl_true, n2, cl_true]
  refine (jn1 _ _ false (fun T => ?_)).trans ?_
  · dsimp only
    rw [piece30, cl_true, link22 _ _ _ _ _ _ _ _ hl, cl_true]
    simp only [Bool.not_true, cond_false, beq_self_eq_true]
  simp only [cond_false]
  obtain ⟨_, _, a', b', c', d', q', w', r', o', _, hl, hqo', n1, n2⟩ := hearBoth (a := a) (b := b) (c := c) (d := d) (q := q) (w := w) (r := r) o (x := x) (y := y) (s := s) (k := k) (p := p) hc hy.1 hs.1 hk.1 hqo hq
  rw [n1, cl_true, n2, cl_true]
  refine (jn1 _ _ false (fun T => ?_)).trans ?_
  · dsimp only
    rw [bytes25, cl_true, link22 _ _ _ _ _ _ _ _ hl, cl_true]
    simp only [Bool.not_true, cond_false, beq_self_eq_true, bne_self_eq_false]
  simp only [cond_false]
  obtain ⟨_, _, n1, n2⟩ := bytes39 (p := p) hx hy hs hk
  rw [n1, cl_true, n2, cl_true, cl_true]
  dsimp only
  rw [read26 m hm (by omega), cl_true, read40 m hm (by omega), cl_true]
  dsimp only
  obtain ⟨v, v1, v2⟩ := sameLink a b c d q w r o a' b' c' d' q' w' r' o' hq (fun z h => by have := hq300 z h; omega) hqo hqo'
  have vs := sameSelf a b c d q w r o hq (fun z h => by have := hq300 z h; omega)
  generalize rdP m = z
  obtain ⟨⟨z1, z2, z3, z4, z5, ⟨⟩⟩, z6⟩ := z
  dsimp only
  have ep := piece30 z1 z2 z3 z4 z5
  rw [bytes25, cl_true, ep, cl_true, vs, cl_true, v1, cl_true, v2, cl_true]
  simp only [beq_self_eq_true, cond_true]
theorem calls8 (x : K8a.T) (hx : K8a.ok x) : ∃ n, runD (cx8 G19 G11 G13 G21 G27 G31 G24 G9 G20 G22 G25 G29 G26 G30 G33 G32 G34 G14 G35 G36 G37 G38 G39 G40 G28 n) (fnOf 8) (body 8) K8a K8o x = some (true, ()) := by
  obtain ⟨⟨a, b, c, d, q, w, r, o, ⟨⟩⟩, ⟨x, y, s, k, p, ⟨⟩⟩, m, life, retry, ⟨⟩⟩ := x
  obtain ⟨⟨-, -, hc, -, hq, -⟩, ⟨hx, hy, hs, hk, hp, -⟩, hm, -⟩ := hx
  have bytes : ∀ (l : List Int), (Kd.sl (.int .u8)).ok l → okB l = true := fun l hl => okB_iff.2 fun z hz => by
    obtain ⟨i, hi, rfl⟩ := List.mem_iff_getElem.1 hz
    exact hl.2 i _ (List.getElem?_eq_getElem hi)
  refine ⟨0, calls 0 a b c d q w r o x y s k p m life retry hc hq.1 (fun z hz => ?_) hx hy hs hk (bytes p hp) (bytes m hm)⟩
  obtain ⟨i, hi, rfl⟩ := List.mem_iff_getElem.1 hz
  exact bytes _ (hq.2 i _ (List.getElem?_eq_getElem hi))
end Go.Proofs.Ytkmeimhapokdlaa.Ae
