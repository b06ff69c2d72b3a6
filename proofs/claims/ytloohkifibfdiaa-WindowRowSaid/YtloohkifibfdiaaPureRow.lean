/- WindowRow: the plain law. -/
import Derived.Test.YtloohkifibfdiaaPureOnce
set_option linter.unusedVariables false
set_option linter.unusedSimpArgs false
namespace Go.Proofs.Ytloohkifibfdiaa.Ae
open Go

theorem getD_set (l : List Int) (a b : Nat) (x : Int) : (l.set a x).getD b 0 = if b = a ∧ a < l.length then x else l.getD b 0 := by
  rw [List.getD_eq_getElem?_getD, List.getD_eq_getElem?_getD, List.getElem?_set]
  by_cases h : a = b
  · subst h
    by_cases h2 : a < l.length
    · simp [h2]
    · simp [h2]
  · simp [h, show ¬ (b = a) from fun e => h e.symm]

theorem getD_snoc (l : List Int) (b : Nat) (x : Int) : (l ++ [x]).getD b 0 = if b = l.length then x else l.getD b 0 := by
  rw [List.getD_eq_getElem?_getD, List.getD_eq_getElem?_getD]
  by_cases h : b < l.length
  · rw [List.getElem?_append_left h]; simp [show ¬ (b = l.length) by omega]
  · by_cases h2 : b = l.length
    · subst h2; simp
    · simp [h2, List.getElem?_eq_none, show l.length ≤ b by omega, show l.length + 1 ≤ b by omega]

/-- The numbers: n of them, all different, between base+1 and base+n. -/
structure Row (base n : Nat) (l : List Int) : Prop where
  len : l.length = n
  all : ∀ i, i < n → ∃ m : Nat, l.getD i 0 = (m : Int) ∧ base + 1 ≤ m ∧ m ≤ base + n
  inj : ∀ i j, i < n → j < n → l.getD i 0 = l.getD j 0 → i = j

theorem Row.swap {base n : Nat} {l : List Int} (h : Row base n l) {i j : Nat} (hi : i < n) (hj : j < n) : Row base n ((l.set i (l.getD j 0)).set j (l.getD i 0)) := by
  have hl := h.len
  have get : ∀ k, ((l.set i (l.getD j 0)).set j (l.getD i 0)).getD k 0 = l.getD (if k = j then i else if k = i then j else k) 0 := by
    intro k
    rw [getD_set, getD_set, List.length_set]
    split
    · rename_i e; rw [if_pos e.1]
    · rename_i e
      rw [if_neg (show ¬ k = j from fun e' => e ⟨e', by omega⟩)]
      split
      · rename_i e; rw [if_pos e.1]
      · rename_i e; rw [if_neg (show ¬ k = i from fun e' => e ⟨e', by omega⟩)]
  refine ⟨by simpa using hl, fun k hk => ?_, fun a b ha hb he => ?_⟩
  · rw [get]; exact h.all _ (by split <;> (try split) <;> omega)
  · rw [get, get] at he
    have := h.inj _ _ (by split <;> (try split) <;> omega) (by split <;> (try split) <;> omega) he
    split at this <;> split at this <;> (try split at this) <;> (try split at this) <;> omega

theorem tk_again {es : List (Int × Bool)} {f t l n : Nat} {S : BitVec 64} (h : Inv7 es f t S l) (hz : (tk f t S l n).1 = 0) :
    (tk f (tk f t S l n).2.1 (tk f t S l n).2.2 l n).1 = 7 ∧ n ≤ (tk f t S l n).2.1 ∧ (tk f t S l n).2.1 - n < 64 ∧ (tk f t S l n).2.2.getLsbD ((tk f t S l n).2.1 - n) = true := by
  obtain ⟨q1, q2, q3, q4⟩ := tk_ok h hz
  have hle : n ≤ (tk f t S l n).2.1 := q4.le n (by rw [has_put]; simp)
  have h1 : ¬ (n = 0 ∨ 1152921504606846976 < n) := by
    intro c; unfold tk at hz; rw [if_pos c] at hz; cases hz
  have hd : (tk f t S l n).2.1 - n < 64 := by
    unfold tk at hz ⊢
    rw [if_neg h1] at hz ⊢
    split at hz
    · cases hz
    rename_i c2
    split at hz
    · cases hz
    rename_i c3
    split at hz
    · cases hz
    rename_i c4
    rw [if_neg c2, if_neg c3, if_neg c4]
    split
    · show t - n < 64; omega
    · show n - n < 64; omega
  have hb := q4.bit n (by rw [has_put]; simp) q3 hd
  refine ⟨?_, hle, hd, hb⟩
  generalize (tk f t S l n).2.1 = t' at hle hd hb
  generalize (tk f t S l n).2.2 = S' at hb
  unfold tk
  rw [if_neg h1, if_neg (by omega), if_pos ⟨hle, hb⟩]

theorem take6 (n : Nat) (base cnt : Nat) (hc : cnt < 200) (hb : base < 1125899906842624) (l : List Int) (hr : Row base cnt l) : ∀ (k i : Nat) (es : List (Int × Bool)) (t : Nat) (S : BitVec 64), i ≤ cnt → cnt - i < k →
    Inv7 es (base + 1) t S (base + cnt + 2) → (∀ m, has es m = true → ∃ j, j < i ∧ l.getD j 0 = (m : Int)) →
    l6_16378_5 G23 G22 G24 G20 G21 n k cnt i l ((base + 1 : Nat) : Int) t S.toNat ((base + cnt + 2 : Nat) : Int) = some (true, ()) := by
  intro k
  induction k with
  | zero => intro i es t S h1 h2; omega
  | succ k ih =>
    intro i es t S h1 h2 hv hs
    rw [l6_16378_5_s]
    by_cases hi : i < cnt
    case neg => simp [Bool.cond_eq_ite, hi]
    have hlen := hr.len
    have hir : rng (i : Int) l.length = true := rng_ok (by omega) (by omega)
    have hw : IntKind.i64.wrap ((i : Int) + 1) = (i : Int) + 1 := wrap_i64 (by omega) (by omega)
    obtain ⟨m, hm, m1, m2⟩ := hr.all i hi
    have g4 := hv.w.tl
    simp only [show decide ((i : Int) < cnt) = true by simp; omega, cond_true, hir, ck_true, hw, Int.toNat_natCast, hm]
    by_cases hz : (tk (base + 1) t S (base + cnt + 2) m).1 = 0
    · obtain ⟨q1, q2, q3, q4⟩ := tk_ok hv hz
      obtain ⟨a1, a2, a3, a4⟩ := tk_again hv hz
      have ne := ih (i + 1) _ _ _ (by omega) (by omega) q4 (fun m' h' => by
        rcases in_or _ _ _ h' with rfl | h'
        · exact ⟨i, by omega, hm⟩
        · obtain ⟨j, j1, j2⟩ := hs m' h'; exact ⟨j, by omega, j2⟩)
      rw [G23_ok hv.w (by omega), if_pos hz]
      simp only [cl_true, jn]
      have g1 := G23_ok (n := m) q4.w (by omega)
      have g2 := G24_ok (n := m) q4.w (by omega)
      rw [a1] at g1
      simp [hz] at g1 g2 ne ⊢
      simp [g1, g2, cl_true, Bool.cond_eq_ite, a2, a3, a4, ne]
    · have q := tk_no hv hz
      have q1 : m ≤ t ∧ 64 ≤ t - m := by
        rcases q with q | q | q | q | q | q
        · obtain ⟨j, j1, j2⟩ := hs m q
          have := hr.inj j i (by omega) hi (by rw [j2, hm])
          omega
        all_goals omega
      have ne := ih (i + 1) es t S (by omega) (by omega) hv (fun m' h' => by
        obtain ⟨j, j1, j2⟩ := hs m' h'; exact ⟨j, by omega, j2⟩)
      have hz' : ¬ (((tk (base + 1) t S (base + cnt + 2) m).1 : Nat) : Int) = 0 := by omega
      rw [G23_ok hv.w (by omega), if_neg hz]
      simp only [cl_true, jn]
      rw [wrap_u64 (show 0 ≤ (t : Int) - m by omega) (by omega)]
      simp at ne
      simp [Bool.cond_eq_ite, hz, hz', show ¬ t < m by omega, show ¬ ((t : Int) - m < 64) by omega, ne]

theorem mix6 (n : Nat) (hn : 400 ≤ n) (base cnt : Nat) (hc : cnt < 200) (h0 : 0 < cnt) (hb : base < 1125899906842624) (st : List Int) (hst : ∀ i, i < st.length → inR .i64 (st.getD i 0)) : ∀ (k i : Nat) (l : List Int), i ≤ cnt → cnt - i < k → Row base cnt l →
    l6_8186_4 G23 G22 G24 G20 G21 n k st cnt i l ((base + 1 : Nat) : Int) (base : Int) ((0#64).toNat : Nat) ((base + cnt + 2 : Nat) : Int) = some (true, ()) := by
  intro k
  induction k with
  | zero => intro i l h1 h2; omega
  | succ k ih =>
    intro i l h1 h2 hr
    rw [l6_8186_4_s]
    have fin : l6_16378_5 G23 G22 G24 G20 G21 n n cnt (0 : Int) l ((base + 1 : Nat) : Int) (base : Int) ((0#64).toNat : Nat) ((base + cnt + 2 : Nat) : Int) = some (true, ()) :=
      take6 n base cnt hc hb l hr n 0 [] base 0#64 (by omega) (by omega)
        ⟨⟨by omega, by omega, by omega, by omega, by omega, by rw [decide_eq_false (by omega)]; simp, fun i _ => by simp⟩, fun n hn => by simp [has, mget] at hn, fun n hn => by simp [has, mget] at hn, fun n h1 h2 => by omega⟩
        (fun m h => by simp [has, mget] at h)
    by_cases hi : i < cnt
    case neg => 
      rw [decide_eq_false (show ¬ (i : Int) < cnt by omega)]
      simp only [cond_false, jn]
      exact fin
    by_cases hj : i < st.length
    case neg => 
      rw [decide_eq_true (show (i : Int) < cnt by omega), decide_eq_false (show ¬ (i : Int) < st.length by omega)]
      simp only [cond_false, cond_true, jn]
      exact fin
    have hlen := hr.len
    rw [decide_eq_true (show (i : Int) < cnt by omega), decide_eq_true (show (i : Int) < st.length by omega)]
    simp only [cond_true, jn]
    rw [G21_eq (by rw [Int.toNat_natCast]; exact hst i hj) (by omega) (by omega)]
    rw [show rng (i : Int) st.length = true from rng_ok (by omega) (by omega), show rng (i : Int) l.length = true from rng_ok (by omega) (by omega)]
    simp only [ck_true, cl_true, Int.toNat_natCast]
    have p1 : 0 ≤ st.getD i 0 % 30 := Int.emod_nonneg _ (by omega)
    have p2 : st.getD i 0 % 30 < 30 := Int.emod_lt_of_pos _ (by omega)
    generalize st.getD i 0 % 30 = r at p1 p2
    rw [show IntKind.i64.wrap ((i : Int) + r) = (i : Int) + r from wrap_i64 (by omega) (by omega), show IntKind.i64.wrap ((cnt : Int) - 1) = (cnt : Int) - 1 from wrap_i64 (by omega) (by omega), show IntKind.i64.wrap ((i : Int) + 1) = ((i + 1 : Nat) : Int) from by rw [wrap_i64 (by omega) (by omega)]; rfl]
    obtain ⟨j, hje, hjc⟩ : ∃ j : Nat, (if (i : Int) + r < (cnt : Int) - 1 then (i : Int) + r else (cnt : Int) - 1) = (j : Int) ∧ j < cnt := by
      refine ⟨(if (i : Int) + r < (cnt : Int) - 1 then (i : Int) + r else (cnt : Int) - 1).toNat, ?_, ?_⟩ <;> split <;> omega
    rw [hje]
    simp only [Int.toNat_natCast, List.length_set]
    rw [show rng (j : Int) l.length = true from rng_ok (by omega) (by omega)]
    simp only [ck_true]
    exact ih (i + 1) _ (by omega) (by omega) (hr.swap hi hjc)

theorem fill6 (n : Nat) (hn : 400 ≤ n) (base cnt : Nat) (hc : cnt < 200) (h0 : 0 < cnt) (hb : base < 1125899906842624) (st : List Int) (hst : ∀ i, i < st.length → inR .i64 (st.getD i 0)) : ∀ (k i : Nat) (l : List Int), i ≤ cnt → cnt - i < k → l.length = i → (∀ j, j < i → l.getD j 0 = ((base + 1 + j : Nat) : Int)) →
    l6_4090_3 G23 G22 G24 G20 G21 n k base st cnt i l ((base + 1 : Nat) : Int) (base : Int) ((0#64).toNat : Nat) ((base + cnt + 2 : Nat) : Int) = some (true, ()) := by
  intro k
  induction k with
  | zero => intro i l h1 h2; omega
  | succ k ih =>
    intro i l h1 h2 hl ha
    rw [l6_4090_3_s]
    by_cases hi : i < cnt
    case neg => 
      rw [decide_eq_false (show ¬ (i : Int) < cnt by omega)]
      simp only [cond_false]
      exact mix6 n hn base cnt hc h0 hb st hst n 0 l (by omega) (by omega) ⟨by omega, fun j hj => ⟨base + 1 + j, ha j (by omega), by omega, by omega⟩, fun a b h1 h2 he => by rw [ha a (by omega), ha b (by omega)] at he; omega⟩
    rw [decide_eq_true (show (i : Int) < cnt by omega)]
    rw [show fits (l.length + 1) 8 = true from decide_eq_true (by omega)]
    simp only [cond_true, ck_true]
    rw [wrap_u64 (show 0 ≤ 1 + (base : Int) by omega) (by omega), wrap_u64 (show 0 ≤ (i : Int) by omega) (by omega), wrap_u64 (show 0 ≤ 1 + (base : Int) + i by omega) (by omega), show IntKind.i64.wrap ((i : Int) + 1) = ((i + 1 : Nat) : Int) from by rw [wrap_i64 (by omega) (by omega)]; rfl]
    refine ih (i + 1) _ (by omega) (by omega) (by simp [hl]) (fun j hj => ?_)
    rw [getD_snoc]
    split
    · omega
    · exact ha j (by omega)

theorem row6' (n : Nat) (hn : 400 ≤ n) (b c : Int) (st : List Int) (hb0 : 0 ≤ b) (hc : inR .i64 c) (hst2 : ∀ i, i < st.length → inR .i64 (st.getD i 0)) : runD (cx6 G23 G22 G24 G20 G21 n) (fnOf 6) (body 6) K6a K6o (b, c, st, ()) = some (true, ()) := by
  rw [eq6, G20_eq]
  simp only [cl_true, Bool.not_true, cond_false]
  rw [G21_eq hc (by omega) (by omega)]
  simp only [cl_true]
  have e1 : b.tmod 1125899906842624 = b % 1125899906842624 := Int.tmod_eq_emod_of_nonneg hb0
  have c1 : 0 ≤ b % 1125899906842624 := Int.emod_nonneg _ (by omega)
  have c2 : b % 1125899906842624 < 1125899906842624 := Int.emod_lt_of_pos _ (by omega)
  have d1 : 0 ≤ c % 200 := Int.emod_nonneg _ (by omega)
  have d2 : c % 200 < 200 := Int.emod_lt_of_pos _ (by omega)
  rw [e1]
  obtain ⟨base, hbase⟩ : ∃ k : Nat, b % 1125899906842624 = (k : Int) := ⟨(b % 1125899906842624).toNat, by omega⟩
  obtain ⟨cnt, hcnt⟩ : ∃ k : Nat, c % 200 = (k : Int) := ⟨(c % 200).toNat, by omega⟩
  rw [hbase] at c1 c2
  rw [hcnt] at d1 d2
  rw [hbase, hcnt]
  have w : W (base + 1) base 0#64 (base + 1) := ⟨by omega, by omega, by omega, by omega, by omega, by rw [decide_eq_false (by omega)]; simp, fun i _ => by simp⟩
  have hg := G22_ok (m := base + cnt + 2) w
  rw [if_neg (by omega), if_neg (by omega)] at hg
  have e3 : IntKind.u64.wrap (1 + (base : Int)) = ((base + 1 : Nat) : Int) := by rw [wrap_u64 (by omega) (by omega)]; omega
  have e4 : IntKind.u64.wrap (IntKind.u64.wrap ((base : Int) + IntKind.u64.wrap (cnt : Int)) + 2) = ((base + cnt + 2 : Nat) : Int) := by
    rw [wrap_u64 (show 0 ≤ (cnt : Int) by omega) (by omega), wrap_u64 (show 0 ≤ (base : Int) + cnt by omega) (by omega), wrap_u64 (by omega) (by omega)]; omega
  rw [e3, e4]
  have hg' : G22 ((((base + 1 : Nat) : Int), (base : Int), (0 : Int), ((base + 1 : Nat) : Int), ()), ((base + cnt + 2 : Nat) : Int), ()) = _ := hg
  rw [hg']
  simp only [cl_true]
  show l6_4090_0 G23 G22 G24 G20 G21 n n base st cnt (0 : Int) ((base + 1 : Nat) : Int) (base : Int) ((0#64).toNat : Nat) ((base + cnt + 2 : Nat) : Int) = some (true, ())
  obtain ⟨p, rfl⟩ : ∃ p, n = p + 1 := ⟨n - 1, by omega⟩
  rw [l6_4090_0_s]
  by_cases h0 : cnt = 0
  · subst h0
    simp only [show decide ((0 : Int) < ((0 : Nat) : Int)) = false from rfl, cond_false]
    rw [l6_8186_1_s]
    simp only [show decide ((0 : Int) < ((0 : Nat) : Int)) = false from rfl, cond_false, jn]
    rw [l6_16378_2_s]
    simp only [show decide ((0 : Int) < ((0 : Nat) : Int)) = false from rfl, cond_false]
  · rw [decide_eq_true (show (0 : Int) < cnt by omega)]
    simp only [cond_true]
    rw [wrap_u64 (show 0 ≤ 1 + (base : Int) by omega) (by omega), wrap_u64 (show (0 : Int) ≤ 0 by omega) (by omega), wrap_u64 (show 0 ≤ 1 + (base : Int) + 0 by omega) (by omega), show IntKind.i64.wrap ((0 : Int) + 1) = ((1 : Nat) : Int) from by rw [wrap_i64 (by omega) (by omega)]; rfl]
    refine fill6 (p + 1) hn base cnt (by omega) (by omega) (by omega) st hst2 p 1 _ (by omega) (by omega) rfl (fun j hj => ?_)
    obtain rfl : j = 0 := by omega
    show 1 + (base : Int) + 0 = _
    omega

theorem row6 (n : Nat) (hn : 400 ≤ n) (x : K6a.T) (hx : K6a.ok x) : runD (cx6 G23 G22 G24 G20 G21 n) (fnOf 6) (body 6) K6a K6o x = some (true, ()) := by
  obtain ⟨b, c, st, ⟨⟩⟩ := x
  obtain ⟨⟨hb0, hb1⟩, hc, hst, -⟩ := hx
  refine row6' n hn b c st hb0 hc fun i hi => ?_
  have := hst.2 i _ (List.getElem?_eq_getElem hi)
  rw [List.getD_eq_getElem?_getD, List.getElem?_eq_getElem hi]
  exact this
end Go.Proofs.Ytloohkifibfdiaa.Ae
