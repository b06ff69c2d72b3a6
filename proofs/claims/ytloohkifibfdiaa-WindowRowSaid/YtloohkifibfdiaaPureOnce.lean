/- WindowOnce: the plain law. -/
import Derived.Test.YtloohkifibfdiaaPureWin
set_option linter.unusedVariables false
set_option linter.unusedSimpArgs false
namespace Go.Proofs.Ytloohkifibfdiaa.Ae
open Go

theorem W_in {f t l n : Nat} {S : BitVec 64} (h : W f t S l) (h1 : f ≤ n) (h2 : n ≤ t) : W f t (S ||| 1#64 <<< (t - n)) l := by
  obtain ⟨a1, a2, a3, a4, a5, a6, a7⟩ := h
  refine ⟨a1, a2, a3, a4, a5, ?_, fun i hi => ?_⟩
  · rw [BitVec.getLsbD_or, a6, decide_eq_true (by omega)]; rfl
  · rw [BitVec.getLsbD_or, a7 i hi, BitVec.getLsbD_shiftLeft, Bool.false_or]
    have : (1#64).getLsbD (i - (t - n)) = false := by
      rw [BitVec.getLsbD_one]; simp; omega
    rw [this]; simp

theorem W_up {f t l n : Nat} {S : BitVec 64} (h : W f t S l) (h1 : t < n) (h2 : n < l) : W f n (S <<< (n - t) ||| 1#64) l := by
  obtain ⟨a1, a2, a3, a4, a5, a6, a7⟩ := h
  refine ⟨a1, a2, a3, by omega, h2, ?_, fun i hi => ?_⟩
  · rw [BitVec.getLsbD_or, decide_eq_true (by omega)]; simp
  · rw [BitVec.getLsbD_or, BitVec.getLsbD_shiftLeft, a7 _ (by omega)]
    have : (1#64).getLsbD i = false := by rw [BitVec.getLsbD_one]; simp; omega
    rw [this]; simp

theorem W_new {l : Nat} (h1 : 1 ≤ l) (h2 : l ≤ 1152921504606846977) : W l (l - 1) 0#64 l :=
  ⟨h1, Nat.le_refl _, h2, by omega, by omega, by rw [decide_eq_false (by omega)]; simp, fun i _ => by simp⟩

theorem W_crash {l : Nat} (h1 : 1 ≤ l) (h2 : l ≤ 1152921504606846977) : W 1 0 0#64 l :=
  ⟨Nat.le_refl _, h1, h2, by omega, by omega, by simp, fun i _ => by simp⟩

theorem in_bit {t n m : Nat} {S : BitVec 64} (hn : n ≤ t) (hm : m ≤ t) (h : t - m < 64) : (S ||| 1#64 <<< (t - n)).getLsbD (t - m) = (S.getLsbD (t - m) || decide (m = n)) := by
  rw [BitVec.getLsbD_or, BitVec.getLsbD_shiftLeft, BitVec.getLsbD_one]
  congr 1
  by_cases e : m = n
  · subst e; simp [h]
  · simp only [e, decide_false]
    by_cases h2 : t - m < t - n
    · simp [h2]
    · simp [h, h2]; omega

theorem up_bit {t n m : Nat} {S : BitVec 64} (hn : t < n) (hm : m ≤ n) (h : n - m < 64) : (S <<< (n - t) ||| 1#64).getLsbD (n - m) = ((decide (m ≤ t) && S.getLsbD (t - m)) || decide (m = n)) := by
  rw [BitVec.getLsbD_or, BitVec.getLsbD_shiftLeft, BitVec.getLsbD_one]
  by_cases e : m = n
  · subst e; simp
  · simp only [e, decide_false, Bool.or_false]
    rw [show decide (n - m = 0) = false by simp; omega]
    simp only [Bool.and_false, Bool.or_false]
    by_cases h2 : m ≤ t
    · simp [h2, h, show ¬ (n - m < n - t) by omega, show n - m - (n - t) = t - m by omega]
    · simp [h2, h, show n - m < n - t by omega]

/-- Numbers that were accepted. -/
def has (es : List (Int × Bool)) (n : Nat) : Bool := (mget (.int .u64) .bool es (n : Int)).getD false

theorem mget_mput (es : List (Int × Bool)) (k k' : Int) (v : Bool) : mget (.int .u64) .bool (mput (.int .u64) .bool es k v) k' = if k' = k then some v else mget (.int .u64) .bool es k' := by
  induction es with
  | nil =>
    simp only [mput, mget, keq]
    by_cases h : k' = k <;> simp [Bool.cond_eq_ite, h]
  | cons e l ih =>
    simp only [mput]
    by_cases h : k = e.1
    · simp only [keq, h, beq_self_eq_true, cond_true, mget]
      by_cases h' : k' = e.1 <;> simp [Bool.cond_eq_ite, h']
    · have : (k == e.1) = false := by simpa using h
      simp only [keq, this, cond_false, mget, ih]
      by_cases h' : k' = e.1
      · simp [Bool.cond_eq_ite, h', show ¬ (e.1 = k) from fun e' => h e'.symm]
      · simp [Bool.cond_eq_ite, h']

theorem has_put (es : List (Int × Bool)) (n m : Nat) : has (mput (.int .u64) .bool es (n : Int) true) m = (decide (m = n) || has es m) := by
  unfold has
  rw [mget_mput]
  by_cases h : m = n
  · subst h; simp
  · simp [h, show ¬ ((m : Int) = n) by omega]

/-- What was accepted, and what the window says. -/
structure Inv7 (es : List (Int × Bool)) (f t : Nat) (S : BitVec 64) (l : Nat) : Prop where
  w : W f t S l
  le : ∀ n, has es n = true → n ≤ t
  bit : ∀ n, has es n = true → f ≤ n → t - n < 64 → S.getLsbD (t - n) = true
  seen : ∀ n, f ≤ n → n ≤ t → t - n < 64 → S.getLsbD (t - n) = true → has es n = true

theorem Inv7.renew {es : List (Int × Bool)} {f t l : Nat} {S : BitVec 64} (h : Inv7 es f t S l) : Inv7 es l (l - 1) 0#64 l := by
  have h1 := h.w.f1
  have h2 := h.w.fl
  have h3 := h.w.le
  have h4 := h.w.tl
  refine ⟨W_new (by omega) h3, fun n hn => ?_, fun n hn hf => ?_, fun n h1 h2 => by omega⟩
  · have := h.le n hn; omega
  · have := h.le n hn; omega

theorem Inv7.more {es : List (Int × Bool)} {f t l m : Nat} {S : BitVec 64} (h : Inv7 es f t S l) (h1 : l < m) (h2 : m ≤ 1152921504606846977) : Inv7 es f t S m := by
  obtain ⟨⟨a1, a2, a3, a4, a5, a6, a7⟩, b, c, d⟩ := h
  exact ⟨⟨a1, by omega, h2, a4, by omega, a6, a7⟩, b, c, d⟩

theorem tk_ok {es : List (Int × Bool)} {f t l n : Nat} {S : BitVec 64} (h : Inv7 es f t S l) (hz : (tk f t S l n).1 = 0) :
    has es n = false ∧ n < l ∧ f ≤ n ∧ Inv7 (mput (.int .u64) .bool es (n : Int) true) f (tk f t S l n).2.1 (tk f t S l n).2.2 l := by
  unfold tk at hz ⊢
  split at hz
  · cases hz
  rename_i c1
  split at hz
  · cases hz
  rename_i c2
  split at hz
  · cases hz
  rename_i c3
  split at hz
  · cases hz
  rename_i c4
  rw [if_neg c1, if_neg c2, if_neg c3, if_neg c4]
  have c5 : f ≤ n := by omega
  split
  · rename_i c6
    have c7 : t - n < 64 := by omega
    have nb : S.getLsbD (t - n) = false := by
      cases hb : S.getLsbD (t - n)
      · rfl
      · exact absurd ⟨c6, hb⟩ c3
    have hno : has es n = false := by
      cases hh : has es n
      · rfl
      · rw [h.bit n hh c5 c7] at nb; cases nb
    refine ⟨hno, by omega, c5, W_in h.w c5 c6, fun m hm => ?_, fun m hm hf hd => ?_, fun m hf ht hd hb => ?_⟩
    · rw [has_put, Bool.or_eq_true, decide_eq_true_eq] at hm
      rcases hm with rfl | hm
      · exact c6
      · exact h.le m hm
    · rw [has_put, Bool.or_eq_true, decide_eq_true_eq] at hm
      rcases hm with rfl | hm
      · rw [in_bit c6 c6 hd]; simp
      · rw [in_bit c6 (h.le m hm) hd, h.bit m hm hf hd]; rfl
    · rw [in_bit c6 ht hd, Bool.or_eq_true, decide_eq_true_eq] at hb
      rw [has_put, Bool.or_eq_true, decide_eq_true_eq]
      rcases hb with hb | hb
      · exact .inr (h.seen m hf ht hd hb)
      · exact .inl hb
  · rename_i c6
    have hno : has es n = false := by
      cases hh : has es n
      · rfl
      · exact absurd (h.le n hh) c6
    show has es n = false ∧ n < l ∧ f ≤ n ∧ Inv7 (mput (.int .u64) .bool es (n : Int) true) f n (S <<< (n - t) ||| 1#64) l
    refine ⟨hno, by omega, c5, W_up h.w (by omega) (by omega), fun m hm => ?_, fun m hm hf hd => ?_, fun m hf ht hd hb => ?_⟩
    · rw [has_put, Bool.or_eq_true, decide_eq_true_eq] at hm
      rcases hm with rfl | hm
      · exact Nat.le_refl _
      · have := h.le m hm; omega
    · rw [has_put, Bool.or_eq_true, decide_eq_true_eq] at hm
      rcases hm with rfl | hm
      · rw [up_bit (by omega) (Nat.le_refl _) hd]; simp
      · have hmt := h.le m hm
        rw [up_bit (by omega) (by omega) hd, h.bit m hm hf (by omega)]; simp [hmt]
    · rw [up_bit (by omega) ht hd, Bool.or_eq_true, decide_eq_true_eq, Bool.and_eq_true, decide_eq_true_eq] at hb
      rw [has_put, Bool.or_eq_true, decide_eq_true_eq]
      rcases hb with ⟨hmt, hb⟩ | hb
      · exact .inr (h.seen m hf hmt (by omega) hb)
      · exact .inl hb

theorem in_or (es : List (Int × Bool)) (n m : Nat) (h : has (mput (.int .u64) .bool es (n : Int) true) m = true) : m = n ∨ has es m = true := by
  rw [has_put, Bool.or_eq_true, decide_eq_true_eq] at h
  exact h

theorem tk_no {es : List (Int × Bool)} {f t l n : Nat} {S : BitVec 64} (h : Inv7 es f t S l) (hz : (tk f t S l n).1 ≠ 0) :
    has es n = true ∨ n < 1 ∨ 1152921504606846976 < n ∨ n < f ∨ (n ≤ t ∧ 64 ≤ t - n) ∨ l ≤ n := by
  unfold tk at hz
  split at hz
  · rename_i c; omega
  split at hz
  · rename_i c; omega
  rename_i c2
  split at hz
  · rename_i c3
    have h' := h.seen n (by omega) c3.1 (by omega) c3.2
    exact .inl h'
  split at hz
  · rename_i c; omega
  split at hz <;> exact absurd rfl hz

theorem G21_eq {n m : Int} (hn : inR .i64 n) (h1 : 1 ≤ m) (h2 : m < 1000000) : G21 (n, m, ()) = (true, (n % m, ()), ((), (), ())) := by
  refine G21_of ?_
  unfold t21
  have e : n.tmod m = if 0 ≤ n then n % m else -((-n) % m) := by
    split
    · rename_i h; exact Int.tmod_eq_emod_of_nonneg h
    · rename_i h
      have := Int.neg_tmod (a := n) (b := m)
      rw [Int.tmod_eq_emod_of_nonneg (a := -n) (by omega)] at this
      omega
  have b1 : 0 ≤ n % m := Int.emod_nonneg _ (by omega)
  have b2 : n % m < m := Int.emod_lt_of_pos _ (by omega)
  have b3 : 0 ≤ (-n) % m := Int.emod_nonneg _ (by omega)
  have b4 : (-n) % m < m := Int.emod_lt_of_pos _ (by omega)
  by_cases h : 0 ≤ n
  · rw [if_pos h] at e
    rw [e]
    simp [jn, ck, Bool.cond_eq_ite, show ¬ (m < 1) by omega, show m ≠ 0 by omega, show ¬ (n % m < 0) by omega]
  · rw [if_neg h] at e
    rw [e]
    by_cases hz : (-n) % m = 0
    · have : n % m = 0 := by
        have := Int.dvd_of_emod_eq_zero hz
        exact Int.emod_eq_zero_of_dvd ((Int.dvd_neg).1 this)
      simp [jn, ck, Bool.cond_eq_ite, show ¬ (m < 1) by omega, show m ≠ 0 by omega, hz, this]
    · have : n % m = m - (-n) % m := by
        have h3 := Int.emod_add_mul_ediv (-n) m
        have h4 : n = (m - (-n) % m) + m * (-((-n) / m) - 1) := by
          rw [Int.mul_sub, Int.mul_neg]; omega
        have h5 : n % m = (m - (-n) % m) % m := by
          conv => lhs; rw [h4]
          exact Int.add_mul_emod_self_left _ _ _
        rw [h5]
        exact Int.emod_eq_of_lt (by omega) (by omega)
      rw [this, wrap_i64 (by omega) (by omega)]
      simp [jn, ck, Bool.cond_eq_ite, show ¬ (m < 1) by omega, show m ≠ 0 by omega, show (-((-n) % m) < 0) by omega]
      rw [if_pos (by omega)]
      congr 3
      omega

/-- The loop. -/
theorem loop8 (n : Nat) (l : List (Int × (Int × Unit))) (hl : K8a.ok (l, ())) : ∀ (k i : Nat) (es : List (Int × Bool)) (f t : Nat) (S : BitVec 64) (lim : Nat), i ≤ l.length → l.length - i < k → Inv7 es f t S lim →
    l8_506_0 G25 G27 G23 G22 G20 G21 G26 n k l i es f t S.toNat lim = some (true, ()) := by
  have hlen : l.length < 9223372036854775808 := hl.1.1
  intro k
  induction k with
  | zero => intro i es f t S lim h1 h2; omega
  | succ k ih =>
    intro i es f t S lim h1 h2 hv
    rw [l8_506_0_s]
    by_cases hi : (i : Int) < l.length
    case neg => simp [Bool.cond_eq_ite, hi]
    have hir : rng (i : Int) l.length = true := rng_ok (by omega) hi
    have hw : IntKind.i64.wrap ((i : Int) + 1) = (i : Int) + 1 := wrap_i64 (by omega) (by omega)
    have next : ∀ (es : List (Int × Bool)) (f t : Nat) (S : BitVec 64) (lim : Nat), Inv7 es f t S lim → l8_506_0 G25 G27 G23 G22 G20 G21 G26 n k l ((i : Int) + 1) es f t S.toNat lim = some (true, ()) := fun es f t S lim hv => ih (i + 1) es f t S lim (by omega) (by omega) hv
    obtain ⟨kind, m, he, hk, hm⟩ : ∃ (kind : Int) (m : Nat), l.getD i (0, 0, ()) = (kind, (m : Int), ()) ∧ inR .i64 kind ∧ m < 2 ^ 64 := by
      have hlt : i < l.length := by omega
      have := hl.1.2 i _ (List.getElem?_eq_getElem hlt)
      obtain ⟨q1, ⟨q2, q3⟩, _⟩ := this
      refine ⟨(l[i]).1, (l[i]).2.1.toNat, ?_, q1, by omega⟩
      rw [List.getD_eq_getElem?_getD, List.getElem?_eq_getElem hlt]
      show l[i] = _
      rw [Int.toNat_of_nonneg q2]
    simp only [hi, decide_true, cond_true, hir, ck_true, hw, Int.toNat_natCast, he]
    rw [G21_eq hk (by omega) (by omega)]
    have p1 : 0 ≤ kind % 7 := Int.emod_nonneg _ (by omega)
    have p2 : kind % 7 < 7 := Int.emod_lt_of_pos _ (by omega)
    have g1 := hv.w.f1
    have g2 := hv.w.fl
    have g3 := hv.w.le
    have g4 := hv.w.tl
    have hcases : kind % 7 = 4 ∨ kind % 7 = 5 ∨ kind % 7 = 6 ∨ (kind % 7 ≠ 4 ∧ kind % 7 ≠ 5 ∧ kind % 7 ≠ 6) := by omega
    have hr := hv.renew
    have nr := next _ _ _ _ _ hr
    have gr := G27_ok hr.w
    rcases hcases with hp | hp | hp | ⟨c4, c5, c6⟩
    · -- Allow
      by_cases d1 : 1152921504606846977 < m
      · simp [cl_true, jn, Bool.cond_eq_ite, hp, G22_ok hv.w, d1, G27_ok hv.w, next _ _ _ _ _ hv, show (lim : Int) < m by omega, show ¬ ((m : Int) ≤ 1152921504606846977) by omega]
      · by_cases d2 : m ≤ lim
        · simp [cl_true, jn, Bool.cond_eq_ite, hp, G22_ok hv.w, d1, d2, G27_ok hv.w, next _ _ _ _ _ hv, show ¬ ((lim : Int) < m) by omega]
        · have hv2 := hv.more (show lim < m by omega) (by omega)
          simp [cl_true, jn, Bool.cond_eq_ite, hp, G22_ok hv.w, d1, d2, G27_ok hv2.w, next _ _ _ _ _ hv2, show (lim : Int) < m by omega, show (m : Int) ≤ 1152921504606846977 by omega]
    · -- Recover
      simp at nr gr
      simp [cl_true, jn, Bool.cond_eq_ite, hp, G26_ok hv.w, gr, nr]
    · -- a crash
      have hc := G26_ok (W_crash (l := lim) (by omega) g3)
      simp at nr gr hc
      simp [cl_true, jn, Bool.cond_eq_ite, hp, hc, gr, nr]
    · -- Take
      by_cases hz : (tk f t S lim m).1 = 0
      · obtain ⟨q1, q2, q3, q4⟩ := tk_ok hv hz
        have hh : (mget (.int .u64) .bool es (m : Int)).getD false = false := q1
        simp [cl_true, jn, Bool.cond_eq_ite, c4, c5, c6, G23_ok hv.w hm, hz, hh, G27_ok q4.w, next _ _ _ _ _ q4, show ¬ ((lim : Int) ≤ m) by omega, show ¬ ((m : Int) < f) by omega]
      · have q := tk_no hv hz
        have hz' : ¬ (((tk f t S lim m).1 : Nat) : Int) = 0 := by omega
        simp [cl_true, jn, Bool.cond_eq_ite, c4, c5, c6, G23_ok hv.w hm, hz, hz', G27_ok hv.w, next _ _ _ _ _ hv]
        cases hh : (mget (.int .u64) .bool es (m : Int)).getD false with
        | true => simp
        | false =>
          have hh' : has es m = false := hh
          rw [hh'] at q
          simp
          intro a1 a2 a3
          by_cases b1 : m ≤ t
          · have b2 : 64 ≤ t - m ∨ lim ≤ m := by
              rcases q with q | q | q | q | q | q <;> first | omega | (cases q; done)
            rw [wrap_u64 (by omega) (by omega), if_pos b1]
            rcases b2 with b2 | b2
            · rw [if_neg (by omega)]
            · rw [if_neg (show ¬ m < lim by omega)]; split <;> rfl
          · have b2 : lim ≤ m := by
              rcases q with q | q | q | q | q | q <;> first | omega | (cases q; done)
            rw [if_neg b1, if_neg (by omega)]

theorem once8 (n : Nat) (hn : 200 ≤ n) (x : K8a.T) (hx : K8a.ok x) : runD (cx8 G25 G27 G23 G22 G20 G21 G26 n) (fnOf 8) (body 8) K8a K8o x = some (true, ()) := by
  obtain ⟨l, ⟨⟩⟩ := x
  rw [eq8, G20_eq, G25_eq]
  by_cases h : 100 < l.length
  · simp [cl_true, Bool.cond_eq_ite, h]; omega
  · have hv : Inv7 [] 1 0 0#64 1 := ⟨W_new (Nat.le_refl _) (by omega), fun n hn => by simp [has, mget] at hn, fun n hn => by simp [has, mget] at hn, fun n h1 h2 => by omega⟩
    have := loop8 n l hx n 0 [] 1 0 0#64 1 (by omega) (by omega) hv
    simp [cl_true, Bool.cond_eq_ite, h] at this ⊢
    exact fun _ => this
end Go.Proofs.Ytloohkifibfdiaa.Ae
