/- WindowCommutes: the plain law. -/
import Derived.Test.YtloohkifibfdiaaCommutes
set_option linter.unusedVariables false
set_option linter.unusedSimpArgs false
namespace Go.Proofs.Ytloohkifibfdiaa.Ae
open Go

theorem f27 : G27 = fun x => (true, (bif chkB x.1.1 x.1.2.1 x.1.2.2.1 x.1.2.2.2.1 then 0 else 2), ()) := toF_some fun x => raw27_eq _ _ _ _
theorem f34 : G34 = fun x => (true, takeN x.1.1 x.1.2.1 x.1.2.2.1 x.1.2.2.2.1 x.2.1) := toF_some fun x => raw34_eq _ _ _ _ _

def TakeN (f t s l n : Int) : Win × Int × Unit := bif chkB f t s l then takeN f t s l n else (no, 2, ())
def AllowN (f t s l m : Int) : Win × Int × Unit := bif chkB f t s l then (bif decide (m > 1152921504606846977) then (no, 2, ()) else bif decide (m ≤ l) then (no, 8, ()) else ((f, t, s, m, ()), 0, ())) else (no, 2, ())
def SeenN (f t s l n : Int) : Bool := bif chkB f t s l then (bif decide (n ≤ t) then bif decide (dif t n < 64) then bitI s (dif t n) else false else false) else false

theorem f23 : G23 = fun x => (true, TakeN x.1.1 x.1.2.1 x.1.2.2.1 x.1.2.2.2.1 x.2.1) := toF_some fun x => by
  rw [f27, f34]
  simp only [raw23, cond_true, TakeN]
  cases chkB x.1.1 x.1.2.1 x.1.2.2.1 x.1.2.2.2.1 <;> rfl

theorem f22 : G22 = fun x => (true, AllowN x.1.1 x.1.2.1 x.1.2.2.1 x.1.2.2.2.1 x.2.1) := toF_some fun x => by
  rw [f27]
  simp only [raw22, cond_true, AllowN]
  cases chkB x.1.1 x.1.2.1 x.1.2.2.1 x.1.2.2.2.1
  · rfl
  · cases decide (x.2.1 > (1152921504606846977 : Int))
    · cases decide (x.2.1 ≤ x.1.2.2.2.1) <;> rfl
    · rfl

theorem f24 : G24 = fun x => (true, SeenN x.1.1 x.1.2.1 x.1.2.2.1 x.1.2.2.2.1 x.2.1, ()) := toF_some fun x => by
  have d1 : decide (0 ≤ IntKind.u64.wrap (x.1.2.1 - x.2.1)) = true := dif_nonneg _ _
  rw [f27]
  simp only [raw24, cond_true, SeenN, d1]
  cases chkB x.1.1 x.1.2.1 x.1.2.2.1 x.1.2.2.2.1
  · rfl
  · cases decide (x.2.1 ≤ x.1.2.1)
    · rfl
    · show (bif decide (dif x.1.2.1 x.2.1 < 64) then some (bitI x.1.2.2.1 (dif x.1.2.1 x.2.1), ()) else some (false, ())) = _
      simp only [cond_true]
      cases decide (dif x.1.2.1 x.2.1 < 64) <;> rfl

theorem takeN_more {f t s l m n : Int} (h1 : n < l) (h2 : n < m) : takeN f t s m n = bif (takeN f t s l n).2.1 == 0 then (((takeN f t s l n).1.1, (takeN f t s l n).1.2.1, (takeN f t s l n).1.2.2.1, m, ()), 0, ()) else takeN f t s l n := by
  have d1 : decide (n ≥ l) = false := decide_eq_false (by omega)
  have d2 : decide (n ≥ m) = false := decide_eq_false (by omega)
  unfold takeN
  rw [d1, d2]
  cases (n == 0) <;> simp only [cond_true, cond_false]
  case true => rfl
  cases decide (n > 1152921504606846976) <;> simp only [cond_true, cond_false]
  case true => rfl
  cases decide (n < f) <;> simp only [cond_true, cond_false]
  case true => rfl
  cases (decide (n ≤ t) && decide (dif t n ≥ 64)) <;> simp only [cond_true, cond_false]
  case true => rfl
  cases (decide (n ≤ t) && bitI s (dif t n)) <;> simp only [cond_true, cond_false]
  case true => rfl
  cases decide (n ≤ t) <;> rfl

theorem takeN_lim {f t s l n : Int} (h : ((takeN f t s l n).2.1 == 0) = true) : (takeN f t s l n).1.2.2.2.1 = l := by
  unfold takeN at h ⊢
  cases h1 : (n == 0) <;> simp only [h1, cond_true, cond_false] at h ⊢
  case true => simp at h
  cases h1 : decide (n > 1152921504606846976) <;> simp only [h1, cond_true, cond_false] at h ⊢
  case true => simp at h
  cases h1 : decide (n < f) <;> simp only [h1, cond_true, cond_false] at h ⊢
  case true => simp at h
  cases h1 : (decide (n ≤ t) && decide (dif t n ≥ 64)) <;> simp only [h1, cond_true, cond_false] at h ⊢
  case true => simp at h
  cases h1 : (decide (n ≤ t) && bitI s (dif t n)) <;> simp only [h1, cond_true, cond_false] at h ⊢
  case true => simp at h
  cases h1 : decide (n ≥ l) <;> simp only [h1, cond_true, cond_false] at h ⊢
  case true => simp at h
  cases decide (n ≤ t) <;> rfl

theorem TakeN_zero {f t s l n : Int} (h : ((TakeN f t s l n).2.1 == 0) = true) : takeN f t s l n = ((TakeN f t s l n).1, 0, ()) := by
  cases hk : chkB f t s l
  · simp [TakeN, hk] at h
  · have e : TakeN f t s l n = takeN f t s l n := by simp only [TakeN, hk, cond_true]
    rw [e] at h ⊢
    have : (takeN f t s l n).2.1 = 0 := by simpa using h
    rw [← this]

theorem commutes_ints (f t s l a b m : Int) (hc : ∀ w1 w2 w3 w4 : Win, takeN f t s l a = (w1, 0, ()) → takeN w1.1 w1.2.1 w1.2.2.1 w1.2.2.2.1 b = (w2, 0, ()) → takeN f t s l b = (w3, 0, ()) → takeN w3.1 w3.2.1 w3.2.2.1 w3.2.2.2.1 a = (w4, 0, ()) → a ≠ b ∧ w2 = w4) :
    raw7 G20 G23 G22 G24 ((f, t, s, l, ()), a, b, m, ()) = some (true, ()) := by
  rw [f23, f22, f24]
  simp only [raw7, G20, cond_true, cond_false, Bool.not_true]
  cases hK : chkB f t s l
  · simp [TakeN, AllowN, hK]
  · have H : ((TakeN f t s l a).2.1 == 0) = true → ((TakeN (TakeN f t s l a).1.1 (TakeN f t s l a).1.2.1 (TakeN f t s l a).1.2.2.1 (TakeN f t s l a).1.2.2.2.1 b).2.1 == 0) = true → ((TakeN f t s l b).2.1 == 0) = true → ((TakeN (TakeN f t s l b).1.1 (TakeN f t s l b).1.2.1 (TakeN f t s l b).1.2.2.1 (TakeN f t s l b).1.2.2.2.1 a).2.1 == 0) = true →
        (a == b) = false ∧ (TakeN (TakeN f t s l a).1.1 (TakeN f t s l a).1.2.1 (TakeN f t s l a).1.2.2.1 (TakeN f t s l a).1.2.2.2.1 b).1 = (TakeN (TakeN f t s l b).1.1 (TakeN f t s l b).1.2.1 (TakeN f t s l b).1.2.2.1 (TakeN f t s l b).1.2.2.2.1 a).1 := by
      intro h1 h2 h3 h4
      have := hc _ _ _ _ (TakeN_zero h1) (TakeN_zero h2) (TakeN_zero h3) (TakeN_zero h4)
      exact ⟨beq_false_of_ne this.1, this.2⟩
    generalize hR2 : TakeN (TakeN f t s l a).1.1 (TakeN f t s l a).1.2.1 (TakeN f t s l a).1.2.2.1 (TakeN f t s l a).1.2.2.2.1 b = R2 at H ⊢
    generalize hR4 : TakeN (TakeN f t s l b).1.1 (TakeN f t s l b).1.2.1 (TakeN f t s l b).1.2.2.1 (TakeN f t s l b).1.2.2.2.1 a = R4 at H ⊢
    generalize hR3 : TakeN f t s l b = R3 at H ⊢
    have hA : TakeN f t s l a = takeN f t s l a := by simp only [TakeN, hK, cond_true]
    have hAl : AllowN f t s l m = bif decide (m > 1152921504606846977) then (no, 2, ()) else bif decide (m ≤ l) then (no, 8, ()) else ((f, t, s, m, ()), 0, ()) := by simp only [AllowN, hK, cond_true]
    -- what follows the first half is true
    have first : ∀ (X : Option K7o.T), X = some (true, ()) → (bif (TakeN f t s l a).2.1 == 0 then bif R2.2.1 == 0 then bif R3.2.1 == 0 then bif R4.2.1 == 0 then bif a == b then some (false, ()) else bif !(R2.1.1 == R4.1.1 && (R2.1.2.1 == R4.1.2.1 && (R2.1.2.2.1 == R4.1.2.2.1 && (R2.1.2.2.2.1 == R4.1.2.2.2.1 && true)))) then some (false, ()) else X else X else X else X else X) = some (true, ()) := by
      intro X hX
      cases h1 : ((TakeN f t s l a).2.1 == 0)
      · exact hX
      cases h2 : (R2.2.1 == 0)
      · exact hX
      cases h3 : (R3.2.1 == 0)
      · exact hX
      cases h4 : (R4.2.1 == 0)
      · exact hX
      obtain ⟨q1, q2⟩ := H h1 h2 h3 h4
      rw [q1, q2]
      simp [hX]
    refine first _ ?_
    rw [hAl]
    cases c1 : decide (m > 1152921504606846977)
    case true => rfl
    cases c2 : decide (m ≤ l)
    case true => rfl
    have c1' := of_decide_eq_false c1
    have c2' := of_decide_eq_false c2
    have hM : chkB f t s m = true := chkB_more hK (by omega) (by omega)
    have hS : SeenN f t s m b = SeenN f t s l b := by simp only [SeenN, hK, hM]
    have hT : TakeN f t s m a = takeN f t s m a := by simp only [TakeN, hM, cond_true]
    simp only [cond_false, hS, hT, hA, bne_self_eq_false, BEq.rfl, Bool.not_true]
    cases c3 : decide (a < l)
    · have c3' := of_decide_eq_false c3
      have d : decide (a ≥ l) = true := decide_eq_true (by omega)
      simp [d]
    · have c3' := of_decide_eq_true c3
      have d : decide (a ≥ l) = false := decide_eq_false (by omega)
      rw [takeN_more c3' (by omega), d]
      cases c4 : ((takeN f t s l a).2.1 == 0)
      · have c5 : ((takeN f t s l a).2.1 != 0) = true := by simp only [bne, c4, Bool.not_false]
        simp [c5]
      · have c5 : (takeN f t s l a).2.1 = 0 := by simpa using c4
        have c6 := takeN_lim c4
        simp [c5, c6]

theorem wf_nat {n : Int} (h : (Lit.int .u64 n).wf = true) : ∃ k : Nat, n = (k : Int) ∧ k < 2 ^ 64 := by
  simp only [Lit.wf, Bool.and_eq_true, decide_eq_true_eq] at h
  have h1 : (0 : Int) ≤ n := by have := h.1; simpa [IntKind.min, IntKind.signed] using this
  have h2 : n ≤ 18446744073709551615 := by have := h.2; simpa [IntKind.max, IntKind.signed, IntKind.bits] using this
  exact ⟨n.toNat, by omega, by omega⟩

theorem commutes_kv {F : FS} {w : World} {x : K7a.T} {vs : List Value} (h : KVs F w K7a x vs) : raw7 G20 G23 G22 G24 x = some (true, ()) := by
  obtain ⟨⟨f, t, s, l, u⟩, a, b, m, u'⟩ := x
  obtain ⟨v0, vs0, _, ⟨h0, _⟩, v1, vs1, _, ⟨h1, _⟩, v2, vs2, _, ⟨h2, _⟩, _⟩ := h
  obtain ⟨c1, c2, _, hf, c3, c4, _, ht, c5, c6, _, hs, c7, c8, _, hl, _⟩ := h0
  obtain ⟨f', rfl, _⟩ := wf_nat hf.2
  obtain ⟨t', rfl, ht'⟩ := wf_nat ht.2
  obtain ⟨s', rfl, hs'⟩ := wf_nat hs.2
  obtain ⟨l', rfl, _⟩ := wf_nat hl.2
  obtain ⟨a', rfl, ha'⟩ := wf_nat h1.2
  obtain ⟨b', rfl, hb'⟩ := wf_nat h2.2
  have hB : (s' : Int) = ((BitVec.ofNat 64 s').toNat : Int) := by
    rw [BitVec.toNat_ofNat, Nat.mod_eq_of_lt hs']
  refine commutes_ints _ _ _ _ _ _ _ fun w1 w2 w3 w4 e1 e2 e3 e4 => ?_
  rw [hB] at e1 e3
  obtain ⟨q1, q2⟩ := take_commutes ht' ha' hb' e1 e2 e3 e4
  exact ⟨by omega, q2⟩

end Go.Proofs.Ytloohkifibfdiaa.Ae
