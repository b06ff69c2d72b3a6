/- Numbers as digits, and lists of bytes. -/
import Derived.Test.YtkmeimhapokdlaaAe31
set_option linter.unusedVariables false
set_option linter.unusedSimpArgs false
namespace Go.Proofs.Ytkmeimhapokdlaa.Ae
open Go

def okB (l : List Int) : Bool := l.all fun b => decide (0 ≤ b) && decide (b < 256)
/-- k digits, the greatest first. -/
def be : Nat → Nat → List Int
  | 0, _ => []
  | k + 1, x => ((x / 256 ^ k % 256 : Nat) : Int) :: be k x
def nlf : Nat → Nat → Nat
  | 0, _ => 0
  | m + 1, x => if x = 0 then 0 else nlf m (x / 256) + 1
/-- How many digits. -/
def nl (x : Nat) : Nat := nlf 8 x
def numB (x : Int) : List Int := (nl x.toNat : Int) :: be (nl x.toNat) x.toNat
def unF (a : Int) (l : List Int) : Int := l.foldl (fun x b => x * 256 + b) a
/-- The first number: its value, the error, what is left. -/
def rdN : List Int → Int × Int × List Int
  | [] => (0, 5, [])
  | n :: t => if 8 < n then (0, 4, n :: t) else if (t.length : Int) < n then (0, 5, n :: t) else if 0 < n ∧ t.getD 0 0 = 0 then (0, 4, n :: t) else (unF 0 (t.take n.toNat), 0, t.drop n.toNat)

theorem rdN_cons (n : Int) (t : List Int) : rdN (n :: t) = if 8 < n then (0, 4, n :: t) else if (t.length : Int) < n then (0, 5, n :: t) else if 0 < n ∧ t.getD 0 0 = 0 then (0, 4, n :: t) else (unF 0 (t.take n.toNat), 0, t.drop n.toNat) := rfl
theorem okB_cons {a : Int} {l : List Int} : okB (a :: l) = true ↔ (0 ≤ a ∧ a < 256) ∧ okB l = true := by
  simp [okB]
theorem okB_get {l : List Int} (h : okB l = true) (i : Nat) : 0 ≤ l.getD i 0 ∧ l.getD i 0 < 256 := by
  by_cases hi : i < l.length
  · rw [List.getD_eq_getElem?_getD, List.getElem?_eq_getElem hi]
    have := (List.all_eq_true.1 h) _ (List.getElem_mem hi)
    simpa using this
  · rw [List.getD_eq_getElem?_getD, List.getElem?_eq_none (by omega)]
    exact ⟨Int.le_refl _, by decide⟩
theorem okB_append {a b : List Int} : okB (a ++ b) = true ↔ okB a = true ∧ okB b = true := by
  simp [okB, List.all_append]
theorem okB_drop {l : List Int} (h : okB l = true) (n : Nat) : okB (l.drop n) = true := by
  rw [okB, List.all_eq_true] at h ⊢
  intro x hx
  exact h x (List.mem_of_mem_drop hx)
theorem okB_take {l : List Int} (h : okB l = true) (n : Nat) : okB (l.take n) = true := by
  rw [okB, List.all_eq_true] at h ⊢
  intro x hx
  exact h x (List.mem_of_mem_take hx)
theorem okB_iff {l : List Int} : okB l = true ↔ ∀ x ∈ l, 0 ≤ x ∧ x < 256 := by
  simp [okB]

theorem be_len : ∀ (k x : Nat), (be k x).length = k
  | 0, _ => rfl
  | k + 1, x => by simp [be, be_len k x]
theorem be_ok : ∀ (k x : Nat), okB (be k x) = true
  | 0, _ => rfl
  | k + 1, x => by
    rw [be, okB_cons]
    exact ⟨⟨by omega, by omega⟩, be_ok k x⟩
theorem be_snoc : ∀ (k x : Nat), be (k + 1) x = be k (x / 256) ++ [((x % 256 : Nat) : Int)]
  | 0, x => by simp [be]
  | k + 1, x => by
    rw [be, be_snoc k x]
    show _ = (((x / 256) / 256 ^ k % 256 : Nat) : Int) :: be k (x / 256) ++ _
    rw [Nat.div_div_eq_div_mul, Nat.pow_succ, Nat.mul_comm (256 ^ k) 256]
    rfl
theorem unF_cons (a b : Int) (l : List Int) : unF a (b :: l) = unF (a * 256 + b) l := rfl
theorem unF_append (a : Int) (l m : List Int) : unF a (l ++ m) = unF (unF a l) m := by simp [unF]
theorem un_be : ∀ (k x : Nat), x < 256 ^ k → unF 0 (be k x) = x
  | 0, x, h => by simp at h; subst h; rfl
  | k + 1, x, h => by
    rw [be_snoc, unF_append, un_be k (x / 256) (by rw [Nat.pow_succ] at h; omega)]
    show ((x / 256 : Nat) : Int) * 256 + ((x % 256 : Nat) : Int) = x
    omega
theorem unF_nat : ∀ (l : List Int) (a : Nat), okB l = true → ∃ v : Nat, unF a l = v ∧ a * 256 ^ l.length ≤ v ∧ v < (a + 1) * 256 ^ l.length
  | [], a, _ => ⟨a, rfl, by simp, by simp⟩
  | b :: l, a, h => by
    obtain ⟨⟨h1, h2⟩, h3⟩ := okB_cons.1 h
    obtain ⟨v, e, p, q⟩ := unF_nat l (a * 256 + b.toNat) h3
    refine ⟨v, ?_, ?_, ?_⟩
    · rw [unF_cons, ← e]; congr 1; omega
    · refine Nat.le_trans ?_ p
      rw [List.length_cons, Nat.pow_succ, Nat.mul_comm (256 ^ _) 256, ← Nat.mul_assoc]
      exact Nat.mul_le_mul_right _ (by omega)
    · refine Nat.lt_of_lt_of_le q ?_
      rw [List.length_cons, Nat.pow_succ, Nat.mul_comm (256 ^ _) 256, ← Nat.mul_assoc]
      exact Nat.mul_le_mul_right _ (by omega)
theorem be_un : ∀ (l : List Int), okB l = true → be l.length (unF 0 l).toNat = l := by
  intro l
  induction h : l.length generalizing l with
  | zero => intro _; cases l with
    | nil => rfl
    | cons => cases h
  | succ k ih =>
    intro ho
    rcases List.eq_nil_or_concat l with rfl | ⟨m, b, rfl⟩
    · cases h
    · rw [List.concat_eq_append] at *
      obtain ⟨h1, h2⟩ := okB_append.1 ho
      obtain ⟨⟨h3, h4⟩, -⟩ := okB_cons.1 h2
      obtain ⟨v, e, -, -⟩ := unF_nat m 0 h1
      have hm := ih m (by simpa using h) h1
      have e0 : unF 0 m = (v : Int) := e
      rw [e0, Int.toNat_natCast] at hm
      rw [be_snoc, unF_append, e0]
      show be k (((v : Int) * 256 + b).toNat / 256) ++ [(((((v : Int) * 256 + b).toNat % 256) : Nat) : Int)] = m ++ [b]
      rw [show ((v : Int) * 256 + b).toNat / 256 = v by omega, hm, show (((((v : Int) * 256 + b).toNat % 256) : Nat) : Int) = b by omega]

theorem nlf_le : ∀ (m x : Nat), nlf m x ≤ m
  | 0, _ => Nat.le_refl _
  | m + 1, x => by rw [nlf]; split; omega; have := nlf_le m (x / 256); omega
theorem nl_le (x : Nat) : nl x ≤ 8 := nlf_le 8 x
theorem nlf_lt : ∀ (m x : Nat), x < 256 ^ m → x < 256 ^ nlf m x
  | 0, x, h => h
  | m + 1, x, h => by
    rw [nlf]
    split
    · rename_i e; subst e; simp
    · have := nlf_lt m (x / 256) (by rw [Nat.pow_succ] at h; omega)
      rw [Nat.pow_succ]; omega
theorem nlf_ge : ∀ (m x : Nat), 0 < nlf m x → 256 ^ (nlf m x - 1) ≤ x
  | 0, _, h => by simp [nlf] at h
  | m + 1, x, h => by
    rw [nlf] at h ⊢
    split
    · rename_i e; rw [if_pos e] at h; cases h
    · rename_i e
      by_cases h2 : 0 < nlf m (x / 256)
      · have := nlf_ge m (x / 256) h2
        obtain ⟨p, hp⟩ : ∃ p, nlf m (x / 256) = p + 1 := ⟨nlf m (x / 256) - 1, by omega⟩
        rw [hp] at this ⊢
        show 256 ^ (p + 1) ≤ x
        rw [Nat.pow_succ]
        simp at this; omega
      · rw [show nlf m (x / 256) = 0 by omega]
        show 1 ≤ x
        omega
theorem nl_lt {x : Nat} (h : x < 18446744073709551616) : x < 256 ^ nl x := nlf_lt 8 x h
theorem nl_uniq {x k : Nat} (h : x < 18446744073709551616) (h1 : x < 256 ^ k) (h2 : 0 < k → 256 ^ (k - 1) ≤ x) : nl x = k := by
  have a := nl_lt h
  have b := nlf_ge 8 x
  rcases Nat.lt_trichotomy (nl x) k with h3 | h3 | h3
  · have := h2 (by omega)
    have := Nat.pow_le_pow_right (n := 256) (by omega) (show nl x ≤ k - 1 by omega)
    omega
  · exact h3
  · have := b (show 0 < nl x by omega)
    have := Nat.pow_le_pow_right (n := 256) (by omega) (show k ≤ nl x - 1 by omega)
    unfold nl at *
    omega

theorem numB_len (x : Int) : (numB x).length = nl x.toNat + 1 := by simp [numB, be_len]
theorem numB_len_le (x : Int) : (numB x).length ≤ 9 := by rw [numB_len]; have := nl_le x.toNat; omega
theorem numB_ok (x : Int) : okB (numB x) = true := by
  rw [numB, okB_cons]
  have := nl_le x.toNat
  exact ⟨⟨by omega, by omega⟩, be_ok _ _⟩

/-- What was written is read. -/
theorem rdN_numB {x : Int} (h0 : 0 ≤ x) (h : x < 18446744073709551616) (t : List Int) : rdN (numB x ++ t) = (x, 0, t) := by
  have h8 := nl_le x.toNat
  have hl := be_len (nl x.toNat) x.toNat
  show rdN ((nl x.toNat : Int) :: (be (nl x.toNat) x.toNat ++ t)) = _
  rw [rdN_cons]
  rw [if_neg (by omega), if_neg (by rw [List.length_append, hl]; omega), if_neg, Int.toNat_natCast]
  · rw [List.take_append_of_le_length (by omega), List.drop_append_of_le_length (by omega), List.take_of_length_le (by omega), List.drop_of_length_le (by omega), un_be _ _ (nl_lt (by omega))]
    simp [Int.toNat_of_nonneg h0]
  · rintro ⟨h1, h2⟩
    obtain ⟨p, hp⟩ : ∃ p, nl x.toNat = p + 1 := ⟨nl x.toNat - 1, by omega⟩
    have h3 := nlf_ge 8 x.toNat (show 0 < nl x.toNat by omega)
    have h4 := nl_lt (x := x.toNat) (by omega)
    change 256 ^ (nl x.toNat - 1) ≤ _ at h3
    rw [hp] at h2 h3 h4
    rw [be] at h2
    change ((x.toNat / 256 ^ p % 256 : Nat) : Int) = 0 at h2
    have h5 : x.toNat / 256 ^ p < 256 := by
      rw [Nat.div_lt_iff_lt_mul (Nat.pow_pos (by omega)), Nat.mul_comm, ← Nat.pow_succ]; exact h4
    have h6 : 1 ≤ x.toNat / 256 ^ p := by
      rw [Nat.le_div_iff_mul_le (Nat.pow_pos (by omega))]
      simpa using h3
    omega

/-- What was read was written so. -/
theorem rdN_back {b : List Int} (hb : okB b = true) (h : (rdN b).2.1 = 0) : 0 ≤ (rdN b).1 ∧ (rdN b).1 < 18446744073709551616 ∧ b = numB (rdN b).1 ++ (rdN b).2.2 := by
  cases b with
  | nil => cases h
  | cons n t =>
    obtain ⟨⟨n1, n2⟩, ht⟩ := okB_cons.1 hb
    rw [rdN_cons] at h ⊢
    split at h
    · cases h
    rename_i c1
    split at h
    · cases h
    rename_i c2
    split at h
    · cases h
    rename_i c3
    rw [if_neg c1, if_neg c2, if_neg c3]
    obtain ⟨k, rfl⟩ : ∃ k : Nat, n = k := ⟨n.toNat, by omega⟩
    rw [Int.toNat_natCast]
    have hlen : (t.take k).length = k := by rw [List.length_take]; omega
    have ho := okB_take ht k
    have hbe := be_un _ ho
    obtain ⟨v, e, v1, v2⟩ := unF_nat (t.take k) 0 ho
    have e' : unF 0 (t.take k) = (v : Int) := e
    rw [hlen] at hbe v1 v2
    rw [e'] at hbe ⊢
    rw [Int.toNat_natCast] at hbe
    have v2 : v < 256 ^ k := by simpa using v2
    have v3 : v < 18446744073709551616 := Nat.lt_of_lt_of_le v2 (Nat.pow_le_pow_right (n := 256) (by omega) (show k ≤ 8 by omega))
    have hk : nl v = k := by
      refine nl_uniq v3 v2 fun h0 => ?_
      cases t with
      | nil => simp at c2; omega
      | cons a t =>
        obtain ⟨⟨a1, a2⟩, ht2⟩ := okB_cons.1 ht
        obtain ⟨p, rfl⟩ : ∃ p, k = p + 1 := ⟨k - 1, by omega⟩
        have c4 : ¬ a = 0 := fun hh => c3 ⟨by omega, hh⟩
        obtain ⟨w, e2, w1, w2⟩ := unF_nat (t.take p) a.toNat (okB_take ht2 p)
        have e3 : unF 0 ((a :: t).take (p + 1)) = unF (a.toNat : Int) (t.take p) := by
          rw [List.take_succ_cons, unF_cons, show (0 : Int) * 256 + a = (a.toNat : Int) by omega]
        rw [e3, e2] at e'
        have hl2 : (t.take p).length = p := by simpa using hlen
        rw [hl2] at w1
        have : 1 * 256 ^ p ≤ a.toNat * 256 ^ p := Nat.mul_le_mul_right _ (by omega)
        simp only [Nat.add_sub_cancel]
        omega
    refine ⟨show 0 ≤ (v : Int) by omega, show (v : Int) < 18446744073709551616 by omega, ?_⟩
    show _ = ((nl ((v : Int).toNat) : Nat) : Int) :: be (nl ((v : Int).toNat)) ((v : Int).toNat) ++ t.drop k
    rw [Int.toNat_natCast, hk, hbe, List.cons_append, List.take_append_drop]

theorem rdN_range {b : List Int} (hb : okB b = true) : 0 ≤ (rdN b).1 ∧ (rdN b).1 < 18446744073709551616 := by
  by_cases h : (rdN b).2.1 = 0
  · exact ⟨(rdN_back hb h).1, (rdN_back hb h).2.1⟩
  · cases b with
    | nil => exact ⟨by decide, by decide⟩
    | cons n t =>
      rw [rdN_cons] at h ⊢
      split at h
      · rename_i c; rw [if_pos c]; exact ⟨show (0 : Int) ≤ 0 by decide, show (0 : Int) < 18446744073709551616 by decide⟩
      rename_i c1
      split at h
      · rename_i c; rw [if_neg c1, if_pos c]; exact ⟨show (0 : Int) ≤ 0 by decide, show (0 : Int) < 18446744073709551616 by decide⟩
      rename_i c2
      split at h
      · rename_i c; rw [if_neg c1, if_neg c2, if_pos c]; exact ⟨show (0 : Int) ≤ 0 by decide, show (0 : Int) < 18446744073709551616 by decide⟩
      · exact absurd rfl h
theorem rdN_ok {b : List Int} (hb : okB b = true) : okB (rdN b).2.2 = true ∧ (rdN b).2.2.length ≤ b.length := by
  cases b with
  | nil => exact ⟨rfl, Nat.le_refl _⟩
  | cons n t =>
    rw [rdN_cons]
    split
    · exact ⟨hb, Nat.le_refl _⟩
    split
    · exact ⟨hb, Nat.le_refl _⟩
    split
    · exact ⟨hb, Nat.le_refl _⟩
    · exact ⟨okB_drop (okB_cons.1 hb).2 _, by simp; omega⟩

/-- A number, by a reader that may have failed. -/
def st (s : List Int × Int) : Int × (List Int × Int) := if s.2 = 0 then ((rdN s.1).1, ((rdN s.1).2.2, (rdN s.1).2.1)) else (0, s)
theorem st_ok {s : List Int × Int} (h : okB s.1 = true) : okB (st s).2.1 = true ∧ (st s).2.1.length ≤ s.1.length ∧ 0 ≤ (st s).1 ∧ (st s).1 < 18446744073709551616 := by
  unfold st
  split
  · exact ⟨(rdN_ok h).1, (rdN_ok h).2, (rdN_range h).1, (rdN_range h).2⟩
  · exact ⟨h, Nat.le_refl _, show (0 : Int) ≤ 0 by decide, show (0 : Int) < 18446744073709551616 by decide⟩
theorem st_back {s : List Int × Int} (h : okB s.1 = true) (h0 : (st s).2.2 = 0) : s.2 = 0 ∧ s.1 = numB (st s).1 ++ (st s).2.1 := by
  unfold st at h0 ⊢
  split at h0
  · rename_i e
    rw [if_pos e]
    exact ⟨e, (rdN_back h h0).2.2⟩
  · rename_i e
    exact absurd h0 e
theorem st_num {v : Int} (h0 : 0 ≤ v) (h : v < 18446744073709551616) (t : List Int) : st (numB v ++ t, 0) = (v, (t, 0)) := by
  unfold st
  rw [if_pos rfl, rdN_numB h0 h]

theorem bytes_beq (x y : ByteArray) : (x == y) = (x.data == y.data) := by cases x; cases y; rfl
theorem bstr_beq {a b : List Int} (ha : okB a = true) (hb : okB b = true) : (bstr a == bstr b) = decide (a = b) := by
  rw [bytes_beq, Bool.eq_iff_iff, beq_iff_eq, decide_eq_true_eq]
  constructor
  · intro h
    have h2 : (a.map fun n => UInt8.ofNat n.toNat) = (b.map fun n => UInt8.ofNat n.toNat) := by
      have := congrArg Array.toList h
      simpa [bstr] using this
    clear h
    induction a generalizing b with
    | nil => cases b with
      | nil => rfl
      | cons _ _ => cases h2
    | cons x a ih => cases b with
      | nil => cases h2
      | cons y b =>
        obtain ⟨hx, ha⟩ := okB_cons.1 ha
        obtain ⟨hy, hb⟩ := okB_cons.1 hb
        simp only [List.map_cons, List.cons.injEq] at h2
        have h3 := congrArg UInt8.toNat h2.1
        simp only [UInt8.toNat_ofNat'] at h3
        rw [ih ha hb h2.2]
        congr 1
        omega
  · rintro rfl; rfl
theorem bstr_self (a : List Int) : (bstr a == bstr a) = true := by
  rw [bytes_beq]; exact beq_self_eq_true _

/-- Lists of bytes, as texts. -/
def lsEq : List (List Int) → List (List Int) → Bool
  | [], [] => true
  | x :: a, y :: b => bstr x == bstr y && lsEq a b
  | _, _ => false
theorem lsEq_self : ∀ (a : List (List Int)), lsEq a a = true
  | [] => rfl
  | x :: a => by rw [lsEq, bstr_self, lsEq_self a]; rfl
theorem lsEq_iff : ∀ {a b : List (List Int)}, (∀ x ∈ a, okB x = true) → (∀ x ∈ b, okB x = true) → lsEq a b = decide (a = b)
  | [], [], _, _ => rfl
  | [], y :: b, _, _ => rfl
  | x :: a, [], _, _ => rfl
  | x :: a, y :: b, h1, h2 => by
    rw [lsEq, bstr_beq (h1 x (List.mem_cons_self ..)) (h2 y (List.mem_cons_self ..)), lsEq_iff (fun z hz => h1 z (List.mem_cons_of_mem _ hz)) (fun z hz => h2 z (List.mem_cons_of_mem _ hz))]
    by_cases e : x = y <;> by_cases e2 : a = b <;> simp [e, e2]
theorem drop_get {α : Type} (l : List α) (d : α) (i : Nat) (h : i < l.length) : l.drop i = l.getD i d :: l.drop (i + 1) := by
  rw [List.drop_eq_getElem_cons h, List.getD_eq_getElem?_getD, List.getElem?_eq_getElem h]
  rfl
theorem drop_end {α : Type} (l : List α) (i : Nat) (h : l.length ≤ i) : l.drop i = [] := List.drop_of_length_le h

/-- A digit more. -/
theorem or_byte {a b : Nat} (hb : b < 256) (ha : a < 2 ^ 56) : IntKind.u64.wrap ((BitVec.ofInt 64 (IntKind.u64.wrap ((a : Int) * 2 ^ 8)) ||| BitVec.ofInt 64 (IntKind.u64.wrap (b : Int))).toNat : Int) = ((a * 256 + b : Nat) : Int) := by
  rw [wrap_u64 (show 0 ≤ (a : Int) * 2 ^ 8 by omega) (by omega), wrap_u64 (show 0 ≤ (b : Int) by omega) (by omega)]
  rw [show (a : Int) * 2 ^ 8 = ((a * 2 ^ 8 : Nat) : Int) by simp, BitVec.ofInt_natCast, BitVec.ofInt_natCast, BitVec.toNat_or, BitVec.toNat_ofNat, BitVec.toNat_ofNat, Nat.mod_eq_of_lt (by omega), Nat.mod_eq_of_lt (by omega)]
  have : a * 2 ^ 8 ||| b = a * 256 + b := by
    rw [← Nat.shiftLeft_eq, ← Nat.shiftLeft_add_eq_or_of_lt (by omega), Nat.shiftLeft_eq]
  rw [this, wrap_u64 (by omega) (by omega)]
end Go.Proofs.Ytkmeimhapokdlaa.Ae
