/- The operations that leave memory alone: what the evaluator says of them is what the program does. Lemmas alone. -/
import Derived.Test.YtkmeimhapokdlaaAe4
import Derived.ArgAppend
set_option linter.unusedVariables false
set_option linter.unusedSimpArgs false
namespace Go.Proofs.Ytkmeimhapokdlaa.Ae
open Go

section
variable {F : FS} {L : LM} {w : World}

theorem VV_int {k : IntKind} {n : Int} {v : Value} (h : VV F L w (.int k n) v) : v = .int k n ∧ (Lit.int k n).wf = true := by
  simp only [VV, AV.isAgg, cond_false, VR, List.cons.injEq, and_true] at h; exact h
theorem VV_int_mk {k : IntKind} {n : Int} (h : (Lit.int k n).wf = true) : VV F L w (.int k n) (.int k n) := by
  simp only [VV, AV.isAgg, cond_false, VR, true_and]; exact h
theorem VV_bool {b : Bool} {v : Value} (h : VV F L w (.bool b) v) : v = .bool b := by
  simpa only [VV, AV.isAgg, cond_false, VR, List.cons.injEq, and_true] using h
theorem VV_bool_mk {b : Bool} : VV F L w (.bool b) (.bool b) := by simp only [VV, AV.isAgg, cond_false, VR]
theorem VV_str {s : ByteArray} {v : Value} (h : VV F L w (.str s) v) : v = .string s := by
  simpa only [VV, AV.isAgg, cond_false, VR, List.cons.injEq, and_true] using h
theorem VV_str_mk {s : ByteArray} : VV F L w (.str s) (.string s) := by simp only [VV, AV.isAgg, cond_false, VR]

theorem VV_plain {a : AV} {v : Value} (hp : a.plain = true) : VV F L w a v ↔ (bif a.isAgg then ∃ c : List Value, v = .agg c.toArray ∧ VR F L w a c else VR F L w a [v]) := by
  cases a <;> simp only [AV.plain, reduceCtorEq] at hp <;> rfl

/-- Its cells. -/
theorem VV_cells {a : AV} {v : Value} (hp : a.plain = true) (h : VV F L w a v) : VR F L w a v.cells.toList ∧ (a.isAgg = true → ∃ c : Array Value, v = .agg c) ∧ (a.isAgg = false → v.cells = #[v]) := by
  rw [VV_plain hp] at h
  cases ha : a.isAgg
  · simp only [ha, cond_false] at h
    have h1 := VR_one a [v] h v (by simp)
    have hc : v.cells = #[v] := by cases v <;> first | rfl | (simp [Value.oneCell'] at h1)
    rw [hc]
    exact ⟨h, by simp, fun _ => rfl⟩
  · simp only [ha, cond_true] at h
    obtain ⟨c, rfl, h2⟩ := h
    exact ⟨by simpa [Value.cells] using h2, fun _ => ⟨_, rfl⟩, by simp⟩

theorem VR_plain {a : AV} {cs : List Value} (h : VR F L w a cs) : a.plain = true ∨ a = .dead := by
  cases a <;> simp [AV.plain] <;> simp only [VR] at h

/-- A value out of its cells. -/
theorem VV_of_cells {a : AV} {cs : List Value} (h : VR F L w a cs) : VV F L w a (if a.isAgg then .agg cs.toArray else cs.headD .nilFunc) := by
  rcases VR_plain h with hp | rfl
  · rw [VV_plain hp]
    cases ha : a.isAgg
    · simp only [cond_false, Bool.false_eq_true, if_false]
      have := VR_size a cs h
      have h1 : a.size = 1 := by cases a <;> first | rfl | (simp [AV.isAgg] at ha)
      rw [h1] at this
      obtain ⟨x, rfl⟩ := List.length_eq_one_iff.1 this
      exact h
    · simp only [cond_true, if_true]
      exact ⟨cs, rfl, h⟩
  · simp only [VV]

theorem wf_wrap (k : IntKind) (n : Int) : (Lit.int k (k.wrap n)).wf = true := by
  cases k <;> simp [Lit.wf, IntKind.wrap, IntKind.min, IntKind.max, IntKind.signed, IntKind.bits] <;> (repeat' split) <;> omega

theorem lit_sound {c : Value} {a : AV} (h : lit c = some a) : VV F L w a c := by
  unfold lit at h
  split at h
  · split at h
    · rename_i hw; cases h; exact VV_int_mk hw
    · cases h
  all_goals first
    | (cases h; simp only [VV, AV.isAgg, cond_false, VR]; done)
    | (cases h; done)

/-- What is known of the package-level variables. -/
def GS (gl : Nat → Option AV) (F : FS) (L : LM) (w : World) : Prop := ∀ g v, gl g = some v → VV F L w v (.pointer (some ⟨g, 0, none⟩))

theorem GS_mono {gl : Nat → Option AV} {F' : FS} {L' : LM} {w' : World} (hF : ∀ b, F b → F' b) (hL : ∀ id l, L id = some l → L' id = some l) (hw : WL F w w') (h : GS gl F L w) : GS gl F' L' w' :=
  fun g v hg => VV_mono hF hL hw (h g v hg)

def TS (F : FS) (L : LM) (w : World) (get : Nat → AV) (a : Act) : Prop := ∀ t, VV F L w (get t) (a.tmps.getD t undef)

theorem opnd_sound {gl : Nat → Option AV} {get : Nat → AV} {a : Act} (hg : GS gl F L w) (ht : TS F L w get a) {x : Operand} {v : AV} (h : opnd gl get x = some v) : VV F L w v (a.eval x) := by
  cases x with
  | tmp t => cases h; exact ht t
  | const c => exact lit_sound h
  | global g => exact hg g v h
  | func f =>
    cases h
    simp only [VV, AV.isAgg, cond_false, VR]
    exact ⟨[], [], rfl, by simp only [CV], by simp only [CV]⟩

theorem opnds_sound {gl : Nat → Option AV} {get : Nat → AV} {a : Act} (hg : GS gl F L w) (ht : TS F L w get a) : ∀ (xs : List Operand) (v : AV), opnds gl get xs = some v → CV F L w v (xs.map a.eval)
  | [], v, h => by cases h; simp only [CV, List.map_nil]
  | x :: xs, v, h => by
    simp only [opnds] at h
    split at h
    case h_2 => cases h
    rename_i u hu
    split at h
    · cases h
    rename_i hn
    split at h
    case h_2 => cases h
    rename_i r hr
    cases h
    have h1 := opnd_sound hg ht hu
    simp only [CV, List.map_cons]
    refine ⟨_, _, rfl, ?_, opnds_sound hg ht xs r hr⟩
    cases u <;> first
      | exact .inl ⟨rfl, h1⟩
      | exact .inr (.inl rfl)
      | exact .inr (.inr h1)
      | cases hn

variable {P : Program}

/-! ### Integers, bools, comparisons -/
theorem run_intOp {op : BinOp} {t : TypeId} {k : IntKind} {x y : Int} {c : Bool} {v : AV} {Δ : Eff} (hx : (Lit.int k x).wf = true) (h : intOp op k x y = some (c, v, Δ)) (hc : c = true) :
    ∃ u, (Go.binOp op t (.int k x) (.int k y)).run P w = .ok u w ∧ VV F L w v u ∧ Δ = [] := by
  subst hc
  cases op <;> simp only [intOp, Option.some.injEq, Prod.mk.injEq, reduceCtorEq, true_and, and_false] at h <;> obtain ⟨h1, h2⟩ := h
  case quo =>
    obtain ⟨rfl, rfl⟩ := h2
    have hy : y ≠ 0 := by simpa using h1
    exact ⟨_, by simp [Go.binOp, Op.intDiv, hy], VV_int_mk (wf_wrap _ _), rfl⟩
  case rem =>
    obtain ⟨rfl, rfl⟩ := h2
    have hy : y ≠ 0 := by simpa using h1
    refine ⟨_, by simp [Go.binOp, Op.intDiv, hy], VV_int_mk ?_, rfl⟩
    simp only [Lit.wf, Bool.and_eq_true, decide_eq_true_eq] at hx ⊢
    have hneg : k.min ≤ 0 := by cases k <;> simp [IntKind.min, IntKind.signed, IntKind.bits]
    rcases Int.le_total 0 x with h0 | h0
    · have e1 := Int.tmod_nonneg y h0
      have e2 : x.tmod y ≤ x := by
        have := Int.tmod_add_mul_tdiv x y
        have h4 : 0 ≤ y * x.tdiv y := by
          rcases Int.le_total 0 y with hy0 | hy0
          · exact Int.mul_nonneg hy0 (Int.tdiv_nonneg h0 hy0)
          · have := Int.tdiv_nonneg h0 (show 0 ≤ -y by omega)
            rw [Int.tdiv_neg] at this
            have h5 := Int.mul_nonneg (show 0 ≤ -y by omega) this
            rwa [Int.neg_mul_neg] at h5
        omega
      omega
    · have e1 : x.tmod y ≤ 0 := by
        have := Int.tmod_nonneg y (show 0 ≤ -x by omega)
        rw [Int.neg_tmod] at this; omega
      have e2 : x ≤ x.tmod y := by
        have := Int.tmod_add_mul_tdiv x y
        have h4 : y * x.tdiv y ≤ 0 := by
          rcases Int.le_total 0 y with hy0 | hy0
          · have := Int.tdiv_nonneg (show 0 ≤ -x by omega) hy0
            rw [Int.neg_tdiv] at this
            have h5 := Int.mul_nonneg hy0 this
            rw [Int.mul_neg] at h5; omega
          · have := Int.tdiv_nonneg (show 0 ≤ -x by omega) (show 0 ≤ -y by omega)
            rw [Int.neg_tdiv, Int.tdiv_neg, Int.neg_neg] at this
            have h5 := Int.mul_nonneg (show 0 ≤ -y by omega) this
            rw [Int.neg_mul] at h5; omega
        omega
      have hmax : 0 ≤ k.max := by cases k <;> simp [IntKind.max, IntKind.signed, IntKind.bits]
      omega
  all_goals
    subst h1 h2
    first
      | exact ⟨_, (by simp only [Go.binOp, ne_eq, not_true_eq_false, if_false]; rfl), VV_int_mk (wf_wrap _ _), rfl⟩
      | exact ⟨_, (by simp only [Go.binOp, ne_eq, not_true_eq_false, if_false]; rfl), VV_bool_mk, rfl⟩

theorem wf_shr {k : IntKind} {x : Int} (hx : (Lit.int k x).wf = true) (n : Nat) : (Lit.int k (x.fdiv (2 ^ n))).wf = true := by
  have hp : (0 : Int) < 2 ^ n := by exact_mod_cast Nat.two_pow_pos n
  have hneg : k.min ≤ 0 := by cases k <;> simp [IntKind.min, IntKind.signed, IntKind.bits]
  have hmax : 0 ≤ k.max := by cases k <;> simp [IntKind.max, IntKind.signed, IntKind.bits]
  simp only [Lit.wf, Bool.and_eq_true, decide_eq_true_eq] at hx ⊢
  rw [Int.fdiv_eq_ediv_of_nonneg _ (Int.le_of_lt hp)]
  rcases Int.le_total 0 x with h0 | h0
  · have h1 := Int.ediv_nonneg h0 (Int.le_of_lt hp)
    have h2 := Int.ediv_le_self (2 ^ n) h0
    omega
  · have h1 : x / 2 ^ n ≤ 0 := by
      have := Int.ediv_le_ediv hp h0
      simpa using this
    have h2 : x ≤ x / 2 ^ n := by
      rw [Int.le_ediv_iff_mul_le hp]
      have h5 := Int.mul_le_mul_of_nonpos_left h0 (show (1 : Int) ≤ 2 ^ n from hp)
      omega
    omega

theorem run_shiftOp {op : BinOp} {t : TypeId} {k yk : IntKind} {x y : Int} {c : Bool} {v : AV} {Δ : Eff} (hx : (Lit.int k x).wf = true) (h : shiftOp op k x y = some (c, v, Δ)) (hc : c = true) (hop : op = .shl ∨ op = .shr) :
    ∃ u, (Go.binOp op t (.int k x) (.int yk y)).run P w = .ok u w ∧ VV F L w v u ∧ Δ = [] := by
  subst hc
  rcases hop with rfl | rfl
  all_goals
    simp only [shiftOp, Option.some.injEq, Prod.mk.injEq, decide_eq_true_eq] at h
    obtain ⟨h1, rfl, rfl⟩ := h
    have hy : ¬ y < 0 := by omega
    first
      | exact ⟨_, by simp [Go.binOp, Op.shift, hy], VV_int_mk (wf_wrap _ _), rfl⟩
      | exact ⟨_, by simp [Go.binOp, Op.shift, hy], VV_int_mk (wf_shr hx _), rfl⟩

/-! ### Parts of a value -/
theorem aggT_some {t : TypeId} {b : Bool} (h : aggT P t = some b) : ∃ d, P.underlying t = some d ∧ b = aggD d := by
  unfold aggT at h
  cases hu : P.underlying t with
  | none => rw [hu] at h; cases h
  | some d => rw [hu] at h; cases h; exact ⟨d, rfl, rfl⟩

theorem run_isAgg {t : TypeId} {d : TypeDesc} (hu : P.underlying t = some d) : (isAgg t).run P w = .ok (aggD d) w := by
  simp only [isAgg, Sem.run_bind, run_underlying hu, Result.andThen_ok]
  cases d <;> rfl

theorem run_sizeOf' {t : TypeId} {d : TypeDesc} (hu : P.underlying t = some d) : (sizeOf t).run P w = .ok (P.cellsOf t) w := by
  obtain ⟨i, hi⟩ := info_of_underlying hu
  exact run_sizeOf w hi

theorem run_part_at {t : TypeId} {d : TypeDesc} {a : AV} {pre ca post : List Value} (hu : P.underlying t = some d) (hg : a.isAgg = aggD d) (hs : P.cellsOf t = a.size) (ha : VR F L w a ca) :
    ∃ v, (part t (pre ++ (ca ++ post)).toArray pre.length).run P w = .ok v w ∧ VV F L w a v := by
  have hl := VR_size a ca ha
  have hv := VV_of_cells ha
  refine ⟨_, ?_, hv⟩
  simp only [part, Sem.run_bind, run_isAgg hu, Result.andThen_ok]
  rw [← hg]
  cases hb : a.isAgg
  · have h1 : a.size = 1 := by cases a <;> first | rfl | (simp [AV.isAgg] at hb)
    rw [h1] at hl
    obtain ⟨x, rfl⟩ := List.length_eq_one_iff.1 hl
    simp
  · simp only [if_true, Sem.run_bind, run_sizeOf' hu, Result.andThen_ok, Sem.run_pure, hs]
    congr 2
    apply Array.ext'
    simp [← hl]

/-! ### Equality -/
theorem eqTy_agg {d : Nat} {t : TypeId} {a : AV} (h : eqTy P d t a = true) : ∃ k, P.underlying t = some k ∧ a.isAgg = aggD k ∧ a.plain = true := by
  cases d with
  | zero => simp [eqTy] at h
  | succ d =>
    cases hu : P.underlying t with
    | none => simp [eqTy, hu] at h
    | some k =>
      refine ⟨k, rfl, ?_⟩
      cases k
      case struct fs =>
        simp only [eqTy, hu, Bool.and_eq_true] at h
        obtain ⟨_, h⟩ := h
        cases a <;> first | exact ⟨rfl, rfl⟩ | (cases hf : fs.toList <;> simp [hf, eqTy.eqFs] at h)
      all_goals (cases a <;> first | exact ⟨rfl, rfl⟩ | (simp [eqTy, hu] at h))

/-- Two arrays of scalars, from place s on. -/
theorem run_eqItems {e : TypeId} {K : Kd} (hsc : (∃ k, P.underlying e = some (.int k) ∧ K = .int k) ∨ (P.underlying e = some .bool ∧ K = .bool)) (d : Nat) (hc : P.cellsOf e = 1) :
    ∀ (m s : Nat) (xs ys : List K.T) (cx cy : List Value) (r : Bool), RK F w (.arr (s + m) K) xs cx → RK F w (.arr (s + m) K) ys cy → (r = true ↔ xs.drop s = ys.drop s) →
      (Op.eqItems (d + 1) e (P.cellsOf e) cx.toArray cy.toArray (List.range' s m)).run P w = .ok r w
  | 0, s, xs, ys, cx, cy, r, hx, hy, hr => by
    have h1 : xs.drop s = [] := List.drop_eq_nil_of_le (by rw [hx.1.1]; omega)
    have h2 : ys.drop s = [] := List.drop_eq_nil_of_le (by rw [hy.1.1]; omega)
    rw [h1, h2] at hr
    rw [hr.2 rfl]
    rfl
  | m + 1, s, xs, ys, cx, cy, r, hx, hy, hr => by
    have l1 : s < xs.length := by rw [hx.1.1]; omega
    have l2 : s < ys.length := by rw [hy.1.1]; omega
    have l3 : s < cx.length := by rw [hx.2.1]; omega
    have l4 : s < cy.length := by rw [hy.2.1]; omega
    have e1 := hx.2.2 s _ _ (List.getElem?_eq_getElem l1) (List.getElem?_eq_getElem l3)
    have e2 := hy.2.2 s _ _ (List.getElem?_eq_getElem l2) (List.getElem?_eq_getElem l4)
    have hd1 : xs.drop s = xs[s] :: xs.drop (s + 1) := List.drop_eq_getElem_cons l1
    have hd2 : ys.drop s = ys[s] :: ys.drop (s + 1) := List.drop_eq_getElem_cons l2
    rw [List.range'_succ]
    have hpx : ∀ (cs : List Value) (h : s < cs.length), (part e cs.toArray (s * P.cellsOf e)).run P w = .ok cs[s] w := by
      intro cs h
      rw [hc, Nat.mul_one]
      rcases hsc with ⟨k, hu, _⟩ | ⟨hu, _⟩ <;> simp [part, run_isAgg hu, aggD, h]
    have hx' : RK F w (.arr (s + 1 + m) K) xs cx := by rw [show s + 1 + m = s + (m + 1) by omega]; exact hx
    have hy' : RK F w (.arr (s + 1 + m) K) ys cy := by rw [show s + 1 + m = s + (m + 1) by omega]; exact hy
    simp only [Op.eqItems, Sem.run_bind, hpx cx l3, hpx cy l4, Result.andThen_ok]
    have heq : ∀ b : Bool, (b = true ↔ xs[s] = ys[s]) → (Op.equalIn (d + 1) e cx[s] cy[s]).run P w = .ok b w := by
      intro b hb
      rcases hsc with ⟨k, hu, rfl⟩ | ⟨hu, rfl⟩
      · have q1 := e1.1
        have q2 := e2.1
        simp only [List.cons.injEq, and_true] at q1 q2
        rw [q1, q2]
        simp only [Op.equalIn, Sem.run_bind, run_underlying hu, Result.andThen_ok, if_true, Sem.run_pure]
        congr 1
        rw [Bool.eq_iff_iff, hb]; simp
      · have q1 : [cx[s]] = [Value.bool xs[s]] := e1
        have q2 : [cy[s]] = [Value.bool ys[s]] := e2
        simp only [List.cons.injEq, and_true] at q1 q2
        rw [q1, q2]
        simp only [Op.equalIn, Sem.run_bind, run_underlying hu, Result.andThen_ok, Sem.run_pure]
        congr 1
        rw [Bool.eq_iff_iff, hb]; simp
    by_cases hh : xs[s] = ys[s]
    · rw [heq true (by simp [hh])]
      simp only [Result.andThen_ok, Bool.not_true, Bool.false_eq_true, if_false]
      exact run_eqItems hsc d hc m (s + 1) xs ys cx cy r hx' hy' (hr.trans (by rw [hd1, hd2, hh, List.cons.injEq]; simp only [true_and]))
    · rw [heq false (by simp [hh])]
      have : r = false := by
        rw [Bool.eq_false_iff]; intro hrt; rw [hr, hd1, hd2] at hrt; exact hh (List.cons.inj hrt).1
      simp [this]

theorem equalIn_sound : ∀ (d : Nat) (t : TypeId) (x y : AV) (a b : Value) (r : Bool), eqTy P d t x = true → eqTy P d t y = true → aeq x y = some r → VV F L w x a → VV F L w y b →
    ∀ n, d < n → (Op.equalIn n t a b).run P w = .ok r w
  | 0, _, _, _, _, _, _, h, _, _, _, _, _, _ => by simp [eqTy] at h
  | d + 1, t, x, y, a, b, r, hx, hy, he, ha, hb, n, hn => by
    obtain ⟨n, rfl⟩ : ∃ m, n = m + 1 := ⟨n - 1, by omega⟩
    cases hu : P.underlying t with
    | none => simp [eqTy, hu] at hx
    | some k =>
      cases k
      case int k =>
        cases x <;> simp only [eqTy, hu, Bool.false_eq_true] at hx
        cases y <;> simp only [eqTy, hu, Bool.false_eq_true] at hy
        obtain rfl := (VV_int ha).1
        obtain rfl := (VV_int hb).1
        simp only [aeq] at he
        split at he
        · rename_i h; subst h; cases he
          simp [Op.equalIn, run_underlying hu]
        · cases he
      case bool =>
        cases x <;> simp only [eqTy, hu, Bool.false_eq_true] at hx
        cases y <;> simp only [eqTy, hu, Bool.false_eq_true] at hy
        obtain rfl := VV_bool ha
        obtain rfl := VV_bool hb
        simp only [aeq, Option.some.injEq] at he
        subst he
        simp [Op.equalIn, run_underlying hu]
      case string =>
        cases x <;> simp only [eqTy, hu, Bool.false_eq_true] at hx
        cases y <;> simp only [eqTy, hu, Bool.false_eq_true] at hy
        obtain rfl := VV_str ha
        obtain rfl := VV_str hb
        simp only [aeq, Option.some.injEq] at he
        subst he
        simp [Op.equalIn, run_underlying hu]
      case array m e =>
        cases x <;> simp only [eqTy, hu, Bool.false_eq_true] at hx
        cases y <;> simp only [eqTy, hu, Bool.false_eq_true] at hy
        rename_i n1 K1 xs n2 K2 ys
        simp only [Bool.and_eq_true, beq_iff_eq] at hx hy
        obtain ⟨⟨rfl, hk1⟩, hc⟩ := hx
        obtain ⟨⟨h2, hk2⟩, _⟩ := hy
        subst h2
        simp only [aeq, if_true] at he
        split at he
        · rename_i zs hz
          obtain ⟨rfl, rfl⟩ := castL_some hz
          simp only [VV, AV.isAgg, cond_true, VR] at ha hb
          obtain ⟨cx, rfl, rx⟩ := ha
          obtain ⟨cy, rfl, ry⟩ := hb
          have hsc : (∃ k, P.underlying e = some (.int k) ∧ K2 = .int k) ∨ (P.underlying e = some .bool ∧ K2 = .bool) := by
            cases hue : P.underlying e with
            | none => simp [hue] at hk1
            | some ke =>
              cases ke <;> simp only [hue, Bool.false_eq_true] at hk1 <;> cases K2 <;> simp only [Bool.false_eq_true] at hk1
              · exact .inr ⟨rfl, rfl⟩
              · exact .inl ⟨_, rfl, by rw [eq_of_beq hk1]⟩
          obtain ⟨i, hi⟩ : ∃ i, P.info? e = some i := by
            rcases hsc with ⟨k, hue, _⟩ | ⟨hue, _⟩ <;> exact info_of_underlying hue
          rw [run_equalIn_array w n _ _ hu hi]
          obtain ⟨n, rfl⟩ : ∃ q, n = q + 1 := ⟨n - 1, by omega⟩
          rw [List.range_eq_range']
          refine run_eqItems (F := F) hsc n hc m 0 _ _ cx cy r (by rw [Nat.zero_add]; exact rx) (by rw [Nat.zero_add]; exact ry) ?_
          rcases hsc with ⟨k, hue, rfl⟩ | ⟨hue, rfl⟩ <;> (simp only [Option.some.injEq] at he; subst he; simp)
        · cases he
      case struct fs =>
        simp only [eqTy, hu, Bool.and_eq_true, Bool.not_eq_true'] at hx hy
        obtain ⟨hst, hx⟩ := hx
        obtain ⟨_, hy⟩ := hy
        have hfs : P.fieldsOf t = fs := by simp [Program.fieldsOf, hu]
        have hxa : x.isAgg = true ∧ x.plain = true := by
          cases x <;> first | exact ⟨rfl, rfl⟩ | (cases hf : fs.toList <;> simp [hf, eqTy.eqFs] at hx)
        have hya : y.isAgg = true ∧ y.plain = true := by
          cases y <;> first | exact ⟨rfl, rfl⟩ | (cases hf : fs.toList <;> simp [hf, eqTy.eqFs] at hy)
        rw [VV_plain hxa.2, hxa.1, cond_true] at ha
        rw [VV_plain hya.2, hya.1, cond_true] at hb
        obtain ⟨cx, rfl, rx⟩ := ha
        obtain ⟨cy, rfl, ry⟩ := hb
        rw [run_equalIn_struct (P := P) w n t _ _ (by rw [hfs]; exact hu) hst, hfs]
        have key : ∀ (fs : List Field) (x y : AV) (pre pre' cx cy : List Value) (r : Bool), eqTy.eqFs P (fun t v => eqTy P d t v) pre.length fs x = true → eqTy.eqFs P (fun t v => eqTy P d t v) pre'.length fs y = true → pre.length = pre'.length →
            aeq x y = some r → VR F L w x cx → VR F L w y cy → (Op.eqFields n (pre ++ cx).toArray (pre' ++ cy).toArray fs).run P w = .ok r w := by
          intro fs
          induction fs with
          | nil =>
            intro x y pre pre' cx cy r h1 h2 _ h3 h4 h5
            cases x <;> simp only [eqTy.eqFs, Bool.false_eq_true] at h1
            cases y <;> simp only [eqTy.eqFs, Bool.false_eq_true] at h2
            simp only [aeq, Option.some.injEq] at h3
            subst h3; rfl
          | cons f fs ih =>
            intro x y pre pre' cx cy r h1 h2 hpre h3 h4 h5
            cases x <;> simp only [eqTy.eqFs, Bool.false_eq_true] at h1
            cases y <;> simp only [eqTy.eqFs, Bool.false_eq_true] at h2
            rename_i x1 x2 y1 y2
            simp only [Bool.and_eq_true, bne_iff_ne, ne_eq, beq_iff_eq] at h1 h2
            obtain ⟨⟨⟨⟨n1, n2⟩, n3⟩, n4⟩, n5⟩ := h1
            obtain ⟨⟨⟨⟨m1, m2⟩, m3⟩, m4⟩, m5⟩ := h2
            simp only [aeq] at h3
            split at h3
            · rename_i r1 r2 hr1 hr2
              cases h3
              simp only [VR] at h4 h5
              obtain ⟨c1, c2, rfl, v1, v2⟩ := h4
              obtain ⟨d1, d2, rfl, w1, w2⟩ := h5
              obtain ⟨k1, u1, g1, p1⟩ := eqTy_agg n4
              obtain ⟨k2, u2, g2, p2⟩ := eqTy_agg m4
              obtain ⟨va, ra, ea⟩ := run_part_at (P := P) (pre := pre) (post := c2) u1 g1 n3 v1
              obtain ⟨vb, rb, eb⟩ := run_part_at (P := P) (pre := pre') (post := d2) u2 g2 m3 w1
              have hq := equalIn_sound d f.type x1 y1 va vb r1 n4 m4 hr1 ea eb n (by omega)
              have hz := VR_size x1 c1 v1
              have hz' := VR_size y1 d1 w1
              have ih' := ih x2 y2 (pre ++ c1) (pre' ++ d1) c2 d2 r2 (by rw [List.length_append, hz]; exact n5) (by rw [List.length_append, hz']; exact m5) (by rw [List.length_append, List.length_append, hz, hz', hpre, ← n3, ← m3]) hr2 v2 w2
              simp only [Op.eqFields, ne_eq, n1, not_false_eq_true, if_true, Sem.run_bind]
              rw [n2, ra]
              simp only [Result.andThen_ok]
              rw [hpre, rb]
              simp only [Result.andThen_ok, hq]
              cases r1
              · simp
              · simpa using ih'
            · cases h3
        exact key fs.toList x y [] [] cx cy r hx hy rfl he rx ry
      all_goals simp [eqTy, hu] at hx

end
end Go.Proofs.Ytkmeimhapokdlaa.Ae
