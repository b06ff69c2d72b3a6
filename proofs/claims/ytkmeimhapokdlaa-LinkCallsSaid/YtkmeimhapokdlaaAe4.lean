/- Reading data out of values, parts of values, zero values: what the evaluator does is what the cells say. Lemmas alone. -/
import Derived.Test.YtkmeimhapokdlaaAe3
import Derived.Laws.Sem
import Derived.Laws.World
import Derived.Laws.Cells
import Derived.Laws.IdiomCopy
import Derived.ChangeKeysEq
set_option linter.unusedVariables false
set_option linter.unusedSimpArgs false
namespace Go.Proofs.Ytkmeimhapokdlaa.Ae
open Go

theorem castL_some {K K' : Kd} {xs : List K.T} {ys : List K'.T} (h : Kd.castL K K' xs = some ys) : ∃ e : K = K', ys = e ▸ xs := by
  unfold Kd.castL at h
  split at h
  · rename_i e; exact ⟨e, (Option.some.inj h).symm⟩
  · cases h

theorem RK_one {F : FS} {w : World} : ∀ (K : Kd) (x : K.T) (cs : List Value), RK F w K x cs → ∀ v ∈ cs, v.oneCell' = true
  | .int _, _, _, h => by rw [h.1]; simp [Value.oneCell']
  | .bool, _, _, h => by rw [show _ = _ from h]; simp [Value.oneCell']
  | .str, _, _, h => by rw [show _ = _ from h]; simp [Value.oneCell']
  | .arr n e, xs, cs, h => by
    intro v hv
    obtain ⟨i, hi, rfl⟩ := List.getElem_of_mem hv
    have h1 : i < xs.length := by rw [h.1.1, ← h.2.1]; exact hi
    exact RK_one e xs[i] [cs[i]] (h.2.2 i xs[i] cs[i] (List.getElem?_eq_getElem h1) (List.getElem?_eq_getElem hi)) _ (by simp)
  | .sl e, xs, cs, ⟨a, c, h1, _⟩ => by rw [h1]; simp [Value.oneCell']
  | .nil, _, _, h => by rw [show _ = _ from h]; simp
  | .cons a b, x, cs, ⟨c1, c2, h1, h2, h3⟩ => by
    intro v hv
    rw [h1, List.mem_append] at hv
    exact hv.elim (RK_one a _ _ h2 v) (RK_one b _ _ h3 v)

theorem VR_one {F : FS} {L : LM} {w : World} : ∀ (a : AV) (cs : List Value), VR F L w a cs → ∀ v ∈ cs, v.oneCell' = true
  | .undef, _, h => by simp only [VR] at h
  | .dead, _, h => by simp only [VR] at h; obtain ⟨v, rfl, h⟩ := h; simpa using h
  | .int _ _, _, h => by simp only [VR] at h; rw [h.1]; simp [Value.oneCell']
  | .bool _, _, h | .str _, _, h | .nilp, _, h | .nils, _, h | .nilm, _, h | .nilf, _, h | .nili, _, h | .nil, _, h => by simp only [VR] at h; rw [h]; simp [Value.oneCell']
  | .ptr id i p, _, h => by simp only [VR] at h; obtain ⟨_, _, _, _, _, _, _, _, _, h⟩ := h; rw [h]; simp [Value.oneCell']
  | .rptr K xs i p, _, h => by simp only [VR] at h; obtain ⟨_, _, _, _, _, _, _, _, h⟩ := h; rw [h]; simp [Value.oneCell']
  | .rs K xs nn full, _, h => by simp only [VR] at h; obtain ⟨_, _, h, _⟩ := h; rw [h]; simp [Value.oneCell']
  | .hs id off len, _, h => by simp only [VR] at h; obtain ⟨_, _, _, _, h, _⟩ := h; rw [h]; simp [Value.oneCell']
  | .hw id, _, h => by simp only [VR] at h; obtain ⟨_, _, _, _, h, _⟩ := h; rw [h]; simp [Value.oneCell']
  | .mapv id, _, h => by simp only [VR] at h; obtain ⟨_, _, _, _, _, h⟩ := h; rw [h]; simp [Value.oneCell']
  | .fn f a b, _, h => by simp only [VR] at h; obtain ⟨_, _, h, _⟩ := h; rw [h]; simp [Value.oneCell']
  | .iface t v, _, h => by simp only [VR] at h; obtain ⟨_, h, _⟩ := h; rw [h]; simp [Value.oneCell']
  | .cons a b, _, h => by
    simp only [VR] at h
    obtain ⟨c1, c2, h1, h2, h3⟩ := h
    intro v hv
    rw [h1, List.mem_append] at hv
    exact hv.elim (VR_one a _ h2 v) (VR_one b _ h3 v)
  | .arr n K xs, cs, h => by simp only [VR] at h; exact RK_one (.arr n K) xs cs h
  | .tup _, _, h => by simp only [VR] at h

/-- The blocks of these rows. -/
def rowF (L : LM) (ids : List Nat) (b : Nat) : Prop := ∃ id ∈ ids, ∃ l o, L id = some l ∧ l.at_ = some (b, o)

theorem rowF_mono {L : LM} {a b : List Nat} (h : ∀ i ∈ a, i ∈ b) {x : Nat} : rowF L a x → rowF L b x := fun ⟨i, hi, r⟩ => ⟨i, h i hi, r⟩

theorem Rows_RK {F F' : FS} {w : World} {K : Kd} {xs : List K.T} {a : Option Addr} {c : Nat} (hF : ∀ b, F b → F' b) (h1 : xs.length ≤ c) (h2 : capOk a c)
    (h3 : xs = [] ∨ ∃ b o, a = some ⟨b, o, none⟩ ∧ F' b ∧ Rows F w K xs b o) : RK F' w (.sl K) xs [.slice a xs.length c] :=
  ⟨a, c, rfl, h1, h2, h3.imp (fun h => h) fun ⟨b, o, e1, e2, e3⟩ => ⟨b, o, e1, e2, fun i x hx => by
    obtain ⟨cs, q1, q2⟩ := e3 i x hx
    exact ⟨cs, q1, RK_mono hF (WL.refl F w) K x cs q2⟩⟩⟩

theorem dec_RK {F : FS} {L : LM} {hp : Hp} {w : World} {B0 : FS} (hh : HR F L hp w B0) : ∀ (K : Kd) (v : AV) (x : K.T) (cs : List Value), dec hp K v = some x → VR F L w v cs →
    RK (fun b => F b ∨ rowF L v.rows b) w K x cs
  | .int k, v, x, cs, hd, h => by
    cases v <;> simp only [dec, reduceCtorEq] at hd
    split at hd
    · rename_i e; subst e; cases hd; simpa only [VR, RK] using h
    · cases hd
  | .bool, v, x, cs, hd, h => by
    cases v <;> simp only [dec, reduceCtorEq] at hd
    cases hd; simpa only [VR, RK] using h
  | .str, v, x, cs, hd, h => by
    cases v <;> simp only [dec, reduceCtorEq] at hd
    cases hd; simpa only [VR, RK] using h
  | .arr n e, v, x, cs, hd, h => by
    cases v <;> simp only [dec, reduceCtorEq] at hd
    split at hd
    · rename_i e; subst e
      obtain ⟨rfl, rfl⟩ := castL_some hd
      simp only [VR] at h
      exact RK_mono (fun _ => .inl) (WL.refl F w) _ _ _ h
    · cases hd
  | .nil, v, x, cs, hd, h => by
    cases v <;> simp only [dec, reduceCtorEq] at hd
    simpa only [VR, RK] using h
  | .cons a b, v, x, cs, hd, h => by
    cases v <;> simp only [dec, reduceCtorEq] at hd
    rename_i p q
    split at hd
    · rename_i u hu
      split at hd
      · rename_i y hy
        cases hd
        simp only [VR] at h
        obtain ⟨c1, c2, h1, h2, h3⟩ := h
        refine ⟨c1, c2, h1, RK_mono ?_ (WL.refl _ w) _ _ _ (dec_RK hh a p u c1 hu h2), RK_mono ?_ (WL.refl _ w) _ _ _ (dec_RK hh b q y c2 hy h3)⟩
        · exact fun z hz => hz.imp (fun h => h) (rowF_mono fun i hi => by simp [AV.rows, hi])
        · exact fun z hz => hz.imp (fun h => h) (rowF_mono fun i hi => by simp [AV.rows, hi])
      · cases hd
    · cases hd
  | .sl e, v, x, cs, hd, h => by
    cases v <;> simp only [dec, reduceCtorEq] at hd
    case nils =>
      obtain rfl := Option.some.inj hd
      simp only [VR] at h
      exact ⟨none, 0, h, by simp, ⟨by omega, fun _ => rfl⟩, .inl rfl⟩
    case rs K ys nn full =>
      obtain ⟨rfl, rfl⟩ := castL_some hd
      simp only [VR] at h
      obtain ⟨a, c, h1, h2, h3, h4, _⟩ := h
      rw [h1]
      exact Rows_RK (fun _ => .inl) h2 h3 (h4.imp (fun h => h) fun ⟨b, o, e1, e2, e3⟩ => ⟨b, o, e1, .inl e2, e3⟩)
    case hs id off len =>
      split at hd
      · rename_i K ys hrow
        obtain ⟨rfl, rfl⟩ := castL_some hd
        obtain ⟨l, hl, hb, hat⟩ := hh.blk id _ hrow
        obtain ⟨b1, b2, b3, b4⟩ := hb
        simp only [VR] at h
        obtain ⟨l', a, c, h1, h2, h3, h4, h5, h6⟩ := h
        rw [hl] at h1
        cases h1
        have hlen : ((ys.drop off).take len).length = len := by simp; omega
        rw [h2]
        have := Rows_RK (F := F) (F' := fun b => F b ∨ rowF L (AV.hs id off len).rows b) (w := w) (K := K) (xs := (ys.drop off).take len) (a := a) (c := c) (fun _ => .inl) (by rw [hlen]; exact h3) ⟨h4, fun hn => h6.elim (fun h => h) fun ⟨b, o, _, e, _⟩ => by rw [hn] at e; cases e⟩ ?_
        · rw [hlen] at this; exact this
        · rcases h6 with h6 | ⟨b, o, e1, e2, e3⟩
          · left; subst h6; apply List.eq_nil_of_length_eq_zero; omega
          · right
            refine ⟨b, o + off * l.sh.size, e2, .inr ⟨id, by simp [AV.rows], l, o, hl, e1⟩, ?_⟩
            intro i x hx
            have hx' : ys[off + i]? = some x := by
              rw [List.getElem?_take] at hx
              split at hx
              · rwa [List.getElem?_drop] at hx
              · cases hx
            obtain ⟨cs', q1, q2⟩ := (b4 b o e1).2 (off + i) x hx'
            refine ⟨cs', ?_, q2⟩
            have : o + off * l.sh.size + i * K.size = o + (off + i) * K.size := by rw [b2, Kd.sh_size, Nat.add_mul]; omega
            rw [this]; exact q1
      · cases hd
    case hw id =>
      split at hd
      · rename_i K ys hrow
        obtain ⟨rfl, rfl⟩ := castL_some hd
        obtain ⟨l, hl, hb, hat⟩ := hh.blk id _ hrow
        obtain ⟨b1, b2, b3, b4⟩ := hb
        simp only [VR] at h
        obtain ⟨l', a, c, h1, h2, h3, h4, h6⟩ := h
        rw [hl] at h1
        cases h1
        rw [h2, b1]
        refine Rows_RK (F := F) (fun _ => .inl) (by omega) ⟨h4, fun hn => h6.elim (fun h => h) fun ⟨b, o, _, e, _⟩ => by rw [hn] at e; cases e⟩ ?_
        rcases h6 with h6 | ⟨b, o, e1, e2, e3⟩
        · left; apply List.eq_nil_of_length_eq_zero; omega
        · exact .inr ⟨b, o, e2, .inr ⟨id, by simp [AV.rows], l, o, hl, e1⟩, (b4 b o e1).2⟩
      · cases hd

theorem dec_none_rows : ∀ (K : Kd) (v : AV) (x : K.T), dec (fun _ => none) K v = some x → v.rows = []
  | .int k, v, x, hd => by cases v <;> simp only [dec, reduceCtorEq] at hd; rfl
  | .bool, v, x, hd => by cases v <;> simp only [dec, reduceCtorEq] at hd; rfl
  | .str, v, x, hd => by cases v <;> simp only [dec, reduceCtorEq] at hd; rfl
  | .arr n e, v, x, hd => by cases v <;> simp only [dec, reduceCtorEq] at hd; rfl
  | .nil, v, x, hd => by cases v <;> simp only [dec, reduceCtorEq] at hd; rfl
  | .cons a b, v, x, hd => by
    cases v <;> simp only [dec, reduceCtorEq] at hd
    rename_i p q
    split at hd
    · rename_i u hu
      split at hd
      · rename_i y hy
        simp [AV.rows, dec_none_rows a p u hu, dec_none_rows b q y hy]
      · cases hd
    · cases hd
  | .sl e, v, x, hd => by
    cases v <;> simp only [dec, reduceCtorEq] at hd <;> rfl

theorem HR_none {F : FS} {L : LM} {w : World} (hf : ∀ b, F b → b < w.heap.size) : HR F L (fun _ => none) w (fun _ => True) :=
  ⟨fun _ _ h => (by cases h), fun _ _ _ _ _ _ _ _ h => absurd rfl h, hf⟩

theorem dec_none_RK {F : FS} {L : LM} {w : World} {K : Kd} {v : AV} {x : K.T} {cs : List Value} (hf : ∀ b, F b → b < w.heap.size) (hd : dec (fun _ => none) K v = some x) (h : VR F L w v cs) : RK F w K x cs := by
  have := dec_RK (HR_none (L := L) hf) K v x cs hd h
  rw [dec_none_rows K v x hd] at this
  exact RK_mono (fun b hb => hb.elim (fun h => h) fun ⟨i, hi, _⟩ => by cases hi) ⟨Nat.le_refl _, fun _ => Nat.le_refl _, fun _ _ => rfl⟩ _ _ _ this

/-! ### Parts -/
theorem VR_getF {F : FS} {L : LM} {w : World} : ∀ (v : AV) (f : Nat) (u : AV) (cs : List Value), VR F L w v cs → v.getF f = some u →
    ∃ o c1 c2 c3, v.sh.field f = some (o, u.sh) ∧ cs = c1 ++ (c2 ++ c3) ∧ c1.length = o ∧ VR F L w u c2
  | .cons a b, 0, u, cs, h, hg => by
    simp only [AV.getF, Option.some.injEq] at hg
    subst hg
    simp only [VR] at h
    obtain ⟨c1, c2, h1, h2, h3⟩ := h
    exact ⟨0, [], c1, c2, rfl, by simpa using h1, rfl, h2⟩
  | .cons a b, f + 1, u, cs, h, hg => by
    simp only [AV.getF] at hg
    simp only [VR] at h
    obtain ⟨c1, c2, h1, h2, h3⟩ := h
    obtain ⟨o, d1, d2, d3, e1, e2, e3, e4⟩ := VR_getF b f u c2 h3 hg
    refine ⟨a.sh.size + o, c1 ++ d1, d2, d3, ?_, ?_, ?_, e4⟩
    · simp only [AV.sh, Sh.field, e1]
    · rw [h1, e2]; simp
    · rw [List.length_append, VR_size a c1 h2, e3, AV.sh_size]
  | .undef, _, _, _, _, hg | .dead, _, _, _, _, hg | .int _ _, _, _, _, _, hg | .bool _, _, _, _, _, hg | .str _, _, _, _, _, hg | .nilp, _, _, _, _, hg | .ptr _ _ _, _, _, _, _, hg | .rptr _ _ _ _, _, _, _, _, hg | .nils, _, _, _, _, hg
  | .rs _ _ _ _, _, _, _, _, hg | .hs _ _ _, _, _, _, _, hg | .hw _, _, _, _, _, hg | .nilm, _, _, _, _, hg | .mapv _, _, _, _, _, hg | .nilf, _, _, _, _, hg | .fn _ _ _, _, _, _, _, hg | .nili, _, _, _, _, hg | .iface _ _, _, _, _, _, hg
  | .nil, _, _, _, _, hg | .arr _ _ _, _, _, _, _, hg | .tup _, _, _, _, _, hg => by simp [AV.getF] at hg

theorem VR_setF {F : FS} {L : LM} {w : World} : ∀ (v : AV) (f : Nat) (u t v' : AV) (cs : List Value), VR F L w v cs → v.getF f = some u → v.setF f t = some v' → t.sh = u.sh →
    ∃ o c1 c2 c3, v.sh.field f = some (o, u.sh) ∧ cs = c1 ++ (c2 ++ c3) ∧ c1.length = o ∧ VR F L w u c2 ∧ v'.sh = v.sh ∧ ∀ c', VR F L w t c' → VR F L w v' (c1 ++ (c' ++ c3))
  | .cons a b, 0, u, t, v', cs, h, hg, hs, ht => by
    simp only [AV.getF, AV.setF, Option.some.injEq] at hg hs
    subst hg hs
    simp only [VR] at h
    obtain ⟨c1, c2, h1, h2, h3⟩ := h
    refine ⟨0, [], c1, c2, rfl, by simpa using h1, rfl, h2, by simp only [AV.sh, ht], fun c' hc => ?_⟩
    simp only [VR]
    exact ⟨c', c2, by simp, hc, h3⟩
  | .cons a b, f + 1, u, t, v', cs, h, hg, hs, ht => by
    simp only [AV.getF, AV.setF] at hg hs
    split at hs
    · rename_i b' hb
      cases hs
      simp only [VR] at h
      obtain ⟨c1, c2, h1, h2, h3⟩ := h
      obtain ⟨o, d1, d2, d3, e1, e2, e3, e4, e5, e6⟩ := VR_setF b f u t b' c2 h3 hg hb ht
      refine ⟨a.sh.size + o, c1 ++ d1, d2, d3, ?_, ?_, ?_, e4, ?_, fun c' hc => ?_⟩
      · simp only [AV.sh, Sh.field, e1]
      · rw [h1, e2]; simp
      · rw [List.length_append, VR_size a c1 h2, e3, AV.sh_size]
      · simp only [AV.sh, e5]
      · simp only [VR]
        exact ⟨c1, d1 ++ (c' ++ d3), by simp, h2, e6 c' hc⟩
    · cases hs
  | .undef, _, _, _, _, _, _, hg, _, _ | .dead, _, _, _, _, _, _, hg, _, _ | .int _ _, _, _, _, _, _, _, hg, _, _ | .bool _, _, _, _, _, _, _, hg, _, _ | .str _, _, _, _, _, _, _, hg, _, _ | .nilp, _, _, _, _, _, _, hg, _, _ | .ptr _ _ _, _, _, _, _, _, _, hg, _, _
  | .rptr _ _ _ _, _, _, _, _, _, _, hg, _, _ | .nils, _, _, _, _, _, _, hg, _, _ | .rs _ _ _ _, _, _, _, _, _, _, hg, _, _ | .hs _ _ _, _, _, _, _, _, _, hg, _, _ | .hw _, _, _, _, _, _, _, hg, _, _ | .nilm, _, _, _, _, _, _, hg, _, _
  | .mapv _, _, _, _, _, _, _, hg, _, _ | .nilf, _, _, _, _, _, _, hg, _, _ | .fn _ _ _, _, _, _, _, _, _, hg, _, _ | .nili, _, _, _, _, _, _, hg, _, _ | .iface _ _, _, _, _, _, _, _, hg, _, _ | .nil, _, _, _, _, _, _, hg, _, _
  | .arr _ _ _, _, _, _, _, _, _, hg, _, _ | .tup _, _, _, _, _, _, _, hg, _, _ => by simp [AV.getF] at hg

theorem field_arr (n f : Nat) : (Sh.arr n).field f = none := by cases f <;> rfl

theorem split_at {l : List Value} {i : Nat} {v : Value} (h : l[i]? = some v) : l = l.take i ++ ([v] ++ l.drop (i + 1)) := by
  obtain ⟨hi, rfl⟩ := List.getElem?_eq_some_iff.1 h
  simp

theorem getP_cons (v : AV) (f : Nat) (p : List Nat) (hv : ∀ n K xs, v ≠ .arr n K xs) : v.getP (f :: p) = match v.getF f with | some u => u.getP p | none => none := by
  cases v <;> first | (cases p <;> rfl) | exact absurd rfl (hv _ _ _)

theorem setP_cons (v t : AV) (f : Nat) (p : List Nat) (hv : ∀ n K xs, v ≠ .arr n K xs) : v.setP (f :: p) t = match v.getF f with | some u => (match u.setP p t with | some t' => v.setF f t' | none => none) | none => none := by
  cases v <;> first | (cases p <;> rfl) | exact absurd rfl (hv _ _ _)

theorem at_cons (s : Sh) (f : Nat) (p : List Nat) (hv : ∀ n, s ≠ .arr n) : s.at (f :: p) = match s.field f with | some (o, t) => (match t.at p with | some (o', u) => some (o + o', u) | none => none) | none => none := by
  cases s <;> first | (cases p <;> rfl) | exact absurd rfl (hv _)

theorem sh_arr {v : AV} {n : Nat} (h : v.sh = .arr n) : ∃ K xs, v = .arr n K xs := by
  cases v <;> simp only [AV.sh, reduceCtorEq, Sh.arr.injEq] at h
  subst h; exact ⟨_, _, rfl⟩

theorem VR_getP {F : FS} {L : LM} {w : World} : ∀ (p : List Nat) (v u : AV) (cs : List Value) (d : Nat) (s : Sh), VR F L w v cs → v.getP p = some u → v.sh.at p = some (d, s) →
    u.sh = s ∧ ∃ c1 c2 c3, cs = c1 ++ (c2 ++ c3) ∧ c1.length = d ∧ VR F L w u c2
  | [], v, u, cs, d, s, h, hg, hs => by
    have hg : some v = some u := by cases v <;> exact hg
    have hs : some (0, v.sh) = some (d, s) := by cases hv : v.sh <;> (rw [hv] at hs; exact hs)
    cases hg; cases hs
    exact ⟨rfl, [], cs, [], by simp, rfl, h⟩
  | f :: p, v, u, cs, d, s, h, hg, hs => by
    by_cases harr : ∃ n K xs, v = .arr n K xs
    · obtain ⟨n, K, xs, rfl⟩ := harr
      cases p with
      | nil =>
        simp only [AV.getP, AV.sh, Sh.at] at hg hs
        split at hs
        · rename_i hlt
          cases hg; cases hs
          simp only [VR] at h
          obtain ⟨h1, h2, h3⟩ := h
          have hx : xs[f]? = some (xs.getD f K.z) := by
            rw [List.getD_eq_getElem?_getD, List.getElem?_eq_getElem (by omega)]; rfl
          have hv : ∃ v, cs[f]? = some v := ⟨cs[f]'(by omega), List.getElem?_eq_getElem (by omega)⟩
          obtain ⟨v, hv⟩ := hv
          have hr := h3 f _ v hx hv
          refine ⟨?_, cs.take f, [v], cs.drop (f + 1), split_at hv, by simp; omega, VR_enc K _ _ hr⟩
          rw [enc_sh, h1.2]
        · cases hs
      | cons g q => simp [AV.getP, AV.getF] at hg
    · have hg' := hg
      rw [getP_cons v f p (fun n K xs h => harr ⟨n, K, xs, h⟩)] at hg'
      have hs' := hs
      rw [at_cons v.sh f p (fun n h => harr ⟨n, sh_arr h⟩)] at hs'
      split at hg'
      · rename_i t ht
        obtain ⟨o, c1, c2, c3, e1, e2, e3, e4⟩ := VR_getF v f t cs h ht
        rw [e1] at hs'
        simp only at hs'
        rcases hq : t.sh.at p with _ | ⟨o', s'⟩
        · rw [hq] at hs'; cases hs'
        · rw [hq] at hs'
          cases hs'
          obtain ⟨g1, d1, d2, d3, g2, g3, g4⟩ := VR_getP p t u c2 o' _ e4 hg' hq
          exact ⟨g1, c1 ++ d1, d2, d3 ++ c3, by rw [e2, g2]; simp, by simp [e3, g3], g4⟩
      · cases hg'

theorem list_set_split {l : List Value} {i : Nat} {v : Value} (h : i < l.length) : l.set i v = l.take i ++ ([v] ++ l.drop (i + 1)) := by
  rw [List.set_eq_take_append_cons_drop, if_pos h]; rfl

theorem VR_setP {F : FS} {L : LM} {w : World} (hf : ∀ b, F b → b < w.heap.size) : ∀ (p : List Nat) (v u t v' : AV) (cs : List Value) (d : Nat) (s : Sh), VR F L w v cs → v.getP p = some u → v.setP p t = some v' → t.sh = u.sh → v.sh.at p = some (d, s) →
    ∃ c1 c2 c3, cs = c1 ++ (c2 ++ c3) ∧ c1.length = d ∧ VR F L w u c2 ∧ v'.sh = v.sh ∧ ∀ c', VR F L w t c' → VR F L w v' (c1 ++ (c' ++ c3))
  | [], v, u, t, v', cs, d, s, h, hg, hs, ht, ha => by
    have hg : some v = some u := by cases v <;> exact hg
    have hs : some t = some v' := by cases v <;> exact hs
    have ha : some (0, v.sh) = some (d, s) := by cases hv : v.sh <;> (rw [hv] at ha; exact ha)
    cases hg; cases hs; cases ha
    exact ⟨[], cs, [], by simp, rfl, h, ht, fun c' hc => by simpa using hc⟩
  | f :: p, v, u, t, v', cs, d, s, h, hg, hs, ht, ha => by
    by_cases harr : ∃ n K xs, v = .arr n K xs
    · obtain ⟨n, K, xs, rfl⟩ := harr
      cases p with
      | nil =>
        simp only [AV.getP, AV.sh, Sh.at] at hg ha
        simp only [AV.setP] at hs
        split at hs
        · rename_i x hx
          cases hs
          split at ha
          · rename_i hlt
            cases hg; cases ha
            simp only [VR] at h
            obtain ⟨h1, h2, h3⟩ := h
            have hxs : xs[f]? = some (xs.getD f K.z) := by
              rw [List.getD_eq_getElem?_getD, List.getElem?_eq_getElem (by omega)]; rfl
            obtain ⟨v, hv⟩ : ∃ v, cs[f]? = some v := ⟨cs[f]'(by omega), List.getElem?_eq_getElem (by omega)⟩
            refine ⟨cs.take f, [v], cs.drop (f + 1), split_at hv, by simp; omega, VR_enc K _ _ (h3 f _ v hxs hv), rfl, fun c' hc => ?_⟩
            have hr := dec_none_RK hf hx hc
            have hl : c'.length = 1 := by rw [VR_size t c' hc, ← AV.sh_size, ht, enc_sh, h1.2]; rfl
            obtain ⟨y, rfl⟩ := List.length_eq_one_iff.1 hl
            rw [← list_set_split (by omega)]
            simp only [VR]
            refine ⟨⟨by simp [h1.1], h1.2⟩, by simp [h2], fun i x' v' q1 q2 => ?_⟩
            rw [List.getElem?_set] at q1 q2
            by_cases hfi : f = i
            · subst hfi
              rw [if_pos rfl, if_pos (by omega)] at q1 q2
              cases q1; cases q2; exact hr
            · rw [if_neg hfi] at q1 q2
              exact h3 i x' v' q1 q2
          · cases ha
        · cases hs
      | cons g q => simp [AV.getP, AV.getF] at hg
    · have hg' := hg
      rw [getP_cons v f p (fun n K xs h => harr ⟨n, K, xs, h⟩)] at hg'
      have hs' := hs
      rw [setP_cons v t f p (fun n K xs h => harr ⟨n, K, xs, h⟩)] at hs'
      have ha' := ha
      rw [at_cons v.sh f p (fun n h => harr ⟨n, sh_arr h⟩)] at ha'
      rcases hgf : v.getF f with _ | r
      · rw [hgf] at hg'; cases hg'
      · rw [hgf] at hg' hs'
        simp only at hg' hs'
        rcases hsp : r.setP p t with _ | r'
        · rw [hsp] at hs'; cases hs'
        · rw [hsp] at hs'
          simp only at hs'
          obtain ⟨o, c1, c2, c3, e1, e2, e3, e4⟩ := VR_getF v f r cs h hgf
          rw [e1] at ha'
          simp only at ha'
          rcases hq : r.sh.at p with _ | ⟨o', s'⟩
          · rw [hq] at ha'; cases ha'
          · rw [hq] at ha'
            cases ha'
            obtain ⟨d1, d2, d3, g2, g3, g4, g5, g6⟩ := VR_setP hf p r u t r' c2 o' _ e4 hg' hsp ht hq
            obtain ⟨o2, b1, b2, b3, f1, f2, f3, f4, f5, f6⟩ := VR_setF v f r r' v' cs h hgf hs' g5
            rw [e1] at f1
            cases f1
            have hb1 : c1 = b1 := by
              have := congrArg (List.take o) (e2.symm.trans f2)
              rw [← e3, List.take_left' rfl, e3, ← f3, List.take_left' rfl] at this
              exact this
            subst hb1
            have hb2 : c2 ++ c3 = b2 ++ b3 := by rw [e2] at f2; exact List.append_cancel_left f2
            have hlen : c2.length = b2.length := by rw [VR_size r c2 e4, VR_size r b2 f4]
            obtain ⟨rfl, rfl⟩ := List.append_inj hb2 hlen
            refine ⟨c1 ++ d1, d2, d3 ++ c3, by rw [e2, g2]; simp, by simp [e3, g3], g4, f5, fun c' hc => ?_⟩
            have := f6 _ (g6 c' hc)
            simpa using this

/-! ### Cells in memory -/
theorem cellsAt_app {w : World} {b o : Nat} {a c : List Value} : cellsAt w b o (a ++ c) ↔ cellsAt w b o a ∧ cellsAt w b (o + a.length) c := by
  constructor
  · intro h
    refine ⟨fun j v hj => h j v ?_, fun j v hj => ?_⟩
    · have := (List.getElem?_eq_some_iff.1 hj).1
      rw [List.getElem?_append_left this]; exact hj
    · have := h (a.length + j) v (by rw [List.getElem?_append_right (by omega)]; simpa using hj)
      rwa [← Nat.add_assoc] at this
  · rintro ⟨h1, h2⟩ j v hj
    by_cases hlt : j < a.length
    · rw [List.getElem?_append_left hlt] at hj; exact h1 j v hj
    · rw [List.getElem?_append_right (by omega)] at hj
      have := h2 _ v hj
      rwa [show o + a.length + (j - a.length) = o + j by omega] at this

theorem addr_add (b o n : Nat) : (⟨b, o, none⟩ : Addr).add n = ⟨b, o + n, none⟩ := by unfold Addr.add; split <;> simp_all

theorem run_loadCells_at {P : Program} {w : World} {b o : Nat} {cs : List Value} (h : cellsAt w b o cs) : (loadCells ⟨b, o, none⟩ cs.length).run P w = .ok cs.toArray w := by
  have := run_loadCells_list (P := P) w ⟨b, o, none⟩ cs (fun j v hj => by rw [addr_add]; exact h j v hj)
  simpa using this

end Go.Proofs.Ytkmeimhapokdlaa.Ae
