/- The operations that leave memory alone: slices, lengths, conversions, calls of builtins. Lemmas alone. -/
import Derived.Test.YtkmeimhapokdlaaAe7
import Derived.Laws.BytesString
import Derived.Laws.BytesArg
set_option linter.unusedVariables false
set_option linter.unusedSimpArgs false
namespace Go.Proofs.Ytkmeimhapokdlaa.Ae
open Go

section
variable {F : FS} {L : LM} {w : World} {P : Program} {hp : Hp} {B0 : FS}

/-- A bound of a slice expression, as a value. -/
def OV (F : FS) (L : LM) (w : World) : Option AV → Option Value → Prop
  | none, none => True
  | some a, some v => VV F L w a v
  | _, _ => False

theorem OV_int {k : IntKind} {n : Int} {v : Value} (h : OV F L w (some (.int k n)) (some v)) : v = .int k n ∧ (Lit.int k n).wf = true := VV_int (F := F) (L := L) (w := w) h

theorem run_sliceBound {k : IntKind} {n : Int} {y : Nat} {c : BoundsCode} (h0 : 0 ≤ n) (h1 : n ≤ y) : (Instr.sliceBound (.int k n) y c).run P w = .ok n.toNat w := by
  simp [Instr.sliceBound, asIntOf, h0, h1]

theorem run_bounds {isS : Bool} {len cap : Nat} {lo hi : Option AV} {vl vh : Option Value} {l h : Nat} (hlo : OV F L w lo vl) (hhi : OV F L w hi vh) (hb : bounds len lo hi = some (true, l, h)) (hc : len ≤ cap) :
    (Instr.sliceBounds isS len cap vl vh none).run P w = .ok (l, h, cap) w ∧ l ≤ h ∧ h ≤ len := by
  unfold bounds at hb
  cases hi with
  | none =>
    cases vh with
    | some v => exact hhi.elim
    | none =>
      simp only at hb
      cases lo with
      | none =>
        cases vl with
        | some v => exact hlo.elim
        | none =>
          simp only [Option.some.injEq, Prod.mk.injEq] at hb
          obtain ⟨_, rfl, rfl⟩ := hb
          exact ⟨by simp [Instr.sliceBounds], by simp, by simp⟩
      | some a =>
        cases vl with
        | none => exact hlo.elim
        | some v =>
          cases a <;> simp only [reduceCtorEq] at hb
          rename_i k n
          obtain ⟨rfl, _⟩ := OV_int hlo
          simp only [Option.some.injEq, Prod.mk.injEq, Bool.and_eq_true, decide_eq_true_eq, Bool.true_and] at hb
          obtain ⟨⟨h0, h1⟩, rfl, rfl⟩ := hb
          refine ⟨?_, by omega, by omega⟩
          simp only [Instr.sliceBounds, Sem.run_bind, Sem.run_pure, Result.andThen_ok, run_sliceBound h0 h1, Int.toNat_natCast]
  | some a =>
    cases vh with
    | none => exact hhi.elim
    | some v =>
      cases a <;> simp only [reduceCtorEq] at hb
      rename_i k n
      obtain ⟨rfl, _⟩ := OV_int hhi
      cases lo with
      | none =>
        cases vl with
        | some v => exact hlo.elim
        | none =>
          simp only [Option.some.injEq, Prod.mk.injEq, Bool.and_eq_true, decide_eq_true_eq, Bool.and_true] at hb
          obtain ⟨⟨h0, h1⟩, rfl, rfl⟩ := hb
          refine ⟨?_, by omega, by omega⟩
          simp only [Instr.sliceBounds, Sem.run_bind, Sem.run_pure, Result.andThen_ok, run_sliceBound h0 (show n ≤ (cap : Int) by omega)]
          rfl
      | some a =>
        cases vl with
        | none => exact hlo.elim
        | some v =>
          cases a <;> simp only [reduceCtorEq] at hb
          rename_i k' m
          obtain ⟨rfl, _⟩ := OV_int hlo
          simp only [Option.some.injEq, Prod.mk.injEq, Bool.and_eq_true, decide_eq_true_eq] at hb
          obtain ⟨⟨⟨h0, h1⟩, h2, h3⟩, rfl, rfl⟩ := hb
          refine ⟨?_, by omega, by omega⟩
          simp only [Instr.sliceBounds, Sem.run_bind, Sem.run_pure, Result.andThen_ok, run_sliceBound h0 (show n ≤ (cap : Int) by omega), run_sliceBound h2 (show m ≤ (n.toNat : Int) by omega)]

theorem Rows_sub {K : Kd} {xs : List K.T} {b o l n : Nat} (h : Rows F w K xs b o) : Rows F w K ((xs.drop l).take n) b (o + l * K.size) := by
  intro i x hx
  rw [List.getElem?_take] at hx
  split at hx
  · rw [List.getElem?_drop] at hx
    obtain ⟨cs, h1, h2⟩ := h (l + i) x hx
    refine ⟨cs, ?_, h2⟩
    rw [Nat.add_assoc, ← Nat.add_mul]; exact h1
  · cases hx

theorem opt_add {a : Option Addr} {b o n : Nat} (h : a = some ⟨b, o, none⟩) : a.map (·.add n) = some ⟨b, o + n, none⟩ := by subst h; simp [addr_add]

theorem slice'_sound (hh : HR F L hp w B0) {t : TypeId} {x v : AV} {lo hi mx : Option AV} {xv : Value} {vl vh vm : Option Value} {Δ : Eff} (hx : VV F L w x xv) (hlo : OV F L w lo vl) (hhi : OV F L w hi vh) (hmx : OV F L w mx vm)
    (h : slice' P hp t x lo hi mx = some (true, v, Δ)) : ∃ u, (Instr.sliceAt t xv vl vh vm).run P w = .ok u w ∧ VV F L w v u ∧ Δ = [] := by
  unfold slice' at h
  split at h
  · rename_i e K xs nn full hu
    cases vm with
    | some v => exact hmx.elim
    | none =>
      split at h
      · rename_i hc
        split at h
        · rename_i c l h' hb
          simp only [Option.some.injEq, Prod.mk.injEq] at h
          obtain ⟨rfl, rfl, rfl⟩ := h
          replace hx := VV_one rfl rfl hx
          simp only [VR, List.cons.injEq, and_true] at hx
          obtain ⟨a, c, rfl, h2, h3, h4, h5, _⟩ := hx
          obtain ⟨hr, b1, b2⟩ := run_bounds (P := P) (isS := true) hlo hhi hb h2
          obtain ⟨ie, hie⟩ := info_of_cells (P := P) (t := e) (by rw [hc.1]; exact hc.2)
          have hlen : ((xs.drop l).take (h' - l)).length = h' - l := by simp; omega
          refine ⟨.slice (if c = l then a else a.map (·.add (l * K.size))) (h' - l) (c - l), ?_, VV_mk1 rfl rfl ?_, rfl⟩
          · simp only [Instr.sliceAt, Sem.run_bind, run_underlying hu, Result.andThen_ok, Instr.slice, hr, run_sizeOf w hie, hc.1, Sem.run_pure]
          · simp only [VR]
            refine ⟨_, _, by rw [hlen], by rw [hlen]; omega, ⟨by have := h3.1; omega, fun hn => by
              split at hn
              · omega
              · have := h3.2 (by simpa using hn); omega⟩, ?_, ?_, by simp⟩
            · by_cases hcl : c = l
              · left; apply List.eq_nil_of_length_eq_zero; rw [hlen]; omega
              · rcases h4 with h4 | ⟨b, o, e1, e2, e3⟩
                · left; rw [h4]; simp
                · right; rw [if_neg hcl]; exact ⟨b, o + l * K.size, opt_add e1, e2, Rows_sub e3⟩
            · intro hnn
              have := h5 hnn
              split
              · exact this
              · simpa using this
        · cases h
      · cases h
  · rename_i e K xs nn full k m hu
    cases vm with
    | none => exact hmx.elim
    | some vm =>
      obtain ⟨rfl, _⟩ := OV_int hmx
      split at h
      · rename_i hc
        split at h
        · rename_i kl kh
          split at h
          · rename_i hm
            cases h
            subst hm
            cases vl with
            | none => exact hlo.elim
            | some vl =>
              cases vh with
              | none => exact hhi.elim
              | some vh =>
                obtain ⟨rfl, _⟩ := OV_int hlo
                obtain ⟨rfl, _⟩ := OV_int hhi
                replace hx := VV_one rfl rfl hx
                simp only [VR, List.cons.injEq, and_true] at hx
                obtain ⟨a, c, rfl, h2, h3, h4, h5, _⟩ := hx
                obtain ⟨ie, hie⟩ := info_of_cells (P := P) (t := e) (by rw [hc.1]; exact hc.2)
                refine ⟨.slice a 0 0, ?_, VV_mk1 rfl rfl ?_, rfl⟩
                · simp [Instr.sliceAt, run_underlying hu, Instr.slice, Instr.sliceBounds, Instr.sliceBound, asIntOf, run_sizeOf w hie]
                · simp only [VR]
                  exact ⟨a, 0, by simp, by simp, ⟨by omega, fun _ => rfl⟩, .inl (by simp), h5, by simp⟩
          · cases h
        · cases h
      · cases h
  · rename_i e hu
    replace hx := VV_one rfl rfl hx
    simp only [VR, List.cons.injEq, and_true] at hx
    subst hx
    split at h
    · rename_i hc
      obtain ⟨ie, hie⟩ := info_of_cells hc
      split at h
      · cases h
        cases vl with
        | none => exact hlo.elim
        | some vl =>
          cases vh with
          | none => exact hhi.elim
          | some vh =>
            cases vm with
            | none => exact hmx.elim
            | some vm =>
              obtain ⟨rfl, _⟩ := OV_int hlo
              obtain ⟨rfl, _⟩ := OV_int hhi
              obtain ⟨rfl, _⟩ := OV_int hmx
              refine ⟨.slice none 0 0, ?_, VV_mk1 rfl rfl (by simp [VR]), rfl⟩
              simp [Instr.sliceAt, run_underlying hu, Instr.slice, Instr.sliceBounds, Instr.sliceBound, asIntOf, run_sizeOf w hie]
      · cases h
        cases vl with
        | some vl => exact hlo.elim
        | none =>
          cases vh with
          | none => exact hhi.elim
          | some vh =>
            cases vm with
            | some _ => exact hmx.elim
            | none =>
              obtain ⟨rfl, _⟩ := OV_int hhi
              refine ⟨.slice none 0 0, ?_, VV_mk1 rfl rfl (by simp [VR]), rfl⟩
              simp [Instr.sliceAt, run_underlying hu, Instr.slice, Instr.sliceBounds, Instr.sliceBound, asIntOf, run_sizeOf w hie]
      · cases h
    · cases h
  · rename_i e id off len hu
    cases vm with
    | some v => exact hmx.elim
    | none =>
      split at h
      · rename_i K xs hb0
        split at h
        · rename_i hc
          split at h
          · rename_i c l h' hb
            simp only [Option.some.injEq, Prod.mk.injEq] at h
            obtain ⟨rfl, rfl, rfl⟩ := h
            replace hx := VV_one rfl rfl hx
            simp only [VR, List.cons.injEq, and_true] at hx
            obtain ⟨lc, a, c, h1, rfl, h2, h3, h4, h5⟩ := hx
            obtain ⟨l', hl', ⟨e1, e2, _⟩, _⟩ := hh.blk id _ hb0
            rw [h1] at hl'; cases hl'
            obtain ⟨hr, b1, b2⟩ := run_bounds (P := P) (isS := true) hlo hhi hb h2
            obtain ⟨ie, hie⟩ := info_of_cells (P := P) (t := e) (by rw [hc.1]; exact hc.2)
            refine ⟨.slice (if c = l then a else a.map (·.add (l * K.size))) (h' - l) (c - l), ?_, VV_mk1 rfl rfl ?_, rfl⟩
            · simp only [Instr.sliceAt, Sem.run_bind, run_underlying hu, Result.andThen_ok, Instr.slice, hr, run_sizeOf w hie, hc.1, Sem.run_pure]
            · simp only [VR]
              refine ⟨lc, _, _, h1, rfl, by omega, by omega, by omega, ?_⟩
              by_cases hcl : c = l
              · left; omega
              · rcases h5 with h5 | ⟨b, o, f1, f2, f3⟩
                · left; omega
                · right
                  refine ⟨b, o, f1, ?_, ?_⟩
                  · rw [if_neg hcl, opt_add f2, e2, Kd.sh_size, Nat.add_mul, Nat.add_assoc]
                  · have : off + l + (c - l) = off + c := by omega
                    rw [this]; exact f3
          · cases h
        · cases h
      · cases h
  · rename_i e id hu
    cases vm with
    | some v => exact hmx.elim
    | none =>
      split at h
      · rename_i K xs hb0
        split at h
        · rename_i hc
          split at h
          · rename_i c l h' hb
            simp only [Option.some.injEq, Prod.mk.injEq] at h
            obtain ⟨rfl, rfl, rfl⟩ := h
            replace hx := VV_one rfl rfl hx
            simp only [VR, List.cons.injEq, and_true] at hx
            obtain ⟨lc, a, c, h1, rfl, h2, h3, h5⟩ := hx
            obtain ⟨l', hl', ⟨e1, e2, _⟩, _⟩ := hh.blk id _ hb0
            rw [h1] at hl'; cases hl'
            rw [← e1] at hb
            obtain ⟨hr, b1, b2⟩ := run_bounds (P := P) (isS := true) hlo hhi hb h2
            obtain ⟨ie, hie⟩ := info_of_cells (P := P) (t := e) (by rw [hc.1]; exact hc.2)
            refine ⟨.slice (if c = l then a else a.map (·.add (l * K.size))) (h' - l) (c - l), ?_, VV_mk1 rfl rfl ?_, rfl⟩
            · simp only [Instr.sliceAt, Sem.run_bind, run_underlying hu, Result.andThen_ok, Instr.slice, hr, run_sizeOf w hie, hc.1, Sem.run_pure]
            · simp only [VR]
              refine ⟨lc, _, _, h1, rfl, by omega, by omega, by omega, ?_⟩
              by_cases hcl : c = l
              · left; omega
              · rcases h5 with h5 | ⟨b, o, f1, f2, f3⟩
                · left; omega
                · right
                  refine ⟨b, o, f1, ?_, ?_⟩
                  · rw [if_neg hcl, opt_add f2, e2, Kd.sh_size]
                  · have : l + (c - l) = c := by omega
                    rw [this]; exact f3
          · cases h
        · cases h
      · cases h
  · rename_i s hu
    cases vm with
    | some v => exact hmx.elim
    | none =>
      split at h
      · rename_i c l h' hb
        simp only [Option.some.injEq, Prod.mk.injEq] at h
        obtain ⟨rfl, rfl, rfl⟩ := h
        obtain rfl := VV_str hx
        obtain ⟨hr, b1, b2⟩ := run_bounds (P := P) (isS := false) hlo hhi hb (Nat.le_refl _)
        refine ⟨.string (s.extract l h'), ?_, VV_str_mk, rfl⟩
        simp [Instr.sliceAt, run_underlying hu, Instr.slice, hr]
      · cases h
  · cases h

theorem wf_i64 {n : Nat} (h : n < 2 ^ 63) : (Lit.int .i64 (n : Int)).wf = true := by
  simp [Lit.wf, IntKind.min, IntKind.max, IntKind.signed, IntKind.bits]; omega

theorem len'_sound (hh : HR F L hp w B0) {ts : Array TypeId} {ty : TypeId} {x v : AV} {xv : Value} {Δ : Eff} (hx : VV F L w x xv) (h : len' P hp ts x = some (true, v, Δ)) :
    ∃ u, (Builtin.len_ ts ty #[xv]).run P w = .ok u w ∧ VV F L w v u ∧ Δ = [] := by
  unfold len' at h
  split at h
  · rename_i t ht
    split at h
    · rename_i s hu
      simp only [if_true, Option.some.injEq, Prod.mk.injEq, decide_eq_true_eq] at h
      obtain ⟨hs, rfl, rfl⟩ := h
      obtain rfl := VV_str hx
      exact ⟨_, by simp [Builtin.len_, ht, run_underlying hu]; rfl, VV_int_mk (wf_i64 (by omega)), rfl⟩
    · rename_i e hu
      cases h
      replace hx := VV_one rfl rfl hx
      simp only [VR, List.cons.injEq, and_true] at hx
      subst hx
      exact ⟨.int .i64 0, by simp [Builtin.len_, ht, run_underlying hu, goInt], VV_int_mk (by decide), rfl⟩
    · rename_i e K xs nn full hu
      cases h
      replace hx := VV_one rfl rfl hx
      simp only [VR, List.cons.injEq, and_true] at hx
      obtain ⟨a, c, rfl, h2, ⟨h3, _⟩, _⟩ := hx
      exact ⟨.int .i64 xs.length, by simp [Builtin.len_, ht, run_underlying hu, goInt], VV_int_mk (wf_i64 (by omega)), rfl⟩
    · rename_i e id off len hu
      cases h
      replace hx := VV_one rfl rfl hx
      simp only [VR, List.cons.injEq, and_true] at hx
      obtain ⟨l, a, c, h1, rfl, h2, h3, _⟩ := hx
      exact ⟨.int .i64 len, by simp [Builtin.len_, ht, run_underlying hu, goInt], VV_int_mk (wf_i64 (by omega)), rfl⟩
    · rename_i e id hu
      split at h
      · rename_i n hn
        cases h
        replace hx := VV_one rfl rfl hx
        simp only [VR, List.cons.injEq, and_true] at hx
        obtain ⟨l, a, c, h1, rfl, h2, h3, _⟩ := hx
        have hln : n = l.n := by
          unfold lenOf at hn
          split at hn
          · rename_i hb
            obtain ⟨l', hl', ⟨e1, _⟩, _⟩ := hh.blk id _ hb
            rw [h1] at hl'; cases hl'; cases hn; exact e1.symm
          · rename_i hb
            obtain ⟨l', hl', ⟨e1, _⟩, _⟩ := hh.blk id _ hb
            rw [h1] at hl'; cases hl'; cases hn; exact e1.symm
          · cases hn
        subst hln
        exact ⟨.int .i64 l.n, by simp [Builtin.len_, ht, run_underlying hu, goInt], VV_int_mk (wf_i64 (by omega)), rfl⟩
      · cases h
    · rename_i n e hu
      simp only [Option.some.injEq, Prod.mk.injEq, decide_eq_true_eq] at h
      obtain ⟨hs, rfl, rfl⟩ := h
      refine ⟨.int .i64 n, ?_, VV_int_mk (wf_i64 (by omega)), rfl⟩
      simp [Builtin.len_, ht, run_underlying hu, goInt]
    · cases h
  · cases h

theorem unOp'_sound {op : UnOp} {x v : AV} {xv : Value} {Δ : Eff} (hx : VV F L w x xv) (h : unOp' op x = some (true, v, Δ)) :
    ∃ u, (Op.unary op xv).run P w = .ok u w ∧ VV F L w v u ∧ Δ = [] := by
  unfold unOp' at h
  split at h
  · obtain ⟨rfl, _⟩ := VV_int hx
    cases h
    exact ⟨_, rfl, VV_int_mk (wf_wrap _ _), rfl⟩
  · obtain ⟨rfl, _⟩ := VV_int hx
    cases h
    exact ⟨_, rfl, VV_int_mk (wf_wrap _ _), rfl⟩
  · obtain rfl := VV_bool hx
    cases h
    exact ⟨_, rfl, VV_bool_mk, rfl⟩
  · cases h

theorem wf_ite {k : IntKind} {c : Prop} [Decidable c] {x y : Int} (hx : (Lit.int k x).wf = true) (hy : (Lit.int k y).wf = true) : (Lit.int k (if c then x else y)).wf = true := by
  split <;> assumption

theorem CV_cons {a b : AV} {vs : List Value} (h : CV F L w (.cons a b) vs) : ∃ v vs', vs = v :: vs' ∧ CV F L w b vs' ∧ (a.plain = true → VV F L w a v) := by
  simp only [CV] at h
  obtain ⟨v, vs', h1, h2, h3⟩ := h
  refine ⟨v, vs', h1, h3, fun hp => ?_⟩
  rcases h2 with ⟨rfl, _⟩ | rfl | h2
  · cases hp
  · cases hp
  · rw [VV_plain hp]; exact h2

theorem minmax_sound {mx : Bool} {args v : AV} {vs : List Value} {ts : Array TypeId} {ty : TypeId} (ha : CV F L w args vs) (h : minmax mx args = some v) :
    ∃ u, (if mx then Builtin.max_ ts ty vs.toArray else Builtin.min_ ts ty vs.toArray : Sem Value).run P w = .ok u w ∧ VV F L w v u := by
  have rest : ∀ (r : AV) (vs : List Value) (k : IntKind) (x : Int) (v : AV), CV F L w r vs → minmax.minmaxR mx k x r = some v → (Lit.int k x).wf = true →
      ∃ u, (vs.foldlM (if mx then Builtin.max2 else Builtin.min2) (.int k x) : Sem Value).run P w = .ok u w ∧ VV F L w v u := by
    intro r
    induction r with
    | nil =>
      intro vs k x v hv hm hw
      simp only [CV] at hv
      subst hv
      cases hm
      exact ⟨_, rfl, VV_int_mk hw⟩
    | cons a b _ ihb =>
      intro vs k x v hv hm hw
      obtain ⟨u, vs', rfl, h3, h2⟩ := CV_cons hv
      cases a <;> simp only [minmax.minmaxR, reduceCtorEq] at hm
      obtain ⟨rfl, hwy⟩ := VV_int (h2 rfl)
      split at hm
      · rename_i hk
        subst hk
        have step : ∀ y : Int, ((if mx then Builtin.max2 else Builtin.min2) (.int k x) (.int k y) : Sem Value).run P w = .ok (.int k (if (if mx then y > x else y < x) then y else x)) w := by
          intro y; cases mx <;> simp [Builtin.max2, Builtin.min2]
        rw [List.foldlM_cons, Sem.run_bind, step, Result.andThen_ok]
        exact ihb vs' k _ v h3 hm (wf_ite hwy hw)
      · cases hm
    | _ => intro vs k x v hv hm hw; simp [minmax.minmaxR] at hm
  have eqn : ∀ u vs', (if mx then Builtin.max_ ts ty (u :: vs').toArray else Builtin.min_ ts ty (u :: vs').toArray : Sem Value) = vs'.foldlM (if mx then Builtin.max2 else Builtin.min2) u := by
    intro u vs'; cases mx <;> rfl
  unfold minmax at h
  split at h
  · rename_i k x
    obtain ⟨u, vs', rfl, h3, h2⟩ := CV_cons ha
    obtain ⟨rfl, hw⟩ := VV_int (h2 rfl)
    rw [eqn]
    exact rest .nil vs' k x v h3 (by simpa [minmax.minmaxR] using h) hw
  · rename_i k x k' y r
    obtain ⟨u, vs', rfl, h3, h2⟩ := CV_cons ha
    obtain ⟨rfl, hw⟩ := VV_int (h2 rfl)
    rw [eqn]
    exact rest _ vs' k x v h3 (by simpa only [minmax.minmaxR] using h) hw
  · cases h

theorem extract_sound {t v : AV} {i : Nat} {tv : Value} (ht : VV F L w (.tup t) tv) (h : t.getF i = some v) : ∃ u, (Instr.extract tv i).run P w = .ok u w ∧ VV F L w v u := by
  obtain ⟨vs, rfl, hc⟩ := ht
  have : ∀ (t : AV) (i : Nat) (vs : List Value), CV F L w t vs → t.getF i = some v → ∃ u, vs[i]? = some u ∧ VV F L w v u := by
    intro t
    induction t with
    | cons a b _ ih =>
      intro i vs hc h
      simp only [CV] at hc
      obtain ⟨u, vs', rfl, h2, h3⟩ := hc
      cases i with
      | zero =>
        simp only [AV.getF, Option.some.injEq] at h
        subst h
        refine ⟨u, rfl, ?_⟩
        rcases h2 with ⟨rfl, rfl⟩ | rfl | h2
        · simp only [VV]
        · simp only [VV]
        · by_cases hp : a.plain = true
          · rw [VV_plain hp]; exact h2
          · cases a <;> simp only [AV.plain, Bool.false_eq_true, not_false_eq_true, not_true_eq_false] at hp
            · simp [AV.isAgg, VR] at h2
            · simp only [VV]
            · simp [AV.isAgg, VR] at h2
      | succ i =>
        simp only [AV.getF] at h
        exact ih i vs' h3 h
    | _ => intro i vs hc h; simp [AV.getF] at h
  obtain ⟨u, h1, h2⟩ := this t i vs hc h
  exact ⟨u, by simp [Instr.extract, h1], h2⟩


theorem dec_sl_form {K : Kd} {x : AV} {xs : List K.T} (h : dec hp (.sl K) x = some xs) : x.plain = true ∧ x.isAgg = false := by
  cases x <;> first | exact ⟨rfl, rfl⟩ | (simp [dec] at h)

theorem convert'_sound (hh : HR F L hp w B0) {src dst : TypeId} {x v : AV} {xv : Value} {Δ : Eff} (hx : VV F L w x xv) (h : convert' P hp src dst x = some (true, v, Δ)) :
    ∃ u, (Go.convert src dst xv).run P w = .ok u w ∧ VV F L w v u ∧ Δ = [] := by
  unfold convert' at h
  split at h
  · obtain ⟨rfl, _⟩ := VV_int hx
    cases h
    exact ⟨_, by simp only [Go.convert, Sem.run_bind, run_underlying ‹P.underlying src = some _›, run_underlying ‹P.underlying dst = some _›, Result.andThen_ok]; rfl, VV_int_mk (wf_wrap _ _), rfl⟩
  · obtain rfl := VV_str hx
    cases h
    refine ⟨_, ?_, VV_str_mk, rfl⟩
    simp only [Go.convert, Sem.run_bind, run_underlying ‹P.underlying src = some _›, run_underlying ‹P.underlying dst = some _›, Result.andThen_ok]
    rename_i d _ _ _
    cases d <;> rfl
  · rename_i e hu hd _
    split at h
    · rename_i xs he hdec
      split at h
      · rename_i hc
        cases h
        have hpl := dec_sl_form hdec
        have hr := dec_RK hh _ _ xs _ hdec (VV_one hpl.1 hpl.2 hx)
        obtain ⟨a, c, h1, h2, h3, h4⟩ := hr
        simp only [List.cons.injEq, and_true] at h1
        subst h1
        refine ⟨.string (bstr xs), ?_, VV_str_mk, rfl⟩
        cases a with
        | none =>
          rcases h4 with rfl | ⟨b, o, h4, _⟩
          · rw [run_convert_bytes_nil w src e hu he _ _ dst hd]; rfl
          · cases h4
        | some ad =>
          rcases h4 with rfl | ⟨b, o, h4, h5, h6⟩
          · rw [run_convert_bytes_string w src dst e _ _ _ hu he hd, run_bytesToString w ad _ c [] (by simp [loadCells, loadCellsFrom])]
            rfl
          · cases h4
            rw [run_convert_bytes_arg w src e hu he b o xs.length c xs rfl ?_ dst hd]
            · rfl
            · intro i hi
              obtain ⟨cs, g1, g2⟩ := h6 i _ (getD_some (z := (0 : Int)) hi)
              have g3 := g1 0 _ (by rw [g2.1]; rfl)
              simpa [Kd.size] using g3
      · cases h
    · cases h
  · cases h

end
end Go.Proofs.Ytkmeimhapokdlaa.Ae
