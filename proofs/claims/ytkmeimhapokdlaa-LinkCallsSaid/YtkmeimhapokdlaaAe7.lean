/- The operations that leave memory alone: addresses, loads, parts, slices, lengths. Lemmas alone. -/
import Derived.Test.YtkmeimhapokdlaaAe6
set_option linter.unusedVariables false
set_option linter.unusedSimpArgs false
namespace Go.Proofs.Ytkmeimhapokdlaa.Ae
open Go

section
variable {F : FS} {L : LM} {w : World} {P : Program} {hp : Hp} {B0 : FS}

theorem at_nil (s : Sh) : s.at [] = some (0, s) := by cases s <;> rfl

theorem at_field {s t u : Sh} {f o : Nat} : ∀ {p : List Nat} {d : Nat}, s.at p = some (d, t) → t.field f = some (o, u) → s.at (p ++ [f]) = some (d + o, u) := by
  intro p
  induction p generalizing s with
  | nil =>
    intro d h hf
    rw [at_nil] at h
    cases h
    have hna : ∀ n, t ≠ Sh.arr n := by intro n e; subst e; rw [field_arr] at hf; cases hf
    rw [List.nil_append, at_cons t f [] hna, hf]
    simp [at_nil]
  | cons g p ih =>
    intro d h hf
    by_cases ha : ∃ n, s = .arr n
    · obtain ⟨n, rfl⟩ := ha
      cases p with
      | nil =>
        simp only [Sh.at] at h
        split at h
        · cases h; cases f <;> simp [Sh.field] at hf
        · cases h
      | cons _ _ => simp [Sh.at, Sh.field] at h
    · have hna : ∀ n, s ≠ .arr n := fun n e => ha ⟨n, e⟩
      rw [List.cons_append, at_cons s g _ hna]
      rw [at_cons s g p hna] at h
      rcases hfd : s.field g with _ | ⟨o1, s1⟩
      · rw [hfd] at h; cases h
      · rw [hfd] at h
        simp only at h
        rcases hat : s1.at p with _ | ⟨o2, s2⟩
        · rw [hat] at h; cases h
        · rw [hat] at h
          cases h
          simp only [ih hat hf]
          rw [Nat.add_assoc]

theorem at_index {s : Sh} {n i : Nat} (hi : i < n) : ∀ {p : List Nat} {d : Nat}, s.at p = some (d, .arr n) → s.at (p ++ [i]) = some (d + i, .leaf) := by
  intro p
  induction p generalizing s with
  | nil =>
    intro d h
    rw [at_nil] at h
    cases h
    simp [Sh.at, hi]
  | cons g p ih =>
    intro d h
    by_cases ha : ∃ n, s = .arr n
    · obtain ⟨n, rfl⟩ := ha
      cases p with
      | nil =>
        simp only [Sh.at] at h
        split at h
        · cases h
        · cases h
      | cons _ _ => simp [Sh.at, Sh.field] at h
    · have hna : ∀ n, s ≠ .arr n := fun n e => ha ⟨n, e⟩
      rw [List.cons_append, at_cons s g _ hna]
      rw [at_cons s g p hna] at h
      rcases hfd : s.field g with _ | ⟨o1, s1⟩
      · rw [hfd] at h; cases h
      · rw [hfd] at h
        simp only at h
        rcases hat : s1.at p with _ | ⟨o2, s2⟩
        · rw [hat] at h; cases h
        · rw [hat] at h
          cases h
          simp only [ih hat]
          rw [Nat.add_assoc]

theorem getD_some {α : Type} {xs : List α} {i : Nat} {z : α} (h : i < xs.length) : xs[i]? = some (xs.getD i z) := by
  rw [List.getD_eq_getElem?_getD, List.getElem?_eq_getElem h]; rfl

/-- Where a pointer leads, and what lies there. -/
theorem deref_sound (hh : HR F L hp w B0) {x v : AV} {xv : Value} (hx : VV F L w x xv) (h : deref hp x = some v) :
    ∃ b o cs, xv = .pointer (some ⟨b, o, none⟩) ∧ cellsAt w b o cs ∧ VR F L w v cs ∧
      ∀ (f o' : Nat) (u : Sh), v.sh.field f = some (o', u) ∨ (∃ n, v.sh = .arr n ∧ f < n ∧ o' = f) → VV F L w (extP x f) (.pointer (some ⟨b, o + o', none⟩)) := by
  cases x <;> simp only [deref, reduceCtorEq] at h
  case ptr id i p =>
    replace hx := VV_one rfl rfl hx
    simp only [VR, List.cons.injEq, and_true] at hx
    obtain ⟨l, b, o, d, s, h1, h2, h3, h4, rfl⟩ := hx
    have post : ∀ {cs : List Value} {v' : AV}, v'.sh = s → ∀ (f o' : Nat) (u : Sh), v'.sh.field f = some (o', u) ∨ (∃ n, v'.sh = .arr n ∧ f < n ∧ o' = f) →
        VV F L w (extP (.ptr id i p) f) (.pointer (some ⟨b, o + i * l.sh.size + d + o', none⟩)) := by
      intro cs v' hs f o' u hf
      refine VV_mk1 rfl rfl ?_
      simp only [extP, VR]
      rw [hs] at hf
      rcases hf with hf | ⟨n, hn, hlt, rfl⟩
      · exact ⟨l, b, o, d + o', u, h1, h2, h3, at_field h4 hf, by rw [Nat.add_assoc]⟩
      · rw [hn] at h4
        exact ⟨l, b, o, d + o', .leaf, h1, h2, h3, at_index hlt h4, by rw [Nat.add_assoc]⟩
    split at h
    · rename_i v0 hb
      obtain ⟨l', hl', hbr, _⟩ := hh.blk id _ hb
      rw [h1] at hl'; cases hl'
      obtain ⟨e1, e2, b', o', cs, e3, e4, e5, e6⟩ := hbr
      rw [h2] at e3; cases e3
      rw [e2] at h4
      obtain ⟨g1, c1, c2, c3, g2, g3, g4⟩ := VR_getP p v0 v cs d s e5 h h4
      have hi : i = 0 := by omega
      subst hi
      refine ⟨b, _, c2, rfl, ?_, g4, post (cs := cs) g1⟩
      rw [g2, cellsAt_app, cellsAt_app] at e6
      rw [Nat.zero_mul, Nat.add_zero, ← g3]
      exact e6.2.1
    · rename_i K xs hb
      obtain ⟨l', hl', hbr, _⟩ := hh.blk id _ hb
      rw [h1] at hl'; cases hl'
      obtain ⟨e1, e2, e3, e4⟩ := hbr
      obtain ⟨cs, c1, c2⟩ := (e4 b o h2).2 i _ (getD_some (by omega))
      have hsh : (enc K (xs.getD i K.z)).sh = l.sh := by rw [enc_sh, e2]
      rw [← hsh] at h4
      obtain ⟨g1, d1, d2, d3, g2, g3, g4⟩ := VR_getP p _ v cs d s (VR_enc K _ _ c2) h h4
      refine ⟨b, _, d2, rfl, ?_, g4, post (cs := cs) g1⟩
      rw [g2, cellsAt_app, cellsAt_app] at c1
      rw [e2, Kd.sh_size, ← g3]
      exact c1.2.1
    · rename_i vs hb
      obtain ⟨l', hl', hbr, _⟩ := hh.blk id _ hb
      rw [h1] at hl'; cases hl'
      obtain ⟨e1, e2, b', o', cs, e3, e4, e5, e6, e7⟩ := hbr
      rw [h2] at e3; cases e3
      split at h
      · rename_i u hu
        obtain ⟨c, q1, q2, q3⟩ := e7 i u hu
        rw [e2, ← q2] at h4
        obtain ⟨g1, d1, d2, d3, g2, g3, g4⟩ := VR_getP p u v [c] d s q3 h h4
        refine ⟨b, _, d2, rfl, ?_, g4, post (cs := cs) g1⟩
        have hc : cellsAt w b (o + i) [c] := by
          intro j v hj
          cases j with
          | zero => simp only [List.getElem?_cons_zero, Option.some.injEq] at hj; subst hj; exact e5 i _ q1
          | succ j => simp at hj
        rw [g2, cellsAt_app, cellsAt_app] at hc
        rw [e2]
        simp only [Sh.size, Nat.mul_one]
        rw [← g3]
        exact hc.2.1
      · cases h
    · cases h
  case rptr K xs i p =>
    replace hx := VV_one rfl rfl hx
    simp only [VR, List.cons.injEq, and_true] at hx
    obtain ⟨b, o, d, s, h1, h2, h3, h4, rfl⟩ := hx
    obtain ⟨cs, c1, c2⟩ := h2 i _ (getD_some h3)
    have h4' := h4
    rw [← enc_sh K (xs.getD i K.z)] at h4'
    obtain ⟨g1, d1, d2, d3, g2, g3, g4⟩ := VR_getP p _ v cs d s (VR_enc K _ _ c2) h h4'
    refine ⟨b, _, d2, rfl, ?_, g4, ?_⟩
    · rw [g2, cellsAt_app, cellsAt_app] at c1
      rw [Kd.sh_size, ← g3]
      exact c1.2.1
    · intro f o' u hf
      refine VV_mk1 rfl rfl ?_
      simp only [extP, VR]
      rw [g1] at hf
      rcases hf with hf | ⟨n, hn, hlt, rfl⟩
      · exact ⟨b, o, d + o', u, h1, h2, h3, at_field h4 hf, by rw [Nat.add_assoc]⟩
      · rw [hn] at h4
        exact ⟨b, o, d + o', .leaf, h1, h2, h3, at_index hlt h4, by rw [Nat.add_assoc]⟩

theorem load'_sound (hh : HR F L hp w B0) {t : TypeId} {x v : AV} {xv : Value} {Δ : Eff} (hx : VV F L w x xv) (h : load' P hp t x = some (true, v, Δ)) :
    ∃ u, (Instr.loadAt t xv).run P w = .ok u w ∧ VV F L w v u ∧ Δ = [] := by
  unfold load' at h
  split at h
  · rename_i v' hd
    split at h
    · rename_i hc
      cases h
      obtain ⟨b, o, cs, rfl, h1, h2, _⟩ := deref_sound hh hx hd
      have hl := VR_size v cs h2
      obtain ⟨k, hu, hag⟩ := aggT_some hc.2
      refine ⟨_, ?_, VV_of_cells h2, rfl⟩
      simp only [Instr.loadAt, Instr.sureAddr, Sem.run_bind, Sem.run_pure, Result.andThen_ok, loadVar, run_isAgg hu, Sem.run_ite]
      rw [← hag]
      cases hb : v.isAgg
      · have h1' : v.size = 1 := by cases v <;> first | rfl | (simp [AV.isAgg] at hb)
        rw [h1'] at hl
        obtain ⟨y, rfl⟩ := List.length_eq_one_iff.1 hl
        have := h1 0 y rfl
        rw [Nat.add_zero] at this
        simp [this]
      · simp only [if_true, run_sizeOf' hu, Result.andThen_ok, ← hc.1, ← hl, run_loadCells_at h1, Sem.run_bind, Sem.run_pure]
    · cases h
  · cases h

theorem info_of_cells {t : TypeId} (h : P.cellsOf t ≠ 0) : ∃ i, P.info? t = some i := by
  cases hi : P.info? t with
  | none => simp [Program.cellsOf, hi] at h
  | some i => exact ⟨i, rfl⟩

theorem fieldAddr'_sound (hh : HR F L hp w B0) {s : TypeId} {f : Nat} {x v : AV} {xv : Value} {Δ : Eff} (hx : VV F L w x xv) (h : fieldAddr' P hp s x f = some (true, v, Δ)) :
    ∃ u, (Instr.fieldAt s xv f).run P w = .ok u w ∧ VV F L w v u ∧ Δ = [] := by
  unfold fieldAddr' at h
  split at h
  · rename_i fs hu
    split at h
    · rename_i fd v' hf hd
      split at h
      · rename_i o u hfield
        split at h
        · rename_i hc
          obtain ⟨b, o1, cs, rfl, h1, h2, h3⟩ := deref_sound hh hx hd
          obtain ⟨i, hi⟩ := info_of_cells hc.2
          have h4 := h3 f o u (.inl hfield)
          have hrun : (Instr.fieldAt s (.pointer (some ⟨b, o1, none⟩)) f).run P w = .ok (.pointer (some ⟨b, o1 + o, none⟩)) w := by
            simp only [Instr.fieldAt, Sem.run_bind, run_underlying hu, Result.andThen_ok, hf, Instr.sureAddr, Sem.run_pure, fieldPlace, run_sizeOf w hi, Sem.run_ite, if_neg hc.2, addr_add, hc.1]
          cases h
          exact ⟨_, hrun, h4, rfl⟩
        · cases h
      · cases h
    · cases h
  · cases h

theorem rng_true {i : Int} {n : Nat} (h : rng i n = true) : 0 ≤ i ∧ i < n := by simpa [rng] using h

theorem indexAddr'_sound (hh : HR F L hp w B0) {t : TypeId} {x ix v : AV} {xv iv : Value} {Δ : Eff} (hx : VV F L w x xv) (hi : VV F L w ix iv) (h : indexAddr' P hp t x ix = some (true, v, Δ)) :
    ∃ u, (Instr.indexAt t xv iv).run P w = .ok u w ∧ VV F L w v u ∧ Δ = [] := by
  unfold indexAddr' at h
  split at h
  · rename_i k i
    obtain ⟨rfl, hwf⟩ := VV_int hi
    split at h
    · rename_i n e hu
      split at h
      · rename_i n' K xs hd
        split at h
        · rename_i hc
          obtain ⟨b, o1, cs, rfl, h1, h2, h3⟩ := deref_sound hh hx hd
          obtain ⟨ie, hie⟩ := info_of_cells (P := P) (t := e) (by rw [hc.2]; decide)
          simp only [Option.some.injEq, Prod.mk.injEq] at h
          obtain ⟨hr, rfl, rfl⟩ := h
          have hr' := rng_true hr
          refine ⟨_, ?_, h3 i.toNat i.toNat .leaf (.inr ⟨n', rfl, by omega, rfl⟩), rfl⟩
          simp [Instr.indexAt, asIntOf, run_underlying hu, Instr.sureAddr, hr', run_sizeOf w hie, hc.2, addr_add]
        · cases h
      · rename_i v' _ hd
        split at h
        · rename_i o u hfield
          split at h
          · rename_i hc
            obtain ⟨b, o1, cs, rfl, h1, h2, h3⟩ := deref_sound hh hx hd
            obtain ⟨ie, hie⟩ := info_of_cells hc.2.2.2
            cases h
            refine ⟨_, ?_, h3 i.toNat o u (.inl hfield), rfl⟩
            have hlt : 0 ≤ i ∧ i < (n : Int) := ⟨hc.1, hc.2.1⟩
            simp [Instr.indexAt, asIntOf, run_underlying hu, Instr.sureAddr, hlt, run_sizeOf w hie, addr_add, hc.2.2.1]
          · cases h
        · cases h
      · cases h
    · rename_i e K xs nn full hu
      split at h
      · rename_i hc
        simp only [Option.some.injEq, Prod.mk.injEq] at h
        obtain ⟨hr, rfl, rfl⟩ := h
        have hr' := rng_true hr
        replace hx := VV_one rfl rfl hx
        simp only [VR, List.cons.injEq, and_true] at hx
        obtain ⟨a, c, rfl, h2, h3, h4, _⟩ := hx
        rcases h4 with h4 | ⟨b, o, rfl, h5, h6⟩
        · subst h4; simp at hr'; omega
        · obtain ⟨ie, hie⟩ := info_of_cells (P := P) (t := e) (by rw [hc.1]; exact hc.2)
          refine ⟨.pointer (some ⟨b, o + i.toNat * K.size, none⟩), ?_, VV_mk1 rfl rfl ?_, rfl⟩
          · simp [Instr.indexAt, asIntOf, run_underlying hu, hr', run_sizeOf w hie, hc.1, addr_add]
          · simp only [VR]
            exact ⟨b, o, 0, K.sh, h5, h6, by omega, at_nil _, by rw [Kd.sh_size, Nat.add_zero]⟩
      · cases h
    · rename_i e id off len hu
      split at h
      · rename_i K xs hb
        split at h
        · rename_i hc
          simp only [Option.some.injEq, Prod.mk.injEq] at h
          obtain ⟨hr, rfl, rfl⟩ := h
          have hr' := rng_true hr
          replace hx := VV_one rfl rfl hx
          simp only [VR, List.cons.injEq, and_true] at hx
          obtain ⟨l, a, c, h1, rfl, h2, h3, h4, h5⟩ := hx
          rcases h5 with h5 | ⟨b, o, h5, rfl, h6⟩
          · omega
          · obtain ⟨l', hl', ⟨e1, e2, _⟩, _⟩ := hh.blk id _ hb
            rw [h1] at hl'; cases hl'
            obtain ⟨ie, hie⟩ := info_of_cells (P := P) (t := e) (by rw [hc.1]; exact hc.2)
            refine ⟨.pointer (some ⟨b, o + (off + i.toNat) * l.sh.size, none⟩), ?_, VV_mk1 rfl rfl ?_, rfl⟩
            · simp [Instr.indexAt, asIntOf, run_underlying hu, hr', run_sizeOf w hie, hc.1, addr_add, e2, Kd.sh_size, Nat.add_mul, Nat.add_assoc]
            · simp only [VR]
              exact ⟨l, b, o, 0, l.sh, h1, h5, by omega, at_nil _, by rw [Nat.add_zero]⟩
        · cases h
      · cases h
    · rename_i e id hu
      split at h
      · rename_i K xs hb
        split at h
        · rename_i hc
          simp only [Option.some.injEq, Prod.mk.injEq] at h
          obtain ⟨hr, rfl, rfl⟩ := h
          have hr' := rng_true hr
          replace hx := VV_one rfl rfl hx
          simp only [VR, List.cons.injEq, and_true] at hx
          obtain ⟨l, a, c, h1, rfl, h2, h3, h5⟩ := hx
          obtain ⟨l', hl', ⟨e1, e2, _⟩, _⟩ := hh.blk id _ hb
          rw [h1] at hl'; cases hl'
          rcases h5 with h5 | ⟨b, o, h5, rfl, h6⟩
          · omega
          · obtain ⟨ie, hie⟩ := info_of_cells (P := P) (t := e) (by rw [hc.1]; exact hc.2)
            refine ⟨.pointer (some ⟨b, o + i.toNat * l.sh.size, none⟩), ?_, VV_mk1 rfl rfl ?_, rfl⟩
            · simp [Instr.indexAt, asIntOf, run_underlying hu, hr', e1, run_sizeOf w hie, hc.1, addr_add, e2, Kd.sh_size]
            · simp only [VR]
              exact ⟨l, b, o, 0, l.sh, h1, h5, by omega, at_nil _, by rw [Nat.add_zero]⟩
        · cases h
      · rename_i vs hb
        split at h
        · rename_i hc
          simp only [Option.some.injEq, Prod.mk.injEq] at h
          obtain ⟨hr, rfl, rfl⟩ := h
          have hr' := rng_true hr
          replace hx := VV_one rfl rfl hx
          simp only [VR, List.cons.injEq, and_true] at hx
          obtain ⟨l, a, c, h1, rfl, h2, h3, h5⟩ := hx
          obtain ⟨l', hl', ⟨e1, e2, _⟩, _⟩ := hh.blk id _ hb
          rw [h1] at hl'; cases hl'
          rcases h5 with h5 | ⟨b, o, h5, rfl, h6⟩
          · omega
          · obtain ⟨ie, hie⟩ := info_of_cells (P := P) (t := e) (by rw [hc]; decide)
            refine ⟨.pointer (some ⟨b, o + i.toNat * l.sh.size, none⟩), ?_, VV_mk1 rfl rfl ?_, rfl⟩
            · simp [Instr.indexAt, asIntOf, run_underlying hu, hr', e1, run_sizeOf w hie, hc, addr_add, e2, Sh.size]
            · simp only [VR]
              exact ⟨l, b, o, 0, l.sh, h1, h5, by omega, at_nil _, by rw [Nat.add_zero]⟩
        · cases h
      · cases h
    · cases h
  · cases h

theorem index'_sound {t : TypeId} {x ix v : AV} {xv iv : Value} {Δ : Eff} (hx : VV F L w x xv) (hi : VV F L w ix iv) (h : index' P t x ix = some (true, v, Δ)) :
    ∃ u, (Instr.index t xv iv).run P w = .ok u w ∧ VV F L w v u ∧ Δ = [] := by
  unfold index' at h
  split at h
  · rename_i k i
    obtain ⟨rfl, hwf⟩ := VV_int hi
    split at h
    · rename_i n e n' K xs hu
      split at h
      · rename_i hc
        simp only [Option.some.injEq, Prod.mk.injEq] at h
        obtain ⟨hr, rfl, rfl⟩ := h
        have hr' := rng_true hr
        simp only [VV, AV.isAgg, cond_true, VR] at hx
        obtain ⟨cs, rfl, ⟨r1, r2⟩, r3, r4⟩ := hx
        obtain ⟨ie, hie⟩ := info_of_cells (P := P) (t := e) (by rw [hc.2.1]; decide)
        have hix : i.toNat < xs.length := by omega
        have hcx : cs[i.toNat]? = some (cs[i.toNat]'(by omega)) := List.getElem?_eq_getElem (by omega)
        have hr4 := r4 i.toNat _ _ (getD_some (z := K.z) hix) hcx
        have hve := VR_enc (L := L) K _ _ hr4
        obtain ⟨k', hk', hag⟩ := aggT_some hc.2.2
        have hag' : (enc K (xs.getD i.toNat K.z)).isAgg = false := by
          have h1 := enc_sh K (xs.getD i.toNat K.z)
          rw [r2] at h1
          cases hq : enc K (xs.getD i.toNat K.z) <;> first | rfl | (rw [hq] at h1; simp [AV.sh] at h1)
        refine ⟨cs[i.toNat]'(by omega), ?_, ?_, rfl⟩
        · simp [Instr.index, asIntOf, run_underlying hu, hr', run_sizeOf w hie, hc.2.1, part, run_isAgg hk', ← hag, hcx]
        · rcases VR_plain hve with hp | hd
          · exact VV_mk1 hp hag' hve
          · rw [hd]; simp only [VV]
      · cases h
    · cases h
  · cases h

theorem field'_sound {t : TypeId} {f : Nat} {x v : AV} {xv : Value} {Δ : Eff} (hx : VV F L w x xv) (h : field' P t x f = some (true, v, Δ)) :
    ∃ u, (Instr.field t xv f).run P w = .ok u w ∧ VV F L w v u ∧ Δ = [] := by
  unfold field' at h
  split at h
  · rename_i fs hu
    split at h
    · rename_i fd v' o sh hf hg hs
      split at h
      · rename_i hc
        cases h
        obtain ⟨k, hk, hag⟩ := aggT_some hc.2.2
        have hpx : x.plain = true ∧ x.isAgg = true := by cases x <;> first | exact ⟨rfl, rfl⟩ | (simp [AV.getF] at hg)
        rw [VV_plain hpx.1, hpx.2, cond_true] at hx
        obtain ⟨cs, rfl, hr⟩ := hx
        obtain ⟨o', c1, c2, c3, e1, e2, e3, e4⟩ := VR_getF x f v cs hr hg
        rw [hs] at e1
        cases e1
        obtain ⟨u, q1, q2⟩ := run_part_at (P := P) (pre := c1) (post := c3) hk hag hc.2.1.symm e4
        refine ⟨u, ?_, q2, rfl⟩
        simp only [Instr.field, Sem.run_bind, run_underlying hu, Result.andThen_ok, hf, asAgg, Sem.run_pure]
        rw [← hc.1, ← e3, e2]; exact q1
      · cases h
    · cases h
  · cases h

end
end Go.Proofs.Ytkmeimhapokdlaa.Ae
