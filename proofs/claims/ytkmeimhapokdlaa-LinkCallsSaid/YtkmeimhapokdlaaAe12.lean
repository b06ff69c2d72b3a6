/- Stores. Lemmas alone. -/
import Derived.Test.YtkmeimhapokdlaaAe11
set_option linter.unusedVariables false
set_option linter.unusedSimpArgs false
namespace Go.Proofs.Ytkmeimhapokdlaa.Ae
open Go

section
variable {F : FS} {L : LM} {w w' : World} {P : Program} {hp : Hp} {B0 : FS} {key : Nat}

theorem dec_rows_live : ∀ (K : Kd) (v : AV) (x : K.T), dec hp K v = some x → ∀ i ∈ v.rows, hp i ≠ none
  | .int k, v, x, hd => by cases v <;> simp only [dec, reduceCtorEq] at hd; simp [AV.rows]
  | .bool, v, x, hd => by cases v <;> simp only [dec, reduceCtorEq] at hd; simp [AV.rows]
  | .str, v, x, hd => by cases v <;> simp only [dec, reduceCtorEq] at hd; simp [AV.rows]
  | .arr n e, v, x, hd => by cases v <;> simp only [dec, reduceCtorEq] at hd; simp [AV.rows]
  | .nil, v, x, hd => by cases v <;> simp only [dec, reduceCtorEq] at hd; simp [AV.rows]
  | .cons a b, v, x, hd => by
    cases v <;> simp only [dec, reduceCtorEq] at hd
    rename_i p q
    split at hd
    · rename_i u hu
      split at hd
      · rename_i y hy
        intro i hi
        simp only [AV.rows, List.mem_append] at hi
        exact hi.elim (dec_rows_live a p u hu i) (dec_rows_live b q y hy i)
      · cases hd
    · cases hd
  | .sl e, v, x, hd => by
    cases v <;> simp only [dec, reduceCtorEq] at hd
    case nils => simp [AV.rows]
    case rs => simp [AV.rows]
    case hs id off len =>
      split at hd
      · rename_i h; simp [AV.rows, h]
      · cases hd
    case hw id =>
      split at hd
      · rename_i h; simp [AV.rows, h]
      · cases hd

theorem WL_setCells {b x : Nat} {vs : List Value} (hb : ¬ F b) : WL F w (w.setCells b x vs) :=
  ⟨by rw [setCells_size]; exact Nat.le_refl _, fun b' => by rw [csize_setCells]; exact Nat.le_refl _, fun b' hb' => setCells_heap_ne vs x w b' (fun e => hb (e ▸ hb'))⟩

/-- One block written to; rows that went into it are read-only from now on. -/
theorem env_setCells {b : Nat} : ∀ (vs : List Value) (o : Nat) (w : World), Env w (w.setCells b o vs)
  | [], _, _ => ⟨rfl, rfl, rfl⟩
  | v :: vs, o, w => by
    rw [World.setCells]
    exact env_setCells vs (o + 1) (w.setCell ⟨b, o, none⟩ v)

theorem Post.wrote (hh : HR F L hp w B0) {ids : List Nat} (hids : ∀ i ∈ ids, hp i ≠ none) {id : Nat} {l : Loc} {b o x : Nat} {vs : List Value} {bk bk' : Bk} (hbk : hp id = some bk) (hl : L id = some l) (hat : l.at_ = some (b, o)) (hid : id ∉ ids)
    (hb : BR (fun b => F b ∨ rowF L ids b) L (w.setCells b x vs) l bk') :
    Post F L w B0 hp key .undef (kill ids ++ [(id, some bk')]) (fun b => F b ∨ rowF L ids b) L (w.setCells b x vs) Go.undef where
  val := by simp only [VV]
  fle := fun _ h => .inl h
  lle := fun _ _ h => h
  lnew := fun _ _ h => .inl h
  sz := by rw [setCells_size]; exact Nat.le_refl _
  csz := fun b' => by rw [csize_setCells]; exact Nat.le_refl _
  fb := fun b' h => by
    rw [setCells_size]
    exact h.elim (hh.fb b') (rowF_lt hh hids)
  fnew := fun b' h => h.imp (fun h => h) fun ⟨i, hi, l, o, h1, h2⟩ => .inr ⟨i, l, o, lk_kill_mem hi, h1, h2⟩
  frame := fun b' hb' hn => by
    refine setCells_heap_ne vs x w b' fun e => ?_
    subst e
    exact hn id l o (by rw [lk_kill_not hid, lk_one, if_pos rfl]; simp) (by rw [hbk]; simp) hl hat
  hr := fun i bk1 h => by
    by_cases hm : i ∈ ids
    · rw [lk_kill_mem hm] at h; cases h
    · rw [lk_kill_not hm, lk_one] at h
      split at h
      · rename_i e
        subst e
        cases h
        obtain ⟨l', e1, _, e3⟩ := hh.blk i bk hbk
        rw [hl] at e1; cases e1
        refine ⟨l, hl, hb, fun b1 o1 hbo => ?_⟩
        rw [hat] at hbo; cases hbo
        obtain ⟨g1, g2, g3⟩ := e3 b o hat
        refine ⟨g1, by rw [setCells_size]; exact g2, ?_, .inr ⟨i, l, o, by rw [lk_kill_not hid, lk_one, if_pos rfl]; simp, by rw [hbk]; simp, hl, hat⟩⟩
        rintro (hF | ⟨j, hj, l2, o2, h1, h2⟩)
        · exact g3 hF
        · exact hh.inj i j l l2 b o o2 (fun e => hid (e ▸ hj)) (by rw [hbk]; simp) (hids j hj) hl h1 hat h2
      · cases h
  inj := fun i i' bk1 bk2 l1 l2 b1 o1 o2 hne h1 h2 => by
    by_cases hm : i ∈ ids
    · rw [lk_kill_mem hm] at h1; cases h1
    · by_cases hm' : i' ∈ ids
      · rw [lk_kill_mem hm'] at h2; cases h2
      · rw [lk_kill_not hm, lk_one] at h1
        rw [lk_kill_not hm', lk_one] at h2
        split at h1
        · split at h2
          · omega
          · cases h2
        · cases h1
  dom := fun i h => by
    by_cases hm : i ∈ ids
    · exact .inl (hids i hm)
    · rw [lk_kill_not hm, lk_one] at h
      split at h
      · rename_i e; subst e; exact .inl (by rw [hbk]; simp)
      · exact absurd rfl h
  env := env_setCells vs x w

theorem run_storeVar {t : TypeId} {b x : Nat} {v : Value} (hsz : v.cells.size = P.cellsOf t) (h0 : P.cellsOf t ≠ 0) (hf : free w b) (hx : x + v.cells.size ≤ csize w b) (h1 : ∀ u ∈ v.cells.toList, u.oneCell' = true) :
    (storeVar t ⟨b, x, none⟩ v).run P w = .ok () (w.setCells b x v.cells.toList) := by
  obtain ⟨i, hi⟩ := info_of_cells h0
  have hst := run_storeCells_cells (P := P) b x v.cells.toList 0 w (fun j hj => by
      have := (cell_lt (i := x + j) hf (by simp at hj; omega)).1
      simpa using this) (fun j hj => by
      have := (cell_lt (i := x + j) hf (by simp at hj; omega)).2
      simpa using this) h1
  simp only [storeVar, Sem.run_bind, run_sizeOf w hi, Result.andThen_ok, hsz, ne_eq, not_true_eq_false, if_false, Sem.run_pure]
  simpa using hst

theorem store'_sound (hh : HR F L hp w B0) {t : TypeId} {x v r : AV} {xv vv : Value} {Δ : Eff} (hx : VV F L w x xv) (hv : VV F L w v vv) (h : store' P hp t x v = some (true, r, Δ)) :
    ∃ w' F' L', (Instr.storeAt t xv vv).run P w = .ok () w' ∧ r = .undef ∧ Post F L w B0 hp key .undef Δ F' L' w' Go.undef := by
  unfold store' at h
  split at h
  · rename_i id i p
    replace hx := VV_one rfl rfl hx
    simp only [VR, List.cons.injEq, and_true] at hx
    obtain ⟨l, b, o, d, s, h1, h2, h3, h4, rfl⟩ := hx
    split at h
    · rename_i u hb
      split at h
      · rename_i w0 u' hg hs
        split at h
        · rename_i hc
          obtain ⟨c1, c2, c3, c4⟩ := hc
          cases h
          obtain ⟨l', hl', hbr, hpos⟩ := hh.blk id _ hb
          rw [h1] at hl'; cases hl'
          obtain ⟨e1, e2, b', o', cs, e3, e4, e5, e6⟩ := hbr
          rw [h2] at e3; cases e3
          have hi0 : i = 0 := by omega
          subst hi0
          rw [e2] at h4
          obtain ⟨d1, d2, d3, g1, g2, g3, g4, g5⟩ := VR_setP hh.fb p u w0 v u' cs d s e5 hg hs c1.symm h4
          obtain ⟨hvc, _, _⟩ := VV_cells c4 hv
          have hsz := VR_size v _ hvc
          have hsz' : vv.cells.size = v.size := by simpa using hsz
          have hsw : d2.length = v.size := by rw [VR_size w0 d2 g3, ← AV.sh_size, c1, AV.sh_size]
          have hne : cs ≠ [] := by
            intro e; rw [e] at g1
            have := congrArg List.length g1
            simp at this; omega
          have hcs := cellsAt_le e6 hne
          have hlen : cs.length = d1.length + d2.length + d3.length := by rw [g1]; simp; omega
          have hnb := (hpos b o h2).2.2
          have hrun : (Instr.storeAt t (.pointer (some ⟨b, o + 0 * l.sh.size + d, none⟩)) vv).run P w = .ok () (w.setCells b (o + d) vv.cells.toList) := by
            simp only [Instr.storeAt, Instr.sureAddr, Sem.run_bind, Sem.run_pure, Result.andThen_ok, Nat.zero_mul, Nat.add_zero]
            exact run_storeVar (by rw [hsz', c2]) c3 e4 (by omega) (VR_one v _ hvc)
          refine ⟨_, F, L, hrun, rfl, ?_⟩
          have h0 : (fun b => F b ∨ rowF L [] b) = F := by funext b; simp [rowF]
          have := Post.wrote (key := key) hh (ids := []) (by simp) hb h1 h2 (by simp) (x := o + d) (vs := vv.cells.toList) (bk' := .box u') ?_
          · rw [h0] at this; exact this
          · rw [h0]
            refine ⟨e1, by rw [g4]; exact e2, b, o, d1 ++ (vv.cells.toList ++ d3), h2, free_setCells _ _ _ _ e4, VR_mono (fun _ h => h) (fun _ _ h => h) (WL_setCells hnb) _ _ (g5 _ hvc), ?_⟩
            rw [g1, cellsAt_app, cellsAt_app] at e6
            rw [cellsAt_app, cellsAt_app]
            refine ⟨cellsAt_setCells_out (.inr (by omega)) e6.1, ?_, ?_⟩
            · rw [g2]; exact cellsAt_setCells_in e4 (by simp; omega)
            · have e62 := e6.2.2
              have hle : vv.cells.toList.length = d2.length := by simp; omega
              rw [hle]
              exact cellsAt_setCells_out (.inl (by simp; omega)) e62
        · cases h
      · cases h
    · rename_i K xs hb
      split at h
      · rename_i w0 e hg hs
        split at h
        · rename_i hc
          obtain ⟨c1, c2, c3, c4, c5⟩ := hc
          split at h
          · rename_i y hy
            cases h
            obtain ⟨l', hl', hbr, hpos⟩ := hh.blk id _ hb
            rw [h1] at hl'; cases hl'
            obtain ⟨e1, e2, e3, e4⟩ := hbr
            obtain ⟨ef, er⟩ := e4 b o h2
            obtain ⟨cs, q1, q2⟩ := er i _ (getD_some (z := K.z) (by omega))
            have hve := VR_enc (L := L) K _ _ q2
            rw [e2, ← enc_sh K (xs.getD i K.z)] at h4
            obtain ⟨d1, d2, d3, g1, g2, g3, g4, g5⟩ := VR_setP hh.fb p _ w0 v e cs d s hve hg hs c1.symm h4
            obtain ⟨hvc, _, _⟩ := VV_cells c4 hv
            have hsz := VR_size v _ hvc
            have hsz' : vv.cells.size = v.size := by simpa using hsz
            have hsw : d2.length = v.size := by rw [VR_size w0 d2 g3, ← AV.sh_size, c1, AV.sh_size]
            have hcsl := RK_size K _ _ q2
            have hne : cs ≠ [] := by
              intro e; rw [e] at g1
              have := congrArg List.length g1
              simp at this; omega
            have hcs := cellsAt_le q1 hne
            have hlen : cs.length = d1.length + d2.length + d3.length := by rw [g1]; simp; omega
            have hnb := (hpos b o h2).2.2
            have hsh : l.sh.size = K.size := by rw [e2, Kd.sh_size]
            have hlive := dec_rows_live K e y hy
            have hnF' : ¬ (F b ∨ rowF L e.rows b) := by
              rintro (hF | ⟨j, hj, l2, o2, k1, k2⟩)
              · exact hnb hF
              · exact hh.inj id j l l2 b o o2 (fun ee => c5 (ee ▸ hj)) (by rw [hb]; simp) (hlive j hj) h1 k1 h2 k2
            have hry := dec_RK hh K e y _ hy (g5 _ hvc)
            have hrun : (Instr.storeAt t (.pointer (some ⟨b, o + i * l.sh.size + d, none⟩)) vv).run P w = .ok () (w.setCells b (o + i * K.size + d) vv.cells.toList) := by
              simp only [Instr.storeAt, Instr.sureAddr, Sem.run_bind, Sem.run_pure, Result.andThen_ok, hsh]
              exact run_storeVar (by rw [hsz', c2]) c3 ef (by omega) (VR_one v _ hvc)
            refine ⟨_, (fun b => F b ∨ rowF L e.rows b), L, hrun, rfl, ?_⟩
            refine Post.wrote (key := key) hh (ids := e.rows) hlive hb h1 h2 c5 (x := o + i * K.size + d) (vs := vv.cells.toList) (bk' := .row K (xs.set i y)) ?_
            refine ⟨by simp [e1], e2, fun hn => (by rw [h2] at hn; cases hn), fun b1 o1 hbo => ?_⟩
            rw [h2] at hbo; cases hbo
            refine ⟨free_setCells _ _ _ _ ef, fun j z hz => ?_⟩
            rw [List.getElem?_set] at hz
            by_cases hij : i = j
            · subst hij
              rw [if_pos rfl, if_pos (by omega)] at hz
              cases hz
              refine ⟨d1 ++ (vv.cells.toList ++ d3), ?_, RK_mono (fun _ h => h) (WL_setCells hnF') _ _ _ hry⟩
              rw [g1, cellsAt_app, cellsAt_app] at q1
              rw [cellsAt_app, cellsAt_app]
              refine ⟨cellsAt_setCells_out (.inr (by omega)) q1.1, ?_, ?_⟩
              · rw [g2]; exact cellsAt_setCells_in ef (by simp; omega)
              · have q12 := q1.2.2
                have hle : vv.cells.toList.length = d2.length := by simp; omega
                rw [hle]
                exact cellsAt_setCells_out (.inl (by simp; omega)) q12
            · rw [if_neg hij] at hz
              obtain ⟨cs2, k1, k2⟩ := er j z hz
              refine ⟨cs2, cellsAt_setCells_out ?_ k1, RK_mono (fun _ h => .inl h) (WL_setCells hnb) _ _ _ k2⟩
              have hl2 := RK_size K _ _ k2
              rcases Nat.lt_or_gt_of_ne hij with hlt | hgt
              · left
                have := Nat.mul_le_mul_right K.size (show i + 1 ≤ j by omega)
                rw [Nat.add_mul] at this
                simp; omega
              · right
                have := Nat.mul_le_mul_right K.size (show j + 1 ≤ i by omega)
                rw [Nat.add_mul] at this
                omega
          · cases h
        · cases h
      · cases h
    · cases h
  · cases h

end
end Go.Proofs.Ytkmeimhapokdlaa.Ae
