/- The operations that leave memory alone, one by one. Lemmas alone. -/
import Derived.Test.YtkmeimhapokdlaaAe5
set_option linter.unusedVariables false
set_option linter.unusedSimpArgs false
namespace Go.Proofs.Ytkmeimhapokdlaa.Ae
open Go

section
variable {F : FS} {L : LM} {w : World} {P : Program} {hp : Hp} {B0 : FS}

theorem VV_one {a : AV} {v : Value} (hp : a.plain = true) (ha : a.isAgg = false) (h : VV F L w a v) : VR F L w a [v] := by
  rw [VV_plain hp, ha, cond_false] at h; exact h

theorem VV_mk1 {a : AV} {v : Value} (hp : a.plain = true) (ha : a.isAgg = false) (h : VR F L w a [v]) : VV F L w a v := by
  rw [VV_plain hp, ha, cond_false]; exact h

theorem nilEq_in (n : Nat) {t : TypeId} {x y : AV} {a b : Value} {r : Bool} (hx : VV F L w x a) (hy : VV F L w y b) (h : nilEq P t x y = some r) : (Op.equalIn (n + 1) t a b).run P w = .ok r w := by
  unfold nilEq at h
  split at h
  case h_12 => cases h
  all_goals
    have hu := ‹P.underlying t = some _›
    cases h
    replace hx := VV_one rfl rfl hx
    replace hy := VV_one rfl rfl hy
    simp only [VR, List.cons.injEq, and_true] at hx hy
  · subst hx hy; simp [Op.equalIn, run_underlying hu]
  · obtain ⟨a, c, rfl, _, _, _, h5, _⟩ := hx
    subst hy
    cases a with
    | none => simp at h5
    | some a => simp [Op.equalIn, run_underlying hu]
  · obtain ⟨a, c, rfl, _, _, _, h5, _⟩ := hy
    subst hx
    cases a with
    | none => simp at h5
    | some a => simp [Op.equalIn, run_underlying hu]
  · subst hx hy; simp [Op.equalIn, run_underlying hu]
  · obtain ⟨_, _, _, _, _, _, _, _, _, rfl⟩ := hx; subst hy; simp [Op.equalIn, run_underlying hu]
  · obtain ⟨_, _, _, _, _, _, _, _, _, rfl⟩ := hy; subst hx; simp [Op.equalIn, run_underlying hu]
  · obtain ⟨_, _, _, _, _, _, _, _, rfl⟩ := hx; subst hy; simp [Op.equalIn, run_underlying hu]
  · obtain ⟨_, _, _, _, _, _, _, _, rfl⟩ := hy; subst hx; simp [Op.equalIn, run_underlying hu]
  · subst hx hy; simp [Op.equalIn, run_underlying hu]
  · obtain ⟨_, _, rfl, _⟩ := hx; subst hy; simp [Op.equalIn, run_underlying hu]
  · subst hx hy; simp [Op.equalIn, run_underlying hu]

theorem eqAt_sound {t : TypeId} {x y : AV} {a b : Value} {r : Bool} (hx : VV F L w x a) (hy : VV F L w y b) (h : eqAt P t x y = some r) :
    (Op.equal t a b).run P w = .ok r w ∧ (((nilEq P t x y).isSome = true) ∨ (P.eqGuardType P.depth t = false ∧ eqTy P deep t x = true ∧ eqTy P deep t y = true)) := by
  unfold eqAt at h
  split at h
  · rename_i c hn
    cases h
    exact ⟨nilEq_in 9999 hx hy hn, .inl (by rw [hn]; rfl)⟩
  · split at h
    · rename_i hc
      simp only [Bool.and_eq_true, beq_iff_eq] at hc
      exact ⟨equalIn_sound deep t x y a b r hc.1.1 hc.1.2 h hx hy Op.maxDepth (by decide), .inr ⟨hc.2, hc.1⟩⟩
    · cases h

theorem eqGuard_one {op : BinOp} {t : TypeId} {ox oy : Operand} {a b : Value} (h1 : a.oneCell' = true) (h2 : a ≠ .nilIface) : eqGuard op t ox oy a b = pure () := by
  cases a <;> first | (exact absurd rfl h2) | (simp [Value.oneCell'] at h1; done) | (cases op <;> rfl)

/-- The guard before an equality lets it by. -/
theorem run_eqGuard {op : BinOp} {t : TypeId} {ox oy : Operand} {x y : AV} {a b : Value} {r : Bool} (hx : VV F L w x a) (hy : VV F L w y b) (h : eqAt P t x y = some r) :
    (eqGuard op t ox oy a b).run P w = .ok () w := by
  have hg := (eqAt_sound (P := P) hx hy h).2
  rcases hg with hg | ⟨hg, h1, h2⟩
  · have : a.oneCell' = true ∧ a ≠ .nilIface := by
      unfold nilEq at hg
      split at hg
      case h_12 => cases hg
      all_goals
        replace hx := VV_one rfl rfl hx
        refine ⟨VR_one _ _ hx a (by simp), ?_⟩
        intro e; subst e
        simp [VR] at hx
    rw [eqGuard_one this.1 this.2]; rfl
  · obtain ⟨k, hu, g1, p1⟩ := eqTy_agg h1
    rw [VV_plain p1] at hx
    cases hag : x.isAgg
    · rw [hag, cond_false] at hx
      have ho := VR_one x [a] hx a (by simp)
      have hni : a ≠ .nilIface := by
        intro e; subst e
        unfold deep at h1
        simp only [eqTy, hu] at h1
        cases k <;> cases x <;> simp_all [VR, aggD, AV.isAgg]
      rw [eqGuard_one ho hni]; rfl
    · rw [hag, cond_true] at hx
      obtain ⟨c, rfl, _⟩ := hx
      cases b <;> cases op <;> first | rfl | simp [eqGuard, hg]

def noNum : Value → Bool
  | .int _ _ | .float _ _ | .complex _ _ _ | .string _ => false
  | _ => true

theorem binOp_eql_eq {t : TypeId} {a b : Value} (h : noNum a = true) : Go.binOp .eql t a b = (do pure (.bool (← Op.equal t a b))) := by
  cases a <;> first | (simp [noNum] at h; done) | (cases b <;> rfl)

theorem binOp_neq_eq {t : TypeId} {a b : Value} (h : noNum a = true) : Go.binOp .neq t a b = (do pure (.bool (!(← Op.equal t a b)))) := by
  cases a <;> first | (simp [noNum] at h; done) | (cases b <;> rfl)

/-- What an equality can be asked of. -/
theorem eqAt_forms {t : TypeId} {x y : AV} {a b : Value} {r : Bool} (hx : VV F L w x a) (hy : VV F L w y b) (h : eqAt P t x y = some r) (hi : ∀ k n k' m, ¬ (x = .int k n ∧ y = .int k' m)) :
    noNum a = true ∨ ∃ s s', a = .string s ∧ b = .string s' ∧ r = (s == s') := by
  rcases (eqAt_sound (P := P) hx hy h).2 with hg | ⟨hg, h1, h2⟩
  · left
    unfold nilEq at hg
    split at hg
    case h_12 => cases hg
    all_goals
      replace hx := VV_one rfl rfl hx
      cases a <;> first | rfl | (simp [VR] at hx)
  · unfold eqAt at h
    split at h
    · rename_i hn
      exfalso
      unfold nilEq at hn
      unfold deep at h1
      split at hn
      case h_12 => cases hn
      all_goals
        have hu := ‹P.underlying t = some _›
        simp [eqTy, hu] at h1
    · split at h
      · obtain ⟨k, hu, g1, p1⟩ := eqTy_agg h1
        unfold deep at h1 h2
        cases x <;> cases y <;> simp only [aeq, reduceCtorEq] at h
        case int => exact absurd ⟨rfl, rfl⟩ (hi _ _ _ _)
        case bool => obtain rfl := VV_bool hx; exact .inl rfl
        case str =>
          obtain rfl := VV_str hx
          obtain rfl := VV_str hy
          exact .inr ⟨_, _, rfl, rfl, (Option.some.inj h).symm⟩
        all_goals
          rw [VV_plain rfl] at hx
          simp only [AV.isAgg, cond_true] at hx
          obtain ⟨c, rfl, _⟩ := hx
          exact .inl rfl
      · cases h

theorem binOp'_sound {op : BinOp} {t : TypeId} {ox oy : Operand} {x y : AV} {a b : Value} {v : AV} {Δ : Eff} (hx : VV F L w x a) (hy : VV F L w y b) (h : binOp' P op t x y = some (true, v, Δ)) :
    ∃ u, (do eqGuard op t ox oy a b; Go.binOp op t a b : Sem Value).run P w = .ok u w ∧ VV F L w v u ∧ Δ = [] := by
  unfold binOp' at h
  split at h
  · obtain ⟨rfl, hw⟩ := VV_int hx
    obtain ⟨rfl, _⟩ := VV_int hy
    obtain ⟨u, h1, h2⟩ := run_shiftOp (F := F) (L := L) (w := w) (P := P) (t := t) hw h rfl (.inl rfl)
    exact ⟨u, by rw [Sem.run_bind, show eqGuard .shl t ox oy _ _ = pure () from rfl]; exact h1, h2⟩
  · obtain ⟨rfl, hw⟩ := VV_int hx
    obtain ⟨rfl, _⟩ := VV_int hy
    obtain ⟨u, h1, h2⟩ := run_shiftOp (F := F) (L := L) (w := w) (P := P) (t := t) hw h rfl (.inr rfl)
    exact ⟨u, by rw [Sem.run_bind, show eqGuard .shr t ox oy _ _ = pure () from rfl]; exact h1, h2⟩
  · obtain ⟨rfl, hw⟩ := VV_int hx
    obtain ⟨rfl, _⟩ := VV_int hy
    split at h
    · rename_i hk
      subst hk
      obtain ⟨u, h1, h2⟩ := run_intOp (F := F) (L := L) (w := w) (P := P) (t := t) hw h rfl
      refine ⟨u, ?_, h2⟩
      rw [Sem.run_bind, eqGuard_one rfl (by simp)]; exact h1
    · cases h
  · rename_i hni
    split at h
    · rename_i r hr
      cases h
      refine ⟨.bool r, ?_, VV_bool_mk, rfl⟩
      rw [Sem.run_bind, run_eqGuard hx hy hr, Result.andThen_ok]
      rcases eqAt_forms hx hy hr (fun k n k' m ⟨e1, e2⟩ => hni k n k' m e1 e2) with hn | ⟨s, s', rfl, rfl, rfl⟩
      · rw [binOp_eql_eq hn, Sem.run_bind, (eqAt_sound (P := P) hx hy hr).1]; rfl
      · rw [beq_toListBytes]; rfl
    · cases h
  · rename_i hni
    split at h
    · rename_i r hr
      cases h
      refine ⟨.bool (!r), ?_, VV_bool_mk, rfl⟩
      rw [Sem.run_bind, run_eqGuard hx hy hr, Result.andThen_ok]
      rcases eqAt_forms hx hy hr (fun k n k' m ⟨e1, e2⟩ => hni k n k' m e1 e2) with hn | ⟨s, s', rfl, rfl, rfl⟩
      · rw [binOp_neq_eq hn, Sem.run_bind, (eqAt_sound (P := P) hx hy hr).1]; rfl
      · rw [beq_toListBytes]; rfl
    · cases h
  · cases h

end
end Go.Proofs.Ytkmeimhapokdlaa.Ae
