/- append as a whole; composite slices. Lemmas alone. -/
import Derived.Test.YtkmeimhapokdlaaAe14
set_option linter.unusedVariables false
set_option linter.unusedSimpArgs false
namespace Go.Proofs.Ytkmeimhapokdlaa.Ae
open Go

section
variable {F F' : FS} {L : LM} {w w' : World} {P : Program} {hp : Hp} {B0 : FS} {key : Nat}

theorem append_types {ts : Array TypeId} {t u ty : TypeId} {xs : Array Value} (h0 : ts[0]? = some t) (h1 : ts[1]? = some u) : Builtin.append_ ts ty xs = Builtin.append_ #[t, u] ty xs := by
  simp [Builtin.append_, h0, h1]

theorem append'_sound (hh : HR F L hp w B0) (hB : ∀ b, w.heap.size ≤ b → B0 b) (hf : Fresh L key) {ts : Array TypeId} {ty : TypeId} {s x v : AV} {sv xv : Value} {Δ : Eff} (hs : VV F L w s sv) (hx : VV F L w x xv) (h : append' P hp key ts s x = some (true, v, Δ)) :
    ∃ w' v' L', (Builtin.append_ ts ty #[sv, xv]).run P w = .ok v' w' ∧ Post F L w B0 hp key v Δ F L' w' v' := by
  unfold append' at h
  split at h
  case h_2 => cases h
  rename_i t u h0 h1
  rw [append_types h0 h1]
  split at h
  case h_2 => cases h
  rename_i e d ht hd
  have hu : P.underlying u = some d ∧ ∀ k, d ≠ .int k := by
    cases hpu : P.underlying u with
    | none => rw [hpu] at hd; cases hd
    | some d' =>
      rw [hpu] at hd
      cases d' <;> simp at hd <;> subst hd <;> exact ⟨rfl, fun k => by simp⟩
  split at h
  case h_2 => cases h
  rename_i K hK
  split at h
  case isFalse => cases h
  rename_i hc
  obtain ⟨c1, c2, c3, c4⟩ := hc
  obtain ⟨i, z, hi, hz, hzs, _⟩ := zeroOk_len c4
  have his : i.size = K.size := by simp [c1, Program.cellsOf, hi]
  have hib : P.bytesOf e = i.bytes := by simp [Program.bytesOf, hi]
  rw [hib] at h c3
  split at h
  case h_2 => cases h
  rename_i ys hsrc
  obtain ⟨news, g1, g2, g3⟩ := source_sound (P := P) hh hx hsrc
  have go : ∀ {old : List Nat} {xs : List K.T}, ((s = .nils ∧ xs = [] ∧ old = []) ∨ (∃ K' nn, s = .rs K' [] nn true ∧ xs = [] ∧ old = []) ∨ (∃ id off len ys, s = .hs id off len ∧ hp id = some (.row K ys) ∧ xs = (ys.drop off).take len ∧ old = [id]) ∨ (∃ id, s = .hw id ∧ hp id = some (.row K xs) ∧ old = [id])) →
      fits (xs.length + ys.length) i.bytes = true → ∃ w' v' L', (Builtin.append_ #[t, u] ty #[sv, xv]).run P w = .ok v' w' ∧ Post F L w B0 hp key (.hw key) (kill old ++ [(key, some (.row K (xs ++ ys)))]) F L' w' v' := by
    intro old xs h hfit
    obtain ⟨a, c, rfl, hd⟩ := dst_sound hh hs h
    exact append_post hh hB hf hd ht hu.1 hu.2 hi hz hzs his c3 (of_decide_eq_true hfit) g1 g2 g3
  split at h
  · simp only [Option.some.injEq, Prod.mk.injEq] at h
    obtain ⟨hfit, rfl, rfl⟩ := h
    have := go (old := []) (xs := []) (.inl ⟨rfl, rfl, rfl⟩) (by simpa using hfit)
    exact this
  · rename_i K' nn
    simp only [Option.some.injEq, Prod.mk.injEq] at h
    obtain ⟨hfit, rfl, rfl⟩ := h
    exact go (old := []) (xs := []) (.inr (.inl ⟨K', nn, rfl, rfl, rfl⟩)) (by simpa using hfit)
  · rename_i id off len
    split at h
    case h_2 => cases h
    rename_i K' zs hb
    split at h
    case h_2 => cases h
    rename_i zs' hcast
    obtain ⟨hK', hzs'⟩ := castL_some hcast
    subst hK'
    subst hzs'
    simp only [Option.some.injEq, Prod.mk.injEq] at h
    obtain ⟨hfit, rfl, rfl⟩ := h
    have hlen : ((zs'.drop off).take len).length = len := by
      replace hs := VV_one rfl rfl hs
      simp only [VR, List.cons.injEq, and_true] at hs
      obtain ⟨l, a, c, k1, k2, k3, k4, k5, k6⟩ := hs
      obtain ⟨l', hl', ⟨e1, e2, e3, e4⟩, _⟩ := hh.blk id _ hb
      rw [k1] at hl'; cases hl'
      simp; omega
    exact go (old := [id]) (.inr (.inr (.inl ⟨id, off, len, zs', rfl, hb, rfl, rfl⟩))) (by rw [hlen]; exact hfit)
  · rename_i id
    split at h
    case h_2 => cases h
    rename_i K' zs hb
    split at h
    case h_2 => cases h
    rename_i zs' hcast
    obtain ⟨hK', hzs'⟩ := castL_some hcast
    subst hK'
    subst hzs'
    simp only [Option.some.injEq, Prod.mk.injEq] at h
    obtain ⟨hfit, rfl, rfl⟩ := h
    exact go (old := [id]) (.inr (.inr (.inr ⟨id, rfl, hb, rfl⟩))) hfit
  · cases h

end
end Go.Proofs.Ytkmeimhapokdlaa.Ae
