/- The operations that make or change memory: what follows an operation, and the operations one by one. Lemmas alone. -/
import Derived.Test.YtkmeimhapokdlaaAe8
set_option linter.unusedVariables false
set_option linter.unusedSimpArgs false
namespace Go.Proofs.Ytkmeimhapokdlaa.Ae
open Go

theorem lk_app {α : Type} (a b : List (Nat × α)) (t : Nat) : lk (a ++ b) t = match lk a t with | some v => some v | none => lk b t := by
  induction a with
  | nil => rfl
  | cons p a ih =>
    obtain ⟨k, v⟩ := p
    simp only [List.cons_append, lk]
    cases hb : Nat.beq k t <;> simp [ih]

/-- The heap with a change. -/
def over (hp : Hp) (Δ : Eff) : Hp := fun id => match lk Δ id with | some x => x | none => hp id

/-- The world outside is as it was. -/
def Env (w w' : World) : Prop := w'.os = w.os ∧ w'.tape = w.tape ∧ w'.output = w.output

/-- What an operation, or a call, leaves behind. -/
structure Post (F : FS) (L : LM) (w : World) (B0 : FS) (hp : Hp) (key : Nat) (v : AV) (Δ : Eff) (F' : FS) (L' : LM) (w' : World) (v' : Value) : Prop where
  val : VV F' L' w' v v'
  fle : ∀ b, F b → F' b
  lle : ∀ id l, L id = some l → L' id = some l
  lnew : ∀ id l, L' id = some l → L id = some l ∨ (key ≤ id ∧ id < key + 64)
  sz : w.heap.size ≤ w'.heap.size
  csz : ∀ b, csize w b ≤ csize w' b
  fb : ∀ b, F' b → b < w'.heap.size
  fnew : ∀ b, F' b → F b ∨ w.heap.size ≤ b ∨ ∃ id l o, lk Δ id = some none ∧ L id = some l ∧ l.at_ = some (b, o)
  frame : ∀ b, b < w.heap.size → (∀ id l o, lk Δ id ≠ none → hp id ≠ none → L id = some l → l.at_ ≠ some (b, o)) → w'.heap[b]? = w.heap[b]?
  hr : ∀ id bk, lk Δ id = some (some bk) → ∃ l, L' id = some l ∧ BR F' L' w' l bk ∧ ∀ b o, l.at_ = some (b, o) → B0 b ∧ b < w'.heap.size ∧ ¬ F' b ∧
    (w.heap.size ≤ b ∨ ∃ id' l' o', lk Δ id' ≠ none ∧ hp id' ≠ none ∧ L id' = some l' ∧ l'.at_ = some (b, o'))
  inj : ∀ id id' bk bk' l l' b o o', id ≠ id' → lk Δ id = some (some bk) → lk Δ id' = some (some bk') → L' id = some l → L' id' = some l' → l.at_ = some (b, o) → l'.at_ ≠ some (b, o')
  dom : ∀ id, lk Δ id ≠ none → hp id ≠ none ∨ (key ≤ id ∧ id < key + 64)
  env : Env w w'

section
variable {F F' : FS} {L L' : LM} {w w' : World} {B0 : FS} {hp : Hp} {key : Nat} {v : AV} {Δ : Eff} {v' : Value}

/-- The new numbers are new. -/
def Fresh (L : LM) (key : Nat) : Prop := ∀ id, key ≤ id → id < key + 64 → L id = none

theorem Post.wl (hh : HR F L hp w B0) (p : Post F L w B0 hp key v Δ F' L' w' v') : WL F w w' := by
  refine ⟨p.sz, p.csz, fun b hb => p.frame b (hh.fb b hb) ?_⟩
  intro id l o h1 h2 h3 h4
  cases hb' : hp id with
  | none => exact h2 hb'
  | some bk =>
    obtain ⟨l', e1, _, e2⟩ := hh.blk id bk hb'
    rw [h3] at e1; cases e1
    exact (e2 b o h4).2.2 hb

/-- The heap behind it. -/
theorem Post.heap (hh : HR F L hp w B0) (hf : Fresh L key) (p : Post F L w B0 hp key v Δ F' L' w' v') : HR F' L' (over hp Δ) w' B0 := by
  have wl := p.wl hh
  have old : ∀ id bk, lk Δ id = none → hp id = some bk → ∃ l, L id = some l ∧ L' id = some l ∧ BR F' L' w' l bk ∧ ∀ b o, l.at_ = some (b, o) → B0 b ∧ b < w.heap.size ∧ ¬ F' b ∧ ∀ id' l' o', lk Δ id' ≠ none → hp id' ≠ none → L id' = some l' → l'.at_ ≠ some (b, o') := by
    intro id bk h1 h2
    obtain ⟨l, e1, e2, e3⟩ := hh.blk id bk h2
    have sep : ∀ b o, l.at_ = some (b, o) → ∀ id' l' o', lk Δ id' ≠ none → hp id' ≠ none → L id' = some l' → l'.at_ ≠ some (b, o') := by
      intro b o hb id' l' o' q1 q2 q3 q4
      have hne : id ≠ id' := fun e => q1 (e ▸ h1)
      exact hh.inj id id' l l' b o o' hne (by rw [h2]; simp) q2 e1 q3 hb q4
    have same : ∀ b o, l.at_ = some (b, o) → w'.heap[b]? = w.heap[b]? := fun b o hb =>
      p.frame b (e3 b o hb).2.1 (sep b o hb)
    refine ⟨l, e1, p.lle _ _ e1, BR_mono p.fle p.lle wl same e2, fun b o hb => ⟨(e3 b o hb).1, (e3 b o hb).2.1, ?_, sep b o hb⟩⟩
    intro hF
    rcases p.fnew b hF with h | h | ⟨id', l', o', q1, q2, q3⟩
    · exact (e3 b o hb).2.2 h
    · have := (e3 b o hb).2.1; omega
    · by_cases hq : hp id' = none
      · rcases p.dom id' (by rw [q1]; simp) with h | h
        · exact h hq
        · rw [hf id' h.1 h.2] at q2; cases q2
      · exact sep b o hb id' l' o' (by rw [q1]; simp) hq q2 q3
  refine ⟨fun id bk h => ?_, fun id id' l l' b o o' hne h1 h2 h3 h4 h5 h6 => ?_, p.fb⟩
  · unfold over at h
    split at h
    · rename_i x hx
      subst h
      obtain ⟨l, e1, e2, e3⟩ := p.hr id bk hx
      exact ⟨l, e1, e2, fun b o hb => ⟨(e3 b o hb).1, (e3 b o hb).2.1, (e3 b o hb).2.2.1⟩⟩
    · rename_i hx
      obtain ⟨l, _, e1, e2, e3⟩ := old id bk hx h
      exact ⟨l, e1, e2, fun b o hb => ⟨(e3 b o hb).1, Nat.lt_of_lt_of_le (e3 b o hb).2.1 p.sz, (e3 b o hb).2.2.1⟩⟩
  · have split2 : ∀ id, over hp Δ id ≠ none → (∃ bk, lk Δ id = some (some bk)) ∨ (lk Δ id = none ∧ ∃ bk, hp id = some bk) := by
      intro id h
      unfold over at h
      split at h
      · rename_i x hx
        cases x with
        | none => exact absurd rfl h
        | some bk => exact .inl ⟨bk, hx⟩
      · rename_i hx
        cases hb : hp id with
        | none => exact absurd hb h
        | some bk => exact .inr ⟨hx, bk, rfl⟩
    rcases split2 id h1 with ⟨bk, q1⟩ | ⟨q1, bk, q2⟩ <;> rcases split2 id' h2 with ⟨bk', r1⟩ | ⟨r1, bk', r2⟩
    · exact p.inj id id' bk bk' l l' b o o' hne q1 r1 h3 h4 h5 h6
    · obtain ⟨k, e0, e1, _, e3⟩ := old id' bk' r1 r2
      rw [h4] at e1; cases e1
      obtain ⟨k', g1, _, g3⟩ := p.hr id bk q1
      rw [h3] at g1; cases g1
      rcases (g3 b o h5).2.2.2 with h | ⟨i, li, oi, s1, s2, s3, s4⟩
      · have := (e3 b o' h6).2.1; omega
      · exact (e3 b o' h6).2.2.2 i li oi s1 s2 s3 s4
    · obtain ⟨k, e0, e1, _, e3⟩ := old id bk q1 q2
      rw [h3] at e1; cases e1
      obtain ⟨k', g1, _, g3⟩ := p.hr id' bk' r1
      rw [h4] at g1; cases g1
      rcases (g3 b o' h6).2.2.2 with h | ⟨i, li, oi, s1, s2, s3, s4⟩
      · have := (e3 b o h5).2.1; omega
      · exact (e3 b o h5).2.2.2 i li oi s1 s2 s3 s4
    · obtain ⟨k, e0, e1, _⟩ := old id bk q1 q2
      obtain ⟨k', g0, g1, _⟩ := old id' bk' r1 r2
      rw [h3] at e1; cases e1
      rw [h4] at g1; cases g1
      exact hh.inj id id' _ _ b o o' hne (by rw [q2]; simp) (by rw [r2]; simp) e0 g0 h5 h6

/-- Nothing happened. -/
theorem Post.quiet (hh : HR F L hp w B0) (h : VV F L w v v') : Post F L w B0 hp key v [] F L w v' where
  val := h
  fle := fun _ h => h
  lle := fun _ _ h => h
  lnew := fun _ _ h => .inl h
  sz := Nat.le_refl _
  csz := fun _ => Nat.le_refl _
  fb := hh.fb
  fnew := fun _ h => .inl h
  frame := fun _ _ _ => rfl
  hr := fun _ _ h => by cases h
  inj := fun _ _ _ _ _ _ _ _ _ _ h => by cases h
  dom := fun _ h => absurd rfl h
  env := ⟨rfl, rfl, rfl⟩

end
end Go.Proofs.Ytkmeimhapokdlaa.Ae
