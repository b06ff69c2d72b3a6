/- Regions in the order of the text. Lemmas alone. -/
import Derived.Test.YtkmeimhapokdlaaAe17
import Derived.LoopN
import Derived.Tactics
set_option linter.unusedVariables false
set_option linter.unusedSimpArgs false
namespace Go.Proofs.Ytkmeimhapokdlaa.Ae
open Go

/-- A function with some values changed. -/
def upd {X : Type} (f : Nat → X) (u : Nat → Option X) : Nat → X := fun k => match u k with | some x => x | none => f k

def dstU (d : Option Nat) (v : AV) : Nat → Option AV := fun t => match d with | some s => if s = t then some v else none | none => none

theorem beqF {s t : Nat} (h : ¬ s = t) : Nat.beq s t = false := by
  cases hb : Nat.beq s t with
  | false => rfl
  | true => exact absurd (Nat.eq_of_beq_eq_true hb) h

theorem St.get_put (σ : St) (d : Option Nat) (v : AV) (Δ : Eff) : (σ.put d v Δ).get = upd σ.get (dstU d v) := by
  funext t
  cases d with
  | none => rfl
  | some s =>
    simp only [St.get, St.put, lk, upd, dstU]
    by_cases h : s = t
    · subst h; simp
    · have : Nat.beq s t = false := beqF h
      simp [this, h]

theorem St.blk_put (σ : St) (d : Option Nat) (v : AV) (Δ : Eff) : (σ.put d v Δ).blk = upd σ.blk (lk Δ) := by
  funext id
  simp only [St.blk, St.put, lk_app, upd]
  cases lk Δ id <;> rfl

theorem over_upd (h : Hp) (Δ : Eff) : over h Δ = upd h (lk Δ) := by
  funext id; unfold over upd; cases lk Δ id <;> rfl

theorem St.get_lit (σ : St) (t : Nat) (v : AV) (h : σ.get t = v) : St.get { σ with tm := (t, v) :: σ.tm } = σ.get := by
  funext s
  simp only [St.get, lk]
  by_cases e : t = s
  · subst e; simp; exact h.symm
  · have : Nat.beq t s = false := beqF e
    simp [this]

/-- The evaluator's state, and the program's. -/
structure Inv (gl : Nat → Option AV) (nt : Nat) (B0 : FS) (g : Nat → AV) (h : Hp) (F : FS) (L : LM) (a : Act) (w : World) : Prop where
  hr : HR F L h w B0
  base : ∀ b, w.heap.size ≤ b → B0 b
  gs : GS gl F L w
  ts : TS F L w g a
  df : a.defers = []
  sz : a.tmps.size = nt

section
variable {F F' : FS} {L L' : LM} {w w' : World} {P : Program} {B0 : FS} {key nt : Nat} {S : Specs} {gl : Nat → Option AV} {g : Nat → AV} {h : Hp} {a : Act}

theorem Inv.step (hi : Inv gl nt B0 g h F L a w) (hf : Fresh L key) {v : AV} {Δ : Eff} {v' : Value} (p : Post F L w B0 h key v Δ F' L' w' v') {d : Option Nat} (hd : ∀ t, d = some t → t < nt) :
    Inv gl nt B0 (upd g (dstU d v)) (upd h (lk Δ)) F' L' (a.put d v') w' := by
  have wl := p.wl hi.hr
  refine ⟨over_upd h Δ ▸ p.heap hi.hr hf, fun b hb => hi.base b (Nat.le_trans p.sz hb), GS_mono p.fle p.lle wl hi.gs, fun t => ?_, ?_, ?_⟩
  · have old := VV_mono p.fle p.lle wl (hi.ts t)
    cases d with
    | none => exact old
    | some s =>
      by_cases e : s = t
      · subst e
        have hlt := hd s rfl
        simp only [upd, dstU, if_pos, Act.put]
        rw [Array.getD_eq_getD_getElem?, Array.getElem?_setIfInBounds_self_of_lt (by rw [hi.sz]; exact hlt)]
        exact p.val
      · simp only [upd, dstU, e, if_false, Act.put]
        rw [Array.getD_eq_getD_getElem?, Array.getElem?_setIfInBounds_ne e, ← Array.getD_eq_getD_getElem?]
        exact old
  · cases d <;> exact hi.df
  · cases d with
    | none => exact hi.sz
    | some s => simp [Act.put, hi.sz]

theorem Inv.skip (hi : Inv gl nt B0 g h F L a w) {d : Option Nat} (hd : ∀ t, d = some t → t < nt) : Inv gl nt B0 (upd g (dstU d .undef)) (upd h (lk [])) F L (a.put d Go.undef) w := by
  refine ⟨?_, hi.base, hi.gs, fun t => ?_, ?_, ?_⟩
  · exact hi.hr
  · cases d with
    | none => exact hi.ts t
    | some s =>
      by_cases e : s = t
      · subst e
        have hlt := hd s rfl
        simp only [upd, dstU, if_pos, Act.put]
        rw [Array.getD_eq_getD_getElem?, Array.getElem?_setIfInBounds_self_of_lt (by rw [hi.sz]; exact hlt)]
        rfl
      · simp only [upd, dstU, e, if_false, Act.put]
        rw [Array.getD_eq_getD_getElem?, Array.getElem?_setIfInBounds_ne e, ← Array.getD_eq_getD_getElem?]
        exact hi.ts t
  · cases d <;> exact hi.df
  · cases d with
    | none => exact hi.sz
    | some s => simp [Act.put, hi.sz]

/-- More places. -/
def LE (L L' : LM) : Prop := ∀ id l, L id = some l → L' id = some l
theorem LE.refl (L : LM) : LE L L := fun _ _ h => h
theorem LE.trans {L L' L'' : LM} (h : LE L L') (h' : LE L' L'') : LE L L'' := fun id l hl => h' id l (h id l hl)

/-- Memory that only grew above B0, and below it is as it was. -/
structure Grow (B0 : FS) (F : FS) (w : World) (F' : FS) (w' : World) : Prop where
  sz : w.heap.size ≤ w'.heap.size
  csz : ∀ b, csize w b ≤ csize w' b
  frame : ∀ b, ¬ B0 b → w'.heap[b]? = w.heap[b]?
  fle : ∀ b, F b → F' b
  fnew : ∀ b, F' b → F b ∨ B0 b
  env : Env w w'

theorem Grow.refl (B0 : FS) (F : FS) (w : World) : Grow B0 F w F w := ⟨Nat.le_refl _, fun _ => Nat.le_refl _, fun _ _ => rfl, fun _ h => h, fun _ h => .inl h, rfl, rfl, rfl⟩

theorem Grow.trans {F'' : FS} {w'' : World} (h : Grow B0 F w F' w') (h' : Grow B0 F' w' F'' w'') : Grow B0 F w F'' w'' :=
  ⟨Nat.le_trans h.sz h'.sz, fun b => Nat.le_trans (h.csz b) (h'.csz b), fun b hb => (h'.frame b hb).trans (h.frame b hb), fun b hb => h'.fle b (h.fle b hb), fun b hb => (h'.fnew b hb).elim (h.fnew b) .inr, h'.env.1.trans h.env.1, h'.env.2.1.trans h.env.2.1, h'.env.2.2.trans h.env.2.2⟩

theorem Grow.of_post (hh : HR F L h w B0) (hB : ∀ b, w.heap.size ≤ b → B0 b) (hf : Fresh L key) {v : AV} {Δ : Eff} {v' : Value} (p : Post F L w B0 h key v Δ F' L' w' v') : Grow B0 F w F' w' := by
  have own : ∀ id l b o, h id ≠ none → L id = some l → l.at_ = some (b, o) → B0 b := by
    intro id l b o h1 h2 h3
    cases hb : h id with
    | none => exact absurd hb h1
    | some bk =>
      obtain ⟨l', e1, _, e2⟩ := hh.blk id bk hb
      rw [h2] at e1; cases e1
      exact (e2 b o h3).1
  refine ⟨p.sz, p.csz, fun b hb => p.frame b (Nat.lt_of_not_le fun hq => hb (hB b hq)) fun id l o h1 h2 h3 h4 => ?_, p.fle, fun b hb => ?_, p.env⟩
  · exact hb (own id l b o h2 h3 h4)
  · rcases p.fnew b hb with h | h | ⟨id, l, o, h1, h2, h3⟩
    · exact .inl h
    · exact .inr (hB b h)
    · rcases p.dom id (by rw [h1]; simp) with h | h
      · exact .inr (own id l b o h h2 h3)
      · rw [hf id h.1 h.2] at h2; cases h2

theorem goK_ex {R : Type} {i : Nat} {o : Oper} {σ : St} {K : St → Option R} {r : R} (h : goK S P gl i o σ K = some r) :
    ∃ v Δ, opE S P gl σ.get σ.blk (σ.nx + 64 * i) o = some (true, v, Δ) ∧ K (σ.put o.dst v Δ) = some r := by
  have rest : (match opE S P gl σ.get σ.blk (σ.nx + 64 * i) o with
    | some (c, v, Δ) => bif c then K (σ.put o.dst v Δ) else none
    | none => none) = some r → ∃ v Δ, opE S P gl σ.get σ.blk (σ.nx + 64 * i) o = some (true, v, Δ) ∧ K (σ.put o.dst v Δ) = some r := by
    intro h
    split at h
    case h_2 => cases h
    rename_i c v Δ he
    cases c
    · cases h
    · exact ⟨v, Δ, he, h⟩
  unfold goK at h
  split at h
  · rename_i c x y hop
    split at h
    case h_2 => cases h
    rename_i b hb
    cases b
    · simp only [cond_false] at h
      split at h
      case h_2 => cases h
      rename_i v hv
      exact ⟨v, [], by simp only [opE, hop, hb, hv, Bool.false_eq_true, if_false], h⟩
    · simp only [cond_true] at h
      split at h
      case h_2 => cases h
      rename_i v hv
      exact ⟨v, [], by simp only [opE, hop, hb, hv, if_true], h⟩
  · exact rest h

/-- What a guard says of the program's state. -/
theorem wants_true {all : List Oper} {o : Oper} {j t : Nat} {b : Bool} (hgd : o.guard = some (j, b)) (ht : (all[j]?).bind (·.dst) = some t) (hts : TS F L w g a) (hg : g t = .bool b) : Region.wanted o (yielded all.toArray a.tmps) = true := by
  have hv := hts t
  rw [hg] at hv
  have := VV_bool hv
  simp only [Region.wanted, hgd, yielded, List.getElem?_toArray, ht, Option.bind_some]
  rw [Array.getD_eq_getD_getElem?] at this
  cases h' : a.tmps[t]? with
  | none => rw [h'] at this; cases this
  | some x => rw [h'] at this; simp only [Option.getD_some] at this; subst this; simp

theorem wants_false {all : List Oper} {o : Oper} {j t : Nat} {b : Bool} (hgd : o.guard = some (j, b)) (ht : (all[j]?).bind (·.dst) = some t) (hts : TS F L w g a) (hg : g t = .bool (!b) ∨ g t = .undef) : Region.wanted o (yielded all.toArray a.tmps) = false := by
  have hv := hts t
  simp only [Region.wanted, hgd, yielded, List.getElem?_toArray, ht, Option.bind_some]
  rw [Array.getD_eq_getD_getElem?] at hv
  rcases hg with hg | hg
  · rw [hg] at hv
    have := VV_bool hv
    cases h' : a.tmps[t]? with
    | none => rw [h'] at this; cases this
    | some x => rw [h'] at this; simp only [Option.getD_some] at this; subst this; cases b <;> simp
  · rw [hg] at hv
    have hv' : (a.tmps[t]?).getD undef = Go.undef := hv
    cases h' : a.tmps[t]? with
    | none => simp
    | some x => rw [h'] at hv'; simp only [Option.getD_some] at hv'; subst hv'; simp [Go.undef]

/-- What one step of the evaluator's is: carried out, or not. -/
theorem stepK_ex {R : Type} {all : List Oper} {i : Nat} {o : Oper} {σ : St} {K : St → Option R} {r : R} (h : stepK S P gl all i o σ K = some r) :
    ∃ σ1 : St, σ1.get = σ.get ∧ σ1.hp = σ.hp ∧ σ1.nx = σ.nx ∧
      ((∃ v Δ, opE S P gl σ1.get σ1.blk (σ1.nx + 64 * i) o = some (true, v, Δ) ∧ K (σ1.put o.dst v Δ) = some r ∧ (o.guard = none ∨ ∃ j t b, o.guard = some (j, b) ∧ (all[j]?).bind (·.dst) = some t ∧ σ.get t = .bool b)) ∨
       (K (σ1.put o.dst .undef []) = some r ∧ ∃ j t b, o.guard = some (j, b) ∧ (all[j]?).bind (·.dst) = some t ∧ (σ.get t = .bool (!b) ∨ σ.get t = .undef))) := by
  unfold stepK at h
  have W : ∀ x, wants all σ o = some x → (x = .go ∧ o.guard = none) ∨ (∃ j t b, o.guard = some (j, b) ∧ (all[j]?).bind (·.dst) = some t ∧ ((x = .skip ∧ σ.get t = .undef) ∨ ∃ c, x = .ask t c b ∧ σ.get t = .bool c)) := by
    intro x hx
    unfold wants at hx
    split at hx
    · rename_i hgd; cases hx; exact .inl ⟨rfl, hgd⟩
    · rename_i j b hgd
      split at hx
      · rename_i t ht
        refine .inr ⟨j, t, b, hgd, ht, ?_⟩
        split at hx
        · rename_i c hc; cases hx; exact .inr ⟨c, rfl, hc⟩
        · rename_i hc; cases hx; exact .inl ⟨rfl, hc⟩
        · cases hx
      · cases hx
  split at h
  · rename_i hw
    rcases W _ hw with ⟨_, hgd⟩ | ⟨j, t, b, _, _, ⟨e, _⟩ | ⟨c, e, _⟩⟩
    · obtain ⟨v, Δ, h1, h2⟩ := goK_ex h
      exact ⟨σ, rfl, rfl, rfl, .inl ⟨v, Δ, h1, h2, .inl hgd⟩⟩
    · cases e
    · cases e
  · rename_i hw
    rcases W _ hw with ⟨e, _⟩ | ⟨j, t, b, h1, h2, ⟨_, h3⟩ | ⟨c, e, _⟩⟩
    · cases e
    · exact ⟨σ, rfl, rfl, rfl, .inr ⟨h, j, t, b, h1, h2, .inr h3⟩⟩
    · cases e
  · rename_i t b hw
    rcases W _ hw with ⟨e, _⟩ | ⟨j, t', b', h1, h2, ⟨e, h3⟩ | ⟨c, e, h3⟩⟩
    · cases e
    · cases e
    · cases e
      cases b
      · exact ⟨{ σ with tm := (t, .bool false) :: σ.tm }, St.get_lit _ _ _ h3, rfl, rfl, .inr ⟨h, j, t, true, h1, h2, .inl h3⟩⟩
      · obtain ⟨v, Δ, q1, q2⟩ := goK_ex h
        exact ⟨{ σ with tm := (t, .bool true) :: σ.tm }, St.get_lit _ _ _ h3, rfl, rfl, .inl ⟨v, Δ, q1, q2, .inr ⟨j, t, true, h1, h2, h3⟩⟩⟩
  · rename_i t b hw
    rcases W _ hw with ⟨e, _⟩ | ⟨j, t', b', h1, h2, ⟨e, h3⟩ | ⟨c, e, h3⟩⟩
    · cases e
    · cases e
    · cases e
      cases b
      · obtain ⟨v, Δ, q1, q2⟩ := goK_ex h
        exact ⟨{ σ with tm := (t, .bool false) :: σ.tm }, St.get_lit _ _ _ h3, rfl, rfl, .inl ⟨v, Δ, q1, q2, .inr ⟨j, t, false, h1, h2, h3⟩⟩⟩
      · exact ⟨{ σ with tm := (t, .bool true) :: σ.tm }, St.get_lit _ _ _ h3, rfl, rfl, .inr ⟨h, j, t, false, h1, h2, .inl h3⟩⟩
  · cases h

def dstsOk (nt : Nat) (l : List Oper) : Bool := l.all fun o => match o.dst with | some t => Nat.blt t nt | none => true

theorem ops_sound (hS : SpecOK S P gl) {R : Type} {all : List Oper} {Q : Exit → Act → World → Prop} {K : St → Option R} {r : R} {nx : Nat} :
    ∀ (l : List Oper) (i : Nat) (σ : St) (F : FS) (L : LM) (a : Act) (w : World), dstsOk nt l = true → σ.nx = nx → opsK S P gl all i l σ K = some r → Inv gl nt B0 σ.get σ.blk F L a w → (∀ id, nx + 64 * i ≤ id → L id = none) →
      (∀ (σ' : St) (F' : FS) (L' : LM) (a' : Act) (w' : World), Inv gl nt B0 σ'.get σ'.blk F' L' a' w' → (∀ id, nx + 64 * (i + l.length) ≤ id → L' id = none) → σ'.nx = nx → Grow B0 F w F' w' → LE L L' → K σ' = some r → Q .normal a' w') →
      wpList P all.toArray Q l a w
  | [], i, σ, F, L, a, w, _, hnx, hk, hi, hfr, hq => hq σ F L a w hi hfr hnx (Grow.refl _ _ _) (LE.refl _) hk
  | o :: l, i, σ, F, L, a, w, hd, hnx, hk, hi, hfr, hq => by
    simp only [dstsOk, List.all_cons, Bool.and_eq_true] at hd
    have hdo : ∀ t, o.dst = some t → t < nt := by
      intro t ht
      have := hd.1
      rw [ht] at this
      simpa using this
    obtain ⟨σ1, e1, e2, e3, hcase⟩ := stepK_ex hk
    have eb : σ1.blk = σ.blk := by funext id; simp only [St.blk, e2]
    have hfresh : Fresh L (σ1.nx + 64 * i) := fun id h1 h2 => hfr id (by rw [e3, hnx] at h1; exact h1)
    rcases hcase with ⟨v, Δ, h1, h2, h3⟩ | ⟨h2, j, t, b, h3, h4, h5⟩
    · have hw : Region.wanted o (yielded all.toArray a.tmps) = true := by
        rcases h3 with h3 | ⟨j, t, b, h3, h4, h5⟩
        · simp [Region.wanted, h3]
        · exact wants_true h3 h4 hi.ts h5
      unfold wpList
      rw [if_pos hw]
      refine .inl (op_sound hS (by rw [← eb] at hi; exact hi.hr) hi.base hfresh hi.gs (by rw [e1]; exact hi.ts) h1 fun v' w' F' L' p => ?_)
      rw [eb] at p
      have hi' := hi.step hfresh p hdo
      rw [← e1, ← eb, ← St.get_put, ← St.blk_put] at hi'
      refine ops_sound hS l (i + 1) (σ1.put o.dst v Δ) F' L' _ w' hd.2 (by rw [← hnx, ← e3]; rfl) h2 hi' (fun id hid => ?_) fun σ' F'' L'' a' w'' hi'' hfr'' hn'' hs'' hl'' hk'' => hq σ' F'' L'' a' w'' hi'' (fun id hid => hfr'' id (by simp only [List.length_cons] at hid; omega)) hn'' ((Grow.of_post hi.hr hi.base hfresh p).trans hs'') (LE.trans p.lle hl'') hk''
      cases hl : L' id with
      | none => rfl
      | some l' =>
        rcases p.lnew id l' hl with h | h
        · rw [hfr id (by omega)] at h; cases h
        · rw [e3, hnx] at h; omega
    · have hw : Region.wanted o (yielded all.toArray a.tmps) = false := wants_false h3 h4 hi.ts h5
      unfold wpList
      rw [if_neg (by rw [hw]; simp)]
      have hi' := hi.skip (d := o.dst) hdo
      rw [← e1, ← eb, ← St.get_put, ← St.blk_put] at hi'
      exact ops_sound hS l (i + 1) (σ1.put o.dst .undef []) F L _ w hd.2 (by rw [← hnx, ← e3]; rfl) h2 hi' (fun id hid => hfr id (by omega)) fun σ' F'' L'' a' w'' hi'' hfr'' hn'' hs'' hl'' hk'' => hq σ' F'' L'' a' w'' hi'' (fun id hid => hfr'' id (by simp only [List.length_cons] at hid; omega)) hn'' hs'' hl'' hk''

end
end Go.Proofs.Ytkmeimhapokdlaa.Ae
