/- Regions whose order is drawn. Lemmas alone. -/
import Derived.Test.YtkmeimhapokdlaaAe18
set_option linter.unusedVariables false
set_option linter.unusedSimpArgs false
namespace Go.Proofs.Ytkmeimhapokdlaa.Ae
open Go

/-! ### An operation looks at its operands alone -/
section congr
variable {P : Program} {S : Specs} {gl : Nat → Option AV} {g g' : Nat → AV} {hp : Hp} {key : Nat}

theorem opnds_congr : ∀ (l : List Operand), (∀ x ∈ l, opnd gl g x = opnd gl g' x) → opnds gl g l = opnds gl g' l
  | [], _ => rfl
  | x :: l, h => by
    simp only [opnds]
    rw [h x (by simp), opnds_congr l fun y hy => h y (by simp [hy])]

theorem parts_congr : ∀ (l : List (Nat × Operand)), (∀ x ∈ l.map (·.2), opnd gl g x = opnd gl g' x) → parts gl g l = parts gl g' l
  | [], _ => rfl
  | (i, x) :: l, h => by
    simp only [parts]
    rw [h x (by simp), parts_congr l fun y hy => h y (by simp only [List.map_cons, List.mem_cons]; exact .inr hy)]

theorem optnd_congr {x : Option Operand} (h : ∀ y, x = some y → opnd gl g y = opnd gl g' y) : optnd gl g x = optnd gl g' x := by
  cases x with
  | none => rfl
  | some x => simp only [optnd]; rw [h x rfl]

theorem opE_congr {o : Oper} (h : ∀ x ∈ o.op.operands.toList, opnd gl g x = opnd gl g' x) : opE S P gl g hp key o = opE S P gl g' hp key o := by
  obtain ⟨dst, op, type, pos, after, guard⟩ := o
  cases op <;> simp only [Op.operands, List.mem_cons, List.not_mem_nil, or_false] at h <;> simp only [opE]
  case build t ps => rw [parts_congr _ (by simpa using h)]
  case buildSlice t n ps => rw [parts_congr _ (by simpa using h)]
  case makeFunc f xs ys =>
    rw [opnds_congr xs.toList fun x hx => h x (by simp at hx ⊢; exact .inl hx), opnds_congr ys.toList fun x hx => h x (by simp at hx ⊢; exact .inr hx)]
  case slice t x lo hi mx =>
    rw [h x (by simp), optnd_congr (x := lo) fun y hy => h y (by simp [hy]), optnd_congr (x := hi) fun y hy => h y (by simp [hy]), optnd_congr (x := mx) fun y hy => h y (by simp [hy])]
  case call c =>
    obtain ⟨callee, args, argTypes⟩ := c
    have ha := opnds_congr (gl := gl) (g := g) (g' := g') args.toList fun x hx => h x (by simp only [Call.operands]; cases callee <;> simp at hx ⊢ <;> simp [hx])
    cases callee with
    | builtin b => cases b <;> simp only [call', ha]
    | invoke r m => simp only [call', ha]
    | value f =>
      have : opnd gl g f = opnd gl g' f := h f (by simp [Call.operands])
      unfold call'
      rw [ha]
      show (match opnds gl g' args.toList with | some args => _ | none => _) = _
      cases opnds gl g' args.toList with
      | none => rfl
      | some args => show (match opnd gl g f with | some (.fn (.func f) first cap) => S f (chainApp first (chainApp args cap)) hp key | _ => none) = _; rw [this]; rfl
  case pick c x y =>
    have hb : ∀ b : Bool, opnd gl g (if b = true then x else y) = opnd gl g' (if b = true then x else y) := by
      intro b
      cases b
      · exact h y (by simp)
      · exact h x (by simp)
    have hc := h c (by simp)
    simp only [hc, hb]
  case makeMap t r => cases r <;> rfl
  case mapUpdate t x k v => rw [h x (by simp), h k (by simp), h v (by simp)]
  case insert t x k v => rw [h x (by simp), h k (by simp), h v (by simp)]
  all_goals first
    | rfl
    | (rw [h _ rfl]; done)
    | (rw [h _ (.inl rfl), h _ (.inr rfl)]; done)
end congr

/-! ### Changes in any order -/
def acc {X : Type} : Nat → List (Nat → Option X) → (Nat → Bool) → (Nat → X) → (Nat → X)
  | _, [], _, f => f
  | i, u :: l, D, f => acc (i + 1) l D (bif D i then upd f u else f)

section acc
variable {X : Type}

theorem acc_congr {k : Nat} : ∀ (l : List (Nat → Option X)) (i : Nat) (D D' : Nat → Bool) (f f' : Nat → X), f k = f' k → (∀ j u, l[j]? = some u → u k ≠ none → D (i + j) = D' (i + j)) → acc i l D f k = acc i l D' f' k
  | [], _, _, _, _, _, h, _ => h
  | u :: l, i, D, D', f, f', h, hd => by
    simp only [acc]
    refine acc_congr l (i + 1) D D' _ _ ?_ fun j v hj hv => ?_
    · cases hu : u k with
      | none => cases D i <;> cases D' i <;> simp [upd, hu, h]
      | some x =>
        have := hd 0 u rfl (by rw [hu]; simp)
        rw [Nat.add_zero] at this
        rw [this]
        cases D' i <;> simp [upd, hu, h]
    · have := hd (j + 1) v (by simpa using hj) hv
      rw [show i + 1 + j = i + (j + 1) by omega]
      exact this

theorem acc_none : ∀ (l : List (Nat → Option X)) (i : Nat) (D : Nat → Bool) (f : Nat → X), (∀ j, i ≤ j → D j = false) → acc i l D f = f
  | [], _, _, _, _ => rfl
  | u :: l, i, D, f, h => by
    simp only [acc, h i (Nat.le_refl _), cond_false]
    exact acc_none l (i + 1) D f fun j hj => h j (by omega)

theorem acc_put {k : Nat} : ∀ (l : List (Nat → Option X)) (i n : Nat) (D D' : Nat → Bool) (f : Nat → X) (u : Nat → Option X), l[n]? = some u → D' (i + n) = true → (∀ j, j ≠ i + n → D' j = D j) → D (i + n) = false →
    (∀ j v, n < j → l[j]? = some v → D (i + j) = true → v k ≠ none → u k = none) → acc i l D' f k = upd (acc i l D f) u k
  | [], _, _, _, _, _, _, h, _, _, _, _ => by simp at h
  | v :: l, i, 0, D, D', f, u, h, h1, h2, h3, h4 => by
    simp only [List.getElem?_cons_zero, Option.some.injEq] at h
    subst h
    rw [Nat.add_zero] at h1 h3
    simp only [acc, h1, h3, cond_true, cond_false]
    have hcong : ∀ f, acc (i + 1) l D' f = acc (i + 1) l D f := fun f => by
      funext k; exact acc_congr l (i + 1) D' D f f rfl fun j v _ _ => h2 _ (by omega)
    rw [hcong]
    cases hv : v k with
    | none =>
      simp only [upd, hv]
      exact acc_congr l (i + 1) D D _ _ (by simp [upd, hv]) fun _ _ _ _ => rfl
    | some x =>
      have : ∀ (l' : List (Nat → Option X)) (i' : Nat) (f : Nat → X), f k = x → (∀ j v', l'[j]? = some v' → D (i' + j) = true → v' k = none) → acc i' l' D f k = x := by
        intro l'
        induction l' with
        | nil => intro _ _ h _; exact h
        | cons v' l' ih =>
          intro i' f hf hn
          simp only [acc]
          refine ih (i' + 1) _ ?_ fun j v'' hj hd => hn (j + 1) v'' (by simpa using hj) (by rw [show i' + (j + 1) = i' + 1 + j by omega]; exact hd)
          cases hd : D i' with
          | false => exact hf
          | true => have := hn 0 v' rfl (by simpa using hd); simp [upd, this, hf]
      simp only [upd, hv]
      refine this l (i + 1) _ (by simp [upd, hv]) fun j v' hj hd => ?_
      cases hv' : v' k with
      | none => rfl
      | some y =>
        have := h4 (j + 1) v' (by omega) (by simpa using hj) (by rw [show i + (j + 1) = i + 1 + j by omega]; exact hd) (by rw [hv']; simp)
        rw [hv] at this; cases this
  | v :: l, i, n + 1, D, D', f, u, h, h1, h2, h3, h4 => by
    simp only [acc]
    rw [h2 i (by omega)]
    exact acc_put l (i + 1) n D D' _ u (by simpa using h) (by rw [show i + 1 + n = i + (n + 1) by omega]; exact h1) (fun j hj => h2 j (by omega)) (by rw [show i + 1 + n = i + (n + 1) by omega]; exact h3)
      fun j v' hj hv hd hk => h4 (j + 1) v' (by omega) (by simpa using hv) (by rw [show i + (j + 1) = i + 1 + j by omega]; exact hd) hk
end acc

section
variable {F F' : FS} {L L' : LM} {w w' : World} {P : Program} {B0 : FS} {key nt nx : Nat} {S : Specs} {gl : Nat → Option AV} {g : Nat → AV} {h : Hp} {a : Act}

theorem HR_sub {h' : Hp} (hs : ∀ id bk, h' id = some bk → h id = some bk) (hh : HR F L h w B0) : HR F L h' w B0 :=
  ⟨fun id bk hb => hh.blk id bk (hs id bk hb), fun id id' l l' b o o' hne h1 h2 => hh.inj id id' l l' b o o' hne
    (by cases hb : h' id with
      | none => exact absurd hb h1
      | some bk => rw [hs id bk hb]; simp)
    (by cases hb : h' id' with
      | none => exact absurd hb h2
      | some bk => rw [hs id' bk hb]; simp), hh.fb⟩

theorem only_some {R : List Nat} {id : Nat} {bk : Bk} (hb : only h R id = some bk) : h id = some bk := by
  unfold only at hb
  split at hb
  · exact hb
  · cases hb

theorem Post.up {h' : Hp} {v : AV} {Δ : Eff} {v' : Value} (hs : ∀ id bk, h' id = some bk → h id = some bk) (p : Post F L w B0 h' key v Δ F' L' w' v') : Post F L w B0 h key v Δ F' L' w' v' := by
  have up : ∀ id, h' id ≠ none → h id ≠ none := fun id hn => by
    cases hb : h' id with
    | none => exact absurd hb hn
    | some bk => rw [hs id bk hb]; simp
  exact ⟨p.val, p.fle, p.lle, p.lnew, p.sz, p.csz, p.fb, p.fnew, fun b hb hn => p.frame b hb fun id l o h1 h2 h3 => hn id l o h1 (up id h2) h3,
    fun id bk hb => by
      obtain ⟨l, e1, e2, e3⟩ := p.hr id bk hb
      refine ⟨l, e1, e2, fun b o hbo => ⟨(e3 b o hbo).1, (e3 b o hbo).2.1, (e3 b o hbo).2.2.1, (e3 b o hbo).2.2.2.imp (fun h => h) fun ⟨id', l', o', q1, q2, q3⟩ => ⟨id', l', o', q1, up id' q2, q3⟩⟩⟩,
    p.inj, fun id hd => (p.dom id hd).imp (up id) fun h => h, p.env⟩

/-- The trace of such a region: what each operation gave, and what it was let see. -/
structure Ent where
  v : AV
  Δ : Eff
  run : Bool
  R : List Nat

def guardT (all : List Oper) (g : Nat → AV) (o : Oper) : Prop := o.guard = none ∨ ∃ j t b, o.guard = some (j, b) ∧ (all[j]?).bind (·.dst) = some t ∧ g t = .bool b
def guardF (all : List Oper) (g : Nat → AV) (o : Oper) : Prop := ∃ j t b, o.guard = some (j, b) ∧ (all[j]?).bind (·.dst) = some t ∧ (g t = .bool (!b) ∨ g t = .undef)

def Ok1 (S : Specs) (P : Program) (gl : Nat → Option AV) (nx : Nat) (all : List Oper) (j : Nat) (o : Oper) (e : Ent) (g : Nat → AV) (h : Hp) : Prop :=
  (e.run = true ∧ guardT all g o ∧ opE S P gl g (only h e.R) (nx + 64 * j) o = some (true, e.v, e.Δ)) ∨ (e.run = false ∧ guardF all g o ∧ e.v = .undef ∧ e.Δ = [])

def gus : List Oper → List Ent → List (Nat → Option AV)
  | o :: l, e :: es => dstU o.dst e.v :: gus l es
  | _, _ => []
def hus : List Ent → List (Nat → Option (Option Bk))
  | [] => []
  | e :: es => lk e.Δ :: hus es
def recsOf : Nat → List Ent → List Rec → List Rec
  | _, [], acc => acc
  | i, e :: es, acc => recsOf (i + 1) es (⟨i, domE e.Δ, e.R⟩ :: acc)

theorem goD_ex {R : Type} {i : Nat} {o : Oper} {σ : St} {K : St → Rec → Option R} {r : R} (h : goD S P gl i o σ K = some r) :
    ∃ v Δ rd, opE S P gl σ.get (only σ.blk rd) (σ.nx + 64 * i) o = some (true, v, Δ) ∧ K (σ.put o.dst v Δ) ⟨i, domE Δ, rd⟩ = some r := by
  unfold goD at h
  split at h
  · rename_i c x y hop
    split at h
    case h_2 => cases h
    rename_i b hb
    cases b
    · simp only [cond_false] at h
      split at h
      case h_2 => cases h
      rename_i v hv
      exact ⟨v, [], [], by simp only [opE, hop, hb, hv, Bool.false_eq_true, if_false], h⟩
    · simp only [cond_true] at h
      split at h
      case h_2 => cases h
      rename_i v hv
      exact ⟨v, [], [], by simp only [opE, hop, hb, hv, if_true], h⟩
  · split at h
    · cases h
    rename_i ρ n hρ
    split at h
    case h_2 => cases h
    rename_i c v Δ he
    cases c
    · cases h
    · exact ⟨v, Δ, _, he, h⟩

theorem wants_ex {all : List Oper} {o : Oper} {σ : St} {x : Ask} (hx : wants all σ o = some x) : (x = .go ∧ o.guard = none) ∨ (∃ j t b, o.guard = some (j, b) ∧ (all[j]?).bind (·.dst) = some t ∧ ((x = .skip ∧ σ.get t = .undef) ∨ ∃ c, x = .ask t c b ∧ σ.get t = .bool c)) := by
  unfold wants at hx
  split at hx
  · rename_i hgd; cases hx; exact .inl ⟨rfl, hgd⟩
  · rename_i j b hgd
    split at hx
    · rename_i t ht
      refine .inr ⟨j, t, b, hgd, ht, ?_⟩
      split at hx
      · rename_i c hc; cases hx; exact .inr ⟨c, rfl, hc⟩
      · rename_i hc; cases hx; exact .inl ⟨rfl, hc⟩
      · cases hx
    · cases hx

theorem drawK_ex {R : Type} {all : List Oper} {K : St → Option R} {r : R} : ∀ (l : List Oper) (i : Nat) (recs : List Rec) (σ : St), drawK S P gl all i l recs σ K = some r →
    ∃ (es : List Ent) (σ' : St), es.length = l.length ∧ (∀ k o e, l[k]? = some o → es[k]? = some e → Ok1 S P gl σ.nx all (i + k) o e (acc i (gus l es) (fun q => decide (q < i + k)) σ.get) (acc i (hus es) (fun q => decide (q < i + k)) σ.blk)) ∧
      recsOk all (recsOf i es recs) = true ∧ K σ' = some r ∧ σ'.get = acc i (gus l es) (fun _ => true) σ.get ∧ σ'.blk = acc i (hus es) (fun _ => true) σ.blk ∧ σ'.nx = σ.nx
  | [], i, recs, σ, hk => by
    simp only [drawK] at hk
    split at hk
    · rename_i hr
      exact ⟨[], σ, rfl, fun k o e hk => by simp at hk, hr, hk, rfl, rfl, rfl⟩
    · cases hk
  | o :: l, i, recs, σ, hk => by
    have one : ∀ (σ1 : St) (e : Ent), σ1.get = σ.get → σ1.hp = σ.hp → σ1.nx = σ.nx → Ok1 S P gl σ.nx all i o e σ.get σ.blk → drawK S P gl all (i + 1) l (⟨i, domE e.Δ, e.R⟩ :: recs) (σ1.put o.dst e.v e.Δ) K = some r →
        ∃ (es : List Ent) (σ' : St), es.length = (o :: l).length ∧ (∀ k o' e, (o :: l)[k]? = some o' → es[k]? = some e → Ok1 S P gl σ.nx all (i + k) o' e (acc i (gus (o :: l) es) (fun q => decide (q < i + k)) σ.get) (acc i (hus es) (fun q => decide (q < i + k)) σ.blk)) ∧
          recsOk all (recsOf i es recs) = true ∧ K σ' = some r ∧ σ'.get = acc i (gus (o :: l) es) (fun _ => true) σ.get ∧ σ'.blk = acc i (hus es) (fun _ => true) σ.blk ∧ σ'.nx = σ.nx := by
      intro σ1 e e1 e2 e3 hok hk'
      have eb : σ1.blk = σ.blk := by funext id; simp only [St.blk, e2]
      obtain ⟨es, σ', h1, h2, h3, h4, h5, h6, h7⟩ := drawK_ex l (i + 1) _ _ hk'
      rw [St.get_put, e1] at h2 h5
      rw [St.blk_put, eb] at h2 h6
      have hnx : (σ1.put o.dst e.v e.Δ).nx = σ.nx := e3
      rw [hnx] at h2 h7
      refine ⟨e :: es, σ', by simp [h1], fun k o' e' hk1 hk2 => ?_, h3, h4, ?_, ?_, h7⟩
      · cases k with
        | zero =>
          simp only [List.getElem?_cons_zero, Option.some.injEq] at hk1 hk2
          subst hk1 hk2
          rw [Nat.add_zero, acc_none _ _ _ _ (fun j hj => by simp; omega), acc_none _ _ _ _ (fun j hj => by simp; omega)]
          exact hok
        | succ k =>
          have := h2 k o' e' (by simpa using hk1) (by simpa using hk2)
          simp only [gus, hus, acc]
          have hd : decide (i < i + (k + 1)) = true := by simp
          rw [hd]
          simp only [cond_true]
          rw [show i + (k + 1) = i + 1 + k by omega]
          exact this
      · simp only [gus, acc, cond_true]; exact h5
      · simp only [hus, acc, cond_true]; exact h6
    have onego : ∀ (σ1 : St), σ1.get = σ.get → σ1.hp = σ.hp → σ1.nx = σ.nx → guardT all σ.get o → goD S P gl i o σ1 (fun σ r => drawK S P gl all (i + 1) l (r :: recs) σ K) = some r →
        ∃ (es : List Ent) (σ' : St), es.length = (o :: l).length ∧ (∀ k o' e, (o :: l)[k]? = some o' → es[k]? = some e → Ok1 S P gl σ.nx all (i + k) o' e (acc i (gus (o :: l) es) (fun q => decide (q < i + k)) σ.get) (acc i (hus es) (fun q => decide (q < i + k)) σ.blk)) ∧
          recsOk all (recsOf i es recs) = true ∧ K σ' = some r ∧ σ'.get = acc i (gus (o :: l) es) (fun _ => true) σ.get ∧ σ'.blk = acc i (hus es) (fun _ => true) σ.blk ∧ σ'.nx = σ.nx := by
      intro σ1 e1 e2 e3 hgd hgo
      have eb : σ1.blk = σ.blk := by funext id; simp only [St.blk, e2]
      obtain ⟨v, Δ, rd, q1, q2⟩ := goD_ex hgo
      exact one σ1 ⟨v, Δ, true, rd⟩ e1 e2 e3 (.inl ⟨rfl, hgd, by rw [← e1, ← eb, ← e3]; exact q1⟩) q2
    simp only [drawK] at hk
    split at hk
    · rename_i hw
      rcases wants_ex hw with ⟨_, hgd⟩ | ⟨j, t, b, _, _, ⟨e, _⟩ | ⟨c, e, _⟩⟩
      · exact onego σ rfl rfl rfl (.inl hgd) hk
      · cases e
      · cases e
    · rename_i hw
      rcases wants_ex hw with ⟨e, _⟩ | ⟨j, t, b, h1, h2, ⟨_, h3⟩ | ⟨c, e, _⟩⟩
      · cases e
      · exact one σ ⟨.undef, [], false, []⟩ rfl rfl rfl (.inr ⟨rfl, ⟨j, t, b, h1, h2, .inr h3⟩, rfl, rfl⟩) hk
      · cases e
    · rename_i t b hw
      rcases wants_ex hw with ⟨e, _⟩ | ⟨j, t', b', h1, h2, ⟨e, h3⟩ | ⟨c, e, h3⟩⟩
      · cases e
      · cases e
      · cases e
        cases b
        · exact one { σ with tm := (t, .bool false) :: σ.tm } ⟨.undef, [], false, []⟩ (St.get_lit _ _ _ h3) rfl rfl (.inr ⟨rfl, ⟨j, t, true, h1, h2, .inl h3⟩, rfl, rfl⟩) hk
        · exact onego { σ with tm := (t, .bool true) :: σ.tm } (St.get_lit _ _ _ h3) rfl rfl (.inr ⟨j, t, true, h1, h2, h3⟩) hk
    · rename_i t b hw
      rcases wants_ex hw with ⟨e, _⟩ | ⟨j, t', b', h1, h2, ⟨e, h3⟩ | ⟨c, e, h3⟩⟩
      · cases e
      · cases e
      · cases e
        cases b
        · exact onego { σ with tm := (t, .bool false) :: σ.tm } (St.get_lit _ _ _ h3) rfl rfl (.inr ⟨j, t, false, h1, h2, h3⟩) hk
        · exact one { σ with tm := (t, .bool true) :: σ.tm } ⟨.undef, [], false, []⟩ (St.get_lit _ _ _ h3) rfl rfl (.inr ⟨rfl, ⟨j, t, false, h1, h2, .inl h3⟩, rfl, rfl⟩) hk
    · cases hk

end
end Go.Proofs.Ytkmeimhapokdlaa.Ae
