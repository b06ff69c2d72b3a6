/- New numbers for the blocks; code. Lemmas alone. -/
import Derived.Test.YtkmeimhapokdlaaAe20
set_option linter.unusedVariables false
set_option linter.unusedSimpArgs false
namespace Go.Proofs.Ytkmeimhapokdlaa.Ae
open Go

/-! ### Renaming -/
structure Good (hp : Hp) (ρ : List (Nat × Nat)) (n : Nat) : Prop where
  lt : ∀ i j, (i, j) ∈ ρ → j < n
  inj : ∀ i i' j, (i, j) ∈ ρ → (i', j) ∈ ρ → i = i'
  key : ∀ i j, (i, j) ∈ ρ → lk ρ i = some j

theorem lk_mem {α : Type} : ∀ {l : List (Nat × α)} {k : Nat} {x : α}, lk l k = some x → (k, x) ∈ l
  | [], _, _, h => by simp [lk] at h
  | (j, y) :: l, k, x, h => by
    simp only [lk] at h
    cases hb : Nat.beq j k with
    | true =>
      rw [hb] at h
      simp only [cond_true, Option.some.injEq] at h
      rw [← Nat.eq_of_beq_eq_true hb, h]; simp
    | false =>
      rw [hb] at h
      exact List.mem_cons_of_mem _ (lk_mem h)

theorem lk_of_mem {α : Type} : ∀ {l : List (Nat × α)} {k : Nat} {x : α}, (k, x) ∈ l → lk l k ≠ none
  | (j, y) :: l, k, x, h => by
    simp only [lk]
    cases hb : Nat.beq j k with
    | true => simp
    | false =>
      rcases List.mem_cons.1 h with h | h
      · cases h; simp at hb
      · exact lk_of_mem h

theorem visit_good {hp : Hp} : ∀ (d : Nat) (todo : List Nat) (ρ : List (Nat × Nat)) (n : Nat) (ρ' : List (Nat × Nat)) (n' : Nat), visit hp d todo ρ n = some (ρ', n') → Good hp ρ n → Good hp ρ' n'
  | 0, [], ρ, n, ρ', n', h, hg => by simp only [visit, Option.some.injEq, Prod.mk.injEq] at h; rw [← h.1, ← h.2]; exact hg
  | d + 1, [], ρ, n, ρ', n', h, hg => by simp only [visit, Option.some.injEq, Prod.mk.injEq] at h; rw [← h.1, ← h.2]; exact hg
  | 0, _ :: _, _, _, _, _, h, _ => by simp [visit] at h
  | d + 1, id :: todo, ρ, n, ρ', n', h, hg => by
    simp only [visit] at h
    split at h
    · exact visit_good d todo ρ n ρ' n' h hg
    · rename_i hno
      split at h
      · rename_i b hb
        refine visit_good d _ _ _ ρ' n' h ⟨fun i j hm => ?_, fun i i' j hm hm' => ?_, fun i j hm => ?_⟩
        · rcases List.mem_cons.1 hm with hm | hm
          · cases hm; omega
          · have := hg.lt i j hm; omega
        · rcases List.mem_cons.1 hm with hm | hm <;> rcases List.mem_cons.1 hm' with hm' | hm'
          · cases hm; cases hm'; rfl
          · cases hm; have := hg.lt _ _ hm'; omega
          · cases hm'; have := hg.lt _ _ hm; omega
          · exact hg.inj i i' j hm hm'
        · simp only [lk]
          cases hbq : Nat.beq id i with
          | true =>
            have e := Nat.eq_of_beq_eq_true hbq
            subst e
            rcases List.mem_cons.1 hm with hm | hm
            · cases hm; rfl
            · have := hg.key _ _ hm; rw [hno] at this; cases this
          | false =>
            rcases List.mem_cons.1 hm with hm | hm
            · cases hm; simp at hbq
            · exact hg.key _ _ hm
      · exact visit_good d todo ρ n ρ' n' h hg

theorem visit_sub {hp : Hp} : ∀ (d : Nat) (todo : List Nat) (ρ : List (Nat × Nat)) (n : Nat) (ρ' : List (Nat × Nat)) (n' : Nat), visit hp d todo ρ n = some (ρ', n') → ∀ p ∈ ρ, p ∈ ρ'
  | 0, [], ρ, n, ρ', n', h, p, hp' => by simp only [visit, Option.some.injEq, Prod.mk.injEq] at h; rw [← h.1]; exact hp'
  | d + 1, [], ρ, n, ρ', n', h, p, hp' => by simp only [visit, Option.some.injEq, Prod.mk.injEq] at h; rw [← h.1]; exact hp'
  | 0, _ :: _, _, _, _, _, h, _, _ => by simp [visit] at h
  | d + 1, id :: todo, ρ, n, ρ', n', h, p, hp' => by
    simp only [visit] at h
    split at h
    · exact visit_sub d todo ρ n ρ' n' h p hp'
    · split at h
      · exact visit_sub d _ _ _ ρ' n' h p (List.mem_cons_of_mem _ hp')
      · exact visit_sub d todo ρ n ρ' n' h p hp'

theorem pinMap_mem : ∀ {pin : List Nat} {i j : Nat}, (i, j) ∈ pinMap pin ↔ i = j ∧ j ∈ pin
  | [], i, j => by simp [pinMap]
  | k :: l, i, j => by
    simp only [pinMap, List.mem_cons, Prod.mk.injEq, pinMap_mem (pin := l)]
    constructor
    · rintro (⟨rfl, rfl⟩ | ⟨rfl, h⟩)
      · exact ⟨rfl, .inl rfl⟩
      · exact ⟨rfl, .inr h⟩
    · rintro ⟨rfl, h | h⟩
      · exact .inl ⟨h, h⟩
      · exact .inr ⟨rfl, h⟩

theorem pinMap_good {hp : Hp} {pin : List Nat} {nin : Nat} (h : pin.all (fun j => Nat.blt j nin) = true) : Good hp (pinMap pin) nin := by
  refine ⟨fun i j hm => ?_, fun i i' j hm hm' => ?_, fun i j hm => ?_⟩
  · have := (pinMap_mem.1 hm).2
    rw [List.all_eq_true] at h
    have := h j this
    simpa using this
  · exact (pinMap_mem.1 hm).1.trans (pinMap_mem.1 hm').1.symm
  · obtain ⟨rfl, hm'⟩ := pinMap_mem.1 hm
    clear hm h
    induction pin with
    | nil => cases hm'
    | cons k l ih =>
      simp only [pinMap, lk]
      cases hb : Nat.beq k i with
      | true => rw [Nat.eq_of_beq_eq_true hb]; rfl
      | false =>
        rcases List.mem_cons.1 hm' with rfl | h
        · simp at hb
        · exact ih h

/-- The new numbers' places. -/
def newL (L : LM) (ρ : List (Nat × Nat)) : LM := fun j => match lk (ρ.map fun p => (p.2, p.1)) j with | some i => L i | none => none

section
variable {hp : Hp} {ρ : List (Nat × Nat)} {n : Nat} {F : FS} {L : LM} {w : World} {B0 : FS} {nt : Nat} {gl : Nat → Option AV} {a : Act}

theorem newL_of (hg : Good hp ρ n) {i j : Nat} (h : (i, j) ∈ ρ) : newL L ρ j = L i := by
  have hm : (j, i) ∈ ρ.map fun p => (p.2, p.1) := List.mem_map.2 ⟨(i, j), h, rfl⟩
  unfold newL
  cases hl : lk (ρ.map fun p => (p.2, p.1)) j with
  | none => exact absurd hl (lk_of_mem hm)
  | some i' =>
    obtain ⟨⟨p, q⟩, hp1, hp2⟩ := List.mem_map.1 (lk_mem hl)
    cases hp2
    rw [hg.inj _ _ _ hp1 h]

theorem newL_some (hg : Good hp ρ n) {j : Nat} (h : newL L ρ j ≠ none) : ∃ i, (i, j) ∈ ρ := by
  unfold newL at h
  cases hl : lk (ρ.map fun p => (p.2, p.1)) j with
  | none => rw [hl] at h; exact absurd rfl h
  | some i' =>
    obtain ⟨⟨p, q⟩, hp1, hp2⟩ := List.mem_map.1 (lk_mem hl)
    cases hp2
    exact ⟨_, hp1⟩

theorem ren_sh (f : Nat → Option Nat) : ∀ v : AV, (v.ren f).sh = v.sh
  | .ptr id i p => by simp only [AV.ren]; cases f id <;> rfl
  | .hs id o l => by simp only [AV.ren]; cases f id <;> rfl
  | .hw id => by simp only [AV.ren]; cases f id <;> rfl
  | .mapv id => by simp only [AV.ren]; cases f id <;> rfl
  | .cons a b => by simp only [AV.ren, AV.sh]; rw [ren_sh f a, ren_sh f b]
  | .fn _ _ _ | .iface _ _ | .tup _ | .undef | .dead | .int _ _ | .bool _ | .str _ | .nilp | .rptr _ _ _ _ | .nils | .rs _ _ _ _ | .nilm | .nilf | .nili | .nil | .arr _ _ _ => rfl

theorem ren_agg (f : Nat → Option Nat) (v : AV) : (v.ren f).isAgg = v.isAgg := by
  cases v <;> simp only [AV.ren, AV.isAgg]
  case ptr id i p => cases f id <;> rfl
  case hs id o l => cases f id <;> rfl
  case hw id => cases f id <;> rfl
  case mapv id => cases f id <;> rfl

theorem ren_len (f : Nat → Option Nat) : ∀ v : AV, chainLen (v.ren f) = chainLen v
  | .ptr id i p => by simp only [AV.ren]; cases f id <;> rfl
  | .hs id o l => by simp only [AV.ren]; cases f id <;> rfl
  | .hw id => by simp only [AV.ren]; cases f id <;> rfl
  | .mapv id => by simp only [AV.ren]; cases f id <;> rfl
  | .cons a b => by simp only [AV.ren, chainLen]; rw [ren_len f b]
  | .fn _ _ _ | .iface _ _ | .tup _ | .undef | .dead | .int _ _ | .bool _ | .str _ | .nilp | .rptr _ _ _ _ | .nils | .rs _ _ _ _ | .nilm | .nilf | .nili | .nil | .arr _ _ _ => rfl

theorem ren_getF (f : Nat → Option Nat) : ∀ (v : AV) (i : Nat), (v.ren f).getF i = (v.getF i).map (·.ren f)
  | .ptr id i p, _ => by simp only [AV.ren]; cases f id <;> rfl
  | .hs id o l, _ => by simp only [AV.ren]; cases f id <;> rfl
  | .hw id, _ => by simp only [AV.ren]; cases f id <;> rfl
  | .mapv id, _ => by simp only [AV.ren]; cases f id <;> rfl
  | .cons a b, 0 => rfl
  | .cons a b, i + 1 => by simp only [AV.ren, AV.getF]; exact ren_getF f b i
  | .fn _ _ _, _ | .iface _ _, _ | .tup _, _ | .undef, _ | .dead, _ | .int _ _, _ | .bool _, _ | .str _, _ | .nilp, _ | .rptr _ _ _ _, _ | .nils, _ | .rs _ _ _ _, _ | .nilm, _ | .nilf, _ | .nili, _ | .nil, _ | .arr _ _ _, _ => rfl

mutual
theorem VR_ren (hg : Good hp ρ n) : ∀ (v : AV) (cs : List Value), VR F L w v cs → VR F (newL L ρ) w (v.ren (lk ρ)) cs
  | .ptr id i p, cs, h => by
    simp only [AV.ren]
    cases hl : lk ρ id with
    | none =>
      simp only [VR] at h ⊢
      obtain ⟨_, b, o, d, s, _, _, _, _, e⟩ := h
      exact ⟨_, e, rfl⟩
    | some j =>
      simp only [VR] at h ⊢
      obtain ⟨l, b, o, d, s, e1, e2⟩ := h
      exact ⟨l, b, o, d, s, by rw [newL_of hg (lk_mem hl)]; exact e1, e2⟩
  | .hs id o l, cs, h => by
    simp only [AV.ren]
    cases hl : lk ρ id with
    | none =>
      simp only [VR] at h ⊢
      obtain ⟨_, _, _, _, e, _⟩ := h
      exact ⟨_, e, rfl⟩
    | some j =>
      simp only [VR] at h ⊢
      obtain ⟨l, a, c, e1, e2⟩ := h
      exact ⟨l, a, c, by rw [newL_of hg (lk_mem hl)]; exact e1, e2⟩
  | .hw id, cs, h => by
    simp only [AV.ren]
    cases hl : lk ρ id with
    | none =>
      simp only [VR] at h ⊢
      obtain ⟨_, _, _, _, e, _⟩ := h
      exact ⟨_, e, rfl⟩
    | some j =>
      simp only [VR] at h ⊢
      obtain ⟨l, a, c, e1, e2⟩ := h
      exact ⟨l, a, c, by rw [newL_of hg (lk_mem hl)]; exact e1, e2⟩
  | .mapv id, cs, h => by
    simp only [AV.ren]
    cases hl : lk ρ id with
    | none =>
      simp only [VR] at h ⊢
      obtain ⟨_, _, _, _, _, e⟩ := h
      exact ⟨_, e, rfl⟩
    | some j =>
      simp only [VR] at h ⊢
      obtain ⟨l, b, o, e1, e2⟩ := h
      exact ⟨l, b, o, by rw [newL_of hg (lk_mem hl)]; exact e1, e2⟩
  | .cons a b, cs, h => by
    simp only [AV.ren, VR] at h ⊢
    obtain ⟨c1, c2, e1, e2, e3⟩ := h
    exact ⟨c1, c2, e1, VR_ren hg a c1 e2, VR_ren hg b c2 e3⟩
  | .fn f a b, cs, h => by
    simp only [AV.ren, VR] at h ⊢
    obtain ⟨xs, ys, e1, e2, e3⟩ := h
    exact ⟨xs, ys, e1, CV_ren hg a xs e2, CV_ren hg b ys e3⟩
  | .iface t v, cs, h => by
    simp only [AV.ren, VR] at h ⊢
    obtain ⟨x, e1, e2⟩ := h
    refine ⟨x, e1, ?_⟩
    rw [ren_agg]
    cases hv : v.isAgg
    · simp only [hv, cond_false] at e2 ⊢; exact VR_ren hg v [x] e2
    · simp only [hv, cond_true] at e2 ⊢
      obtain ⟨c, q1, q2⟩ := e2
      exact ⟨c, q1, VR_ren hg v c q2⟩
  | .tup _, _, h => by simp only [VR] at h
  | .undef, _, h => by simp only [VR] at h
  | .dead, _, h | .int _ _, _, h | .bool _, _, h | .str _, _, h | .nilp, _, h | .rptr _ _ _ _, _, h | .nils, _, h | .rs _ _ _ _, _, h | .nilm, _, h | .nilf, _, h | .nili, _, h | .nil, _, h | .arr _ _ _, _, h => by simpa only [AV.ren, VR] using h
theorem CV_ren (hg : Good hp ρ n) : ∀ (v : AV) (vs : List Value), CV F L w v vs → CV F (newL L ρ) w (v.ren (lk ρ)) vs
  | .nil, _, h => by simpa only [AV.ren, CV] using h
  | .cons a b, _, h => by
    simp only [AV.ren, CV] at h ⊢
    obtain ⟨v, vs', h1, h2, h3⟩ := h
    refine ⟨v, vs', h1, ?_, CV_ren hg b vs' h3⟩
    rcases h2 with ⟨rfl, h2⟩ | rfl | h2
    · exact .inl ⟨rfl, h2⟩
    · exact .inr (.inl rfl)
    · refine .inr (.inr ?_)
      rw [ren_agg]
      cases hv : a.isAgg
      · simp only [hv, cond_false] at h2 ⊢; exact VR_ren hg a [v] h2
      · simp only [hv, cond_true] at h2 ⊢
        obtain ⟨c, e1, e2⟩ := h2
        exact ⟨c, e1, VR_ren hg a c e2⟩
  | .undef, _, h | .dead, _, h | .int _ _, _, h | .bool _, _, h | .str _, _, h | .nilp, _, h | .ptr _ _ _, _, h | .rptr _ _ _ _, _, h | .nils, _, h | .rs _ _ _ _, _, h | .hs _ _ _, _, h | .hw _, _, h | .nilm, _, h | .mapv _, _, h | .nilf, _, h
  | .fn _ _ _, _, h | .nili, _, h | .iface _ _, _, h | .arr _ _ _, _, h | .tup _, _, h => by simp only [CV] at h
end

theorem VV_ren (hg : Good hp ρ n) {v : AV} {x : Value} (h : VV F L w v x) : VV F (newL L ρ) w (v.ren (lk ρ)) x := by
  have plainCase : v.plain = true → VV F (newL L ρ) w (v.ren (lk ρ)) x := by
    intro hp'
    rw [VV_plain hp'] at h
    by_cases hd : v.ren (lk ρ) = .dead
    · rw [hd]; trivial
    · have hpl : (v.ren (lk ρ)).plain = true := by
        cases v <;> simp only [AV.ren, AV.plain, reduceCtorEq] at hp' hd ⊢
        case ptr id i p => cases hl : lk ρ id <;> simp only [hl, not_true_eq_false] at hd ⊢
        case hs id i p => cases hl : lk ρ id <;> simp only [hl, not_true_eq_false] at hd ⊢
        case hw id => cases hl : lk ρ id <;> simp only [hl, not_true_eq_false] at hd ⊢
        case mapv id => cases hl : lk ρ id <;> simp only [hl, not_true_eq_false] at hd ⊢
      rw [VV_plain hpl, ren_agg]
      cases hv : v.isAgg
      · simp only [hv, cond_false] at h ⊢; exact VR_ren hg v [x] h
      · simp only [hv, cond_true] at h ⊢
        obtain ⟨c, e1, e2⟩ := h
        exact ⟨c, e1, VR_ren hg v c e2⟩
  cases hv : v.plain with
  | true => exact plainCase hv
  | false =>
    cases v <;> simp only [AV.plain, reduceCtorEq] at hv
    · exact h
    · trivial
    · obtain ⟨vs, e1, e2⟩ := h
      exact ⟨vs, e1, CV_ren hg _ vs e2⟩

theorem BR_ren (hg : Good hp ρ n) {l : Loc} {bk : Bk} (h : BR F L w l bk) : BR F (newL L ρ) w l (bk.ren (lk ρ)) := by
  cases bk with
  | box v =>
    obtain ⟨h1, h2, b, o, cs, h3, h4, h5, h6⟩ := h
    exact ⟨h1, by rw [ren_sh]; exact h2, b, o, cs, h3, h4, VR_ren hg v cs h5, h6⟩
  | row K xs => exact h
  | map Kk Kv es => exact h
  | rowv v =>
    obtain ⟨h1, h2, b, o, cs, h3, h4, h5, h6, h7⟩ := h
    refine ⟨by rw [ren_len]; exact h1, h2, b, o, cs, h3, h4, h5, by rw [ren_len]; exact h6, fun i u hu => ?_⟩
    rw [ren_getF] at hu
    cases hx : v.getF i with
    | none => rw [hx] at hu; cases hu
    | some x =>
      rw [hx] at hu
      simp only [Option.map_some, Option.some.injEq] at hu
      subst hu
      obtain ⟨c, q1, q2, q3⟩ := h7 i x hx
      exact ⟨c, q1, by rw [ren_sh]; exact q2, VR_ren hg x [c] q3⟩

theorem mapBk_some {f : Nat → Option Nat} : ∀ {l : List (Nat × Nat)} {j : Nat} {bk : Bk}, (lk (mapBk hp f l) j).join = some bk → ∃ i b, (i, j) ∈ l ∧ hp i = some b ∧ bk = b.ren f
  | [], _, _, h => by simp [mapBk, lk] at h
  | (old, new) :: l, j, bk, h => by
    simp only [mapBk, lk] at h
    cases hb : Nat.beq new j with
    | true =>
      rw [hb] at h
      simp only [cond_true, Option.join_some] at h
      cases ho : hp old with
      | none => rw [ho] at h; cases h
      | some b =>
        rw [ho] at h
        simp only [Option.map_some, Option.some.injEq] at h
        exact ⟨old, b, by rw [Nat.eq_of_beq_eq_true hb]; simp, ho, h.symm⟩
    | false =>
      rw [hb] at h
      obtain ⟨i, b, h1, h2, h3⟩ := mapBk_some (l := l) h
      exact ⟨i, b, List.mem_cons_of_mem _ h1, h2, h3⟩

theorem keepTm_get {get : Nat → AV} {f : Nat → Option Nat} : ∀ (keep : List Nat) (t : Nat), (lk (keepTm get f keep) t).getD .dead = (get t).ren f ∨ (lk (keepTm get f keep) t).getD .dead = .dead
  | [], t => .inr rfl
  | s :: l, t => by
    simp only [keepTm, lk]
    cases hb : Nat.beq s t with
    | true => rw [Nat.eq_of_beq_eq_true hb]; exact .inl rfl
    | false => exact keepTm_get l t

/-- Globals are read-only data. -/
def GlOk (gl : Nat → Option AV) : Prop := ∀ g v, gl g = some v → ∃ K xs i p, v = .rptr K xs i p

theorem GS_any (hgl : GlOk gl) {L' : LM} (h : GS gl F L w) : GS gl F L' w := fun g v hv => by
  have := h g v hv
  obtain ⟨K, xs, i, p, rfl⟩ := hgl g v hv
  replace this := VV_one rfl rfl this
  refine VV_mk1 rfl rfl ?_
  simpa only [VR] using this

theorem norm_sound (hgl : GlOk gl) {pin : List Nat} {nin : Nat} {keep : List Nat} {σ σ' : St} (h : norm pin nin keep σ = some σ') (hi : Inv gl nt B0 σ.get σ.blk F L a w) :
    ∃ L', Inv gl nt B0 σ'.get σ'.blk F L' a w ∧ (∀ id, σ'.nx ≤ id → L' id = none) ∧ ∀ j ∈ pin, L' j = L j := by
  unfold norm at h
  split at h
  case h_2 => cases h
  rename_i hpin
  split at h
  case h_2 => cases h
  rename_i ρ n hv
  cases h
  have hg : Good σ.blk ρ n := visit_good _ _ _ _ _ _ hv (pinMap_good hpin)
  refine ⟨newL L ρ, ?_, ?_, fun j hj => newL_of hg (visit_sub _ _ _ _ _ _ hv (j, j) (pinMap_mem.2 ⟨rfl, hj⟩))⟩
  case refine_2 =>
    intro id hid
    cases hl : newL L ρ id with
    | none => rfl
    | some l =>
      obtain ⟨i, hm⟩ := newL_some hg (j := id) (by rw [hl]; simp)
      have := hg.lt i id hm
      simp only at hid
      omega
  refine ⟨⟨fun id bk hb => ?_, fun id id' l l' b o o' hne h1 h2 h3 h4 => ?_, hi.hr.fb⟩, hi.base, GS_any hgl hi.gs, fun t => ?_, hi.df, hi.sz⟩
  · obtain ⟨i, b, q1, q2, rfl⟩ := mapBk_some hb
    obtain ⟨l, e1, e2, e3⟩ := hi.hr.blk i b q2
    exact ⟨l, by rw [newL_of hg q1]; exact e1, BR_ren hg e2, e3⟩
  · have some_of : ∀ id, St.blk { tm := keepTm σ.get (lk ρ) keep, hp := mapBk σ.blk (lk ρ) ρ, nx := n } id ≠ none → ∃ i, (i, id) ∈ ρ ∧ σ.blk i ≠ none := by
      intro id hn
      cases hx : St.blk { tm := keepTm σ.get (lk ρ) keep, hp := mapBk σ.blk (lk ρ) ρ, nx := n } id with
      | none => exact absurd hx hn
      | some bk =>
        obtain ⟨i, b, q1, q2, rfl⟩ := mapBk_some hx
        exact ⟨i, q1, by rw [q2]; simp⟩
    obtain ⟨i, q1, q2⟩ := some_of id h1
    obtain ⟨i', q3, q4⟩ := some_of id' h2
    rw [newL_of hg q1] at h3
    rw [newL_of hg q3] at h4
    refine hi.hr.inj i i' l l' b o o' (fun e => ?_) q2 q4 h3 h4
    subst e
    have e1 := hg.key _ _ q1
    have e2 := hg.key _ _ q3
    rw [e1] at e2; cases e2; exact hne rfl
  · rcases keepTm_get (get := σ.get) (f := lk ρ) keep t with e | e
    · show VV F (newL L ρ) w ((lk (keepTm σ.get (lk ρ) keep) t).getD .dead) _
      rw [e]; exact VV_ren hg (hi.ts t)
    · show VV F (newL L ρ) w ((lk (keepTm σ.get (lk ρ) keep) t).getD .dead) _
      rw [e]; trivial

end
end Go.Proofs.Ytkmeimhapokdlaa.Ae
