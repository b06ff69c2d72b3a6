/- Regions whose order is drawn: any order comes to what the text's order comes to. Lemmas alone. -/
import Derived.Test.YtkmeimhapokdlaaAe19
set_option linter.unusedVariables false
set_option linter.unusedSimpArgs false
namespace Go.Proofs.Ytkmeimhapokdlaa.Ae
open Go

/-! ### What the checks say -/
section checks
variable {all : List Oper}

theorem disj_spec : ∀ {l m : List Nat}, disj l m = true → ∀ x ∈ l, x ∉ m
  | [], _, _, _, h => by cases h
  | a :: l, m, h, x, hx => by
    simp only [disj, Bool.and_eq_true, Bool.not_eq_true', List.contains_eq_mem, decide_eq_false_iff_not] at h
    rcases List.mem_cons.1 hx with rfl | hx
    · exact h.1
    · exact disj_spec h.2 x hx

theorem before_closed {D : Nat → Bool} (hD : ∀ j o, all[j]? = some o → D j = true → ∀ e ∈ o.after, Region.binds .any e = true → D e.on = true) :
    ∀ d i j, before all d i j = true → D j = true → D i = true
  | 0, _, _, h, _ => by simp [before] at h
  | d + 1, i, j, h, hj => by
    simp only [before] at h
    split at h
    · rename_i o ho
      rw [List.any_eq_true] at h
      obtain ⟨e, he, h⟩ := h
      simp only [Bool.and_eq_true, Bool.or_eq_true] at h
      have hon := hD j o ho hj e (by simpa using he) h.1
      rcases h.2 with h2 | h2
      · rw [← Nat.eq_of_beq_eq_true h2]; exact hon
      · exact before_closed hD d i e.on h2 hon
    · cases h

theorem before_ready {D : Nat → Bool} (hD : ∀ j o, all[j]? = some o → D j = true → ∀ e ∈ o.after, Region.binds .any e = true → D e.on = true) {d i j : Nat} {o : Oper} (ho : all[j]? = some o) (hr : ∀ e ∈ o.after, Region.binds .any e = true → D e.on = true)
    (h : before all d i j = true) : D i = true := by
  cases d with
  | zero => simp [before] at h
  | succ d =>
    simp only [before, ho] at h
    rw [List.any_eq_true] at h
    obtain ⟨e, he, h⟩ := h
    simp only [Bool.and_eq_true, Bool.or_eq_true] at h
    have hon := hr e (by simpa using he) h.1
    rcases h.2 with h2 | h2
    · rw [← Nat.eq_of_beq_eq_true h2]; exact hon
    · exact before_closed hD d i e.on h2 hon

theorem topo_spec : ∀ (l : List Oper) (i : Nat), topo all i l = true → ∀ k o, l[k]? = some o → ∀ e ∈ o.after, Region.binds .any e = true → e.on < i + k
  | [], _, _, k, o, h, _, _, _ => by simp at h
  | o' :: l, i, h, k, o, hk, e, he, hb => by
    simp only [topo, Bool.and_eq_true] at h
    cases k with
    | zero =>
      simp only [List.getElem?_cons_zero, Option.some.injEq] at hk
      subst hk
      have := List.all_eq_true.1 h.1 e (by simpa using he)
      simp only [hb, Bool.not_true, Bool.false_or] at this
      simpa using this
    | succ k =>
      have := topo_spec l (i + 1) h.2 k o (by simpa using hk) e he hb
      omega

theorem apartAll_spec {i : Nat} {oi : Oper} : ∀ (l : List Oper) (j : Nat), apartAll all i oi j l = true → ∀ k o, l[k]? = some o → before all all.length i (j + k) = true ∨ oi.apart all.toArray o = true
  | [], _, _, k, o, h => by simp at h
  | o' :: l, j, h, k, o, hk => by
    simp only [apartAll, Bool.and_eq_true, Bool.or_eq_true] at h
    cases k with
    | zero =>
      simp only [List.getElem?_cons_zero, Option.some.injEq] at hk
      subst hk
      exact h.1
    | succ k =>
      have := apartAll_spec l (j + 1) h.2 k o (by simpa using hk)
      rw [show j + (k + 1) = j + 1 + k by omega]
      exact this

theorem regOk_spec : ∀ (l : List Oper) (i : Nat), regOk all i l = true → ∀ k k' o o', k < k' → l[k]? = some o → l[k']? = some o' → before all all.length (i + k) (i + k') = true ∨ o.apart all.toArray o' = true
  | [], _, _, k, _, o, _, _, h, _ => by simp at h
  | o1 :: l, i, h, k, k', o, o', hlt, hk, hk' => by
    simp only [regOk, Bool.and_eq_true] at h
    cases k' with
    | zero => omega
    | succ k' =>
      cases k with
      | zero =>
        simp only [List.getElem?_cons_zero, Option.some.injEq] at hk
        subst hk
        have := apartAll_spec l (i + 1) h.1 k' o' (by simpa using hk')
        rw [Nat.add_zero, show i + (k' + 1) = i + 1 + k' by omega]
        exact this
      | succ k =>
        have := regOk_spec l (i + 1) h.2 k k' o o' (by omega) (by simpa using hk) (by simpa using hk')
        rw [show i + (k + 1) = i + 1 + k by omega, show i + (k' + 1) = i + 1 + k' by omega]
        exact this

theorem recs_mem : ∀ (es : List Ent) (i : Nat) (acc : List Rec), recsOk all (recsOf i es acc) = true →
    recsOk all acc = true ∧ (∀ k e, es[k]? = some e → ∀ x ∈ acc, recOk all x ⟨i + k, domE e.Δ, e.R⟩ = true) ∧ (∀ k k' e e', k < k' → es[k]? = some e → es[k']? = some e' → recOk all ⟨i + k, domE e.Δ, e.R⟩ ⟨i + k', domE e'.Δ, e'.R⟩ = true)
  | [], i, acc, h => ⟨h, fun k e h => by simp at h, fun k k' e e' _ h => by simp at h⟩
  | e :: es, i, acc, h => by
    obtain ⟨h1, h2, h3⟩ := recs_mem es (i + 1) _ h
    simp only [recsOk, Bool.and_eq_true] at h1
    refine ⟨h1.2, fun k e' hk x hx => ?_, fun k k' e1 e2 hlt hk hk' => ?_⟩
    · cases k with
      | zero =>
        simp only [List.getElem?_cons_zero, Option.some.injEq] at hk
        subst hk
        exact List.all_eq_true.1 h1.1 x hx
      | succ k =>
        have := h2 k e' (by simpa using hk) x (by simp [hx])
        rw [show i + (k + 1) = i + 1 + k by omega]
        exact this
    · cases k' with
      | zero => omega
      | succ k' =>
        rw [show i + (k' + 1) = i + 1 + k' by omega]
        cases k with
        | zero =>
          simp only [List.getElem?_cons_zero, Option.some.injEq] at hk
          subst hk
          exact h2 k' e2 (by simpa using hk') _ (by simp)
        | succ k =>
          rw [show i + (k + 1) = i + 1 + k by omega]
          exact h3 k k' e1 e2 (by omega) (by simpa using hk) (by simpa using hk')
end checks

theorem lk_dom {α : Type} : ∀ {l : List (Nat × α)} {k : Nat} {x : α}, lk l k = some x → k ∈ l.map (·.1)
  | [], _, _, h => by simp [lk] at h
  | (j, y) :: l, k, x, h => by
    simp only [lk] at h
    cases hb : Nat.beq j k with
    | true => simp [Nat.eq_of_beq_eq_true hb]
    | false =>
      rw [hb] at h
      simp only [List.map_cons, List.mem_cons]
      exact .inr (lk_dom h)

theorem domE_map : ∀ (Δ : Eff), domE Δ = Δ.map (·.1)
  | [] => rfl
  | (k, _) :: l => by simp [domE, domE_map l]

theorem gus_get : ∀ (l : List Oper) (es : List Ent) (k : Nat) (o : Oper) (e : Ent), l[k]? = some o → es[k]? = some e → (gus l es)[k]? = some (dstU o.dst e.v)
  | [], _, k, _, _, h, _ => by simp at h
  | _ :: _, [], k, _, _, _, h => by simp at h
  | o :: l, e :: es, 0, o', e', h, h' => by cases h; cases h'; rfl
  | o :: l, e :: es, k + 1, o', e', h, h' => by simp only [gus, List.getElem?_cons_succ]; exact gus_get l es k o' e' (by simpa using h) (by simpa using h')

theorem gus_some : ∀ (l : List Oper) (es : List Ent) (k : Nat) (u : Nat → Option AV), (gus l es)[k]? = some u → ∃ o e, l[k]? = some o ∧ es[k]? = some e ∧ u = dstU o.dst e.v
  | [], _, k, _, h => by simp [gus] at h
  | _ :: _, [], k, _, h => by simp [gus] at h
  | o :: l, e :: es, 0, u, h => by cases h; exact ⟨o, e, rfl, rfl, rfl⟩
  | o :: l, e :: es, k + 1, u, h => by
    obtain ⟨o', e', h1, h2, h3⟩ := gus_some l es k u (by simpa [gus] using h)
    exact ⟨o', e', by simpa using h1, by simpa using h2, h3⟩

theorem hus_get : ∀ (es : List Ent) (k : Nat), (hus es)[k]? = (es[k]?).map fun e => lk e.Δ
  | [], k => by simp [hus]
  | e :: es, 0 => rfl
  | e :: es, k + 1 => by simp only [hus, List.getElem?_cons_succ]; exact hus_get es k

theorem dstU_some {d : Option Nat} {v : AV} {t : Nat} (h : dstU d v t ≠ none) : d = some t := by
  unfold dstU at h
  split at h
  · split at h
    · rename_i e; rw [e]
    · exact absurd rfl h
  · exact absurd rfl h

theorem all_set {listed : Array Bool} {j : Nat} {d : Bool} (hj : j < listed.size) (i : Nat) : (listed.setIfInBounds j true).getD i d = if i = j then true else listed.getD i d := by
  by_cases h : i = j
  · subst h
    rw [if_pos rfl, Array.getD_eq_getD_getElem?, Array.getElem?_setIfInBounds_self_of_lt hj]; rfl
  · rw [if_neg h, Array.getD_eq_getD_getElem?, Array.getElem?_setIfInBounds_ne (fun e => h e.symm), ← Array.getD_eq_getD_getElem?]

def left (listed : Array Bool) : Nat := listed.toList.countP (fun b => !b)

theorem left_set {listed : Array Bool} {j : Nat} (hj : j < listed.size) (h : listed.getD j true = false) : left (listed.setIfInBounds j true) + 1 = left listed := by
  unfold left
  have hl : (listed.setIfInBounds j true).toList = listed.toList.set j true := by simp
  rw [hl]
  have hv : listed.toList[j]? = some false := by
    rw [Array.getD_eq_getD_getElem?] at h
    rw [Array.getElem?_toList]
    cases hx : listed[j]? with
    | none => rw [hx] at h; cases h
    | some b => rw [hx] at h; simp at h; rw [h]
  have : ∀ (l : List Bool) (j : Nat), l[j]? = some false → (l.set j true).countP (fun b => !b) + 1 = l.countP (fun b => !b) := by
    intro l
    induction l with
    | nil => intro j h; simp at h
    | cons b l ih =>
      intro j h
      cases j with
      | zero => simp at h; subst h; simp
      | succ j =>
        have := ih j (by simpa using h)
        simp only [List.set_cons_succ, List.countP_cons]
        omega
  exact this _ _ hv

theorem left_zero {listed : Array Bool} (h : left listed = 0) (i : Nat) (hi : i < listed.size) : listed.getD i false = true := by
  unfold left at h
  rw [List.countP_eq_zero] at h
  have hi' : listed[i]? = some listed[i] := by simp [hi]
  have hm : listed[i] ∈ listed.toList := by simp
  have := h _ hm
  rw [Array.getD_eq_getD_getElem?, hi']
  simpa using this

section
variable {F F' : FS} {L L' : LM} {w w' : World} {P : Program} {B0 : FS} {key nt nx : Nat} {S : Specs} {gl : Nat → Option AV} {a : Act}

theorem any_sound (hS : SpecOK S P gl) {all : List Oper} {es : List Ent} {g0 : Nat → AV} {h0 : Hp} {Q : Exit → Act → World → Prop} (hlen : es.length = all.length) (hdst : dstsOk nt all = true) (htopo : topo all 0 all = true) (hreg : regOk all 0 all = true)
    (hok : ∀ k o e, all[k]? = some o → es[k]? = some e → Ok1 S P gl nx all k o e (acc 0 (gus all es) (fun q => decide (q < k)) g0) (acc 0 (hus es) (fun q => decide (q < k)) h0))
    (hrec : recsOk all (recsOf 0 es []) = true) (F0 : FS) (L0 : LM) (w0 : World)
    (hQ : ∀ F L a w, Inv gl nt B0 (acc 0 (gus all es) (fun _ => true) g0) (acc 0 (hus es) (fun _ => true) h0) F L a w → (∀ id, nx + 64 * all.length ≤ id → L id = none) → Grow B0 F0 w0 F w → LE L0 L → Q .normal a w) :
    ∀ (fuel : Nat) (listed : Array Bool) (F : FS) (L : LM) (a : Act) (w : World), listed.size = all.length → left listed ≤ fuel →
      (∀ j o, all[j]? = some o → listed.getD j false = true → ∀ e ∈ o.after, Region.binds .any e = true → listed.getD e.on false = true) →
      Inv gl nt B0 (acc 0 (gus all es) (fun i => listed.getD i false) g0) (acc 0 (hus es) (fun i => listed.getD i false) h0) F L a w →
      (∀ j, listed.getD j true = false → Fresh L (nx + 64 * j)) → (∀ id, nx + 64 * all.length ≤ id → L id = none) → Grow B0 F0 w0 F w → LE L0 L →
      wpAny P .any all.toArray Q fuel listed a w := by
  obtain ⟨_, _, hpair⟩ := recs_mem es 0 [] hrec
  have fin : ∀ (listed : Array Bool) (F : FS) (L : LM) (a : Act) (w : World), listed.size = all.length → (∀ i, i < listed.size → listed.getD i false = true) → Inv gl nt B0 (acc 0 (gus all es) (fun i => listed.getD i false) g0) (acc 0 (hus es) (fun i => listed.getD i false) h0) F L a w →
      (∀ id, nx + 64 * all.length ≤ id → L id = none) → Grow B0 F0 w0 F w → LE L0 L → Q .normal a w := by
    intro listed F L a w hsz hall hi hfr hws hle
    refine hQ F L a w ?_ hfr hws hle
    have e1 : acc 0 (gus all es) (fun i => listed.getD i false) g0 = acc 0 (gus all es) (fun _ => true) g0 := by
      funext k
      refine acc_congr _ _ _ _ _ _ rfl fun j u hj _ => ?_
      obtain ⟨o, e, q1, q2, _⟩ := gus_some _ _ _ _ hj
      rw [Nat.zero_add]
      exact hall j (by rw [hsz]; exact (List.getElem?_eq_some_iff.1 q1).1)
    have e2 : acc 0 (hus es) (fun i => listed.getD i false) h0 = acc 0 (hus es) (fun _ => true) h0 := by
      funext k
      refine acc_congr _ _ _ _ _ _ rfl fun j u hj _ => ?_
      rw [hus_get] at hj
      rw [Nat.zero_add]
      cases hej : es[j]? with
      | none => rw [hej] at hj; cases hj
      | some e => exact hall j (by rw [hsz, ← hlen]; exact (List.getElem?_eq_some_iff.1 hej).1)
    rw [← e1, ← e2]; exact hi
  have noready : ∀ (listed : Array Bool), listed.size = all.length → Region.ready .any all.toArray listed = [] → ∀ i, i < listed.size → listed.getD i false = true := by
    intro listed hsz hr i
    induction i using Nat.strongRecOn with
    | _ i ih =>
      intro hi
      cases hb : listed.getD i false with
      | true => rfl
      | false =>
        have hlt : i < all.length := by omega
        have : i ∈ Region.ready .any all.toArray listed := by
          rw [mem_ready]
          refine ⟨?_, all[i], by simp [hlt], fun e he hbind => ?_⟩
          · rw [Array.getD_eq_getD_getElem?] at hb ⊢
            have : listed[i]? = some listed[i] := by simp [hi]
            rw [this] at hb ⊢; exact hb
          · have := topo_spec all 0 htopo i all[i] (by simp [hlt]) e he hbind
            exact ih e.on (by omega) (by omega)
        rw [hr] at this; cases this
  intro fuel
  induction fuel with
  | zero =>
    intro listed F L a w hsz hleft hcl hi hfk hfr hws hle
    have hall := left_zero (listed := listed) (by omega)
    refine ⟨?_, fin listed F L a w hsz hall hi hfr hws hle⟩
    cases hr : Region.ready .any all.toArray listed with
    | nil => rfl
    | cons j l =>
      have : j ∈ Region.ready .any all.toArray listed := by rw [hr]; simp
      obtain ⟨h1, o, ho, _⟩ := mem_ready.1 this
      have hj : j < listed.size := by
        rw [hsz]
        have := (Array.getElem?_eq_some_iff.1 ho).1
        simpa using this
      have h2 := hall j hj
      rw [Array.getD_eq_getD_getElem?] at h1 h2
      have : listed[j]? = some listed[j] := by simp [hj]
      rw [this] at h1 h2
      simp at h1 h2
      rw [h1] at h2; cases h2
  | succ fuel ih =>
    intro listed F L a w hsz hleft hcl hi hfk hfr hws hle
    refine ⟨fun hr => fin listed F L a w hsz (noready listed hsz hr) hi hfr hws hle, fun j hj => ?_⟩
    obtain ⟨hun, o, ho', hafter⟩ := mem_ready.1 hj
    have ho : all[j]? = some o := by simpa using ho'
    have hjlt : j < all.length := (List.getElem?_eq_some_iff.1 ho).1
    have hjl : j < listed.size := by omega
    obtain ⟨e, he⟩ : ∃ e, es[j]? = some e := ⟨es[j]'(by omega), by simp⟩
    have hDj : listed.getD j false = false := by
      rw [Array.getD_eq_getD_getElem?] at hun ⊢
      have : listed[j]? = some listed[j] := by simp [hjl]
      rw [this] at hun ⊢; exact hun
    have bef : ∀ i, before all all.length i j = true → listed.getD i false = true := fun i hb => before_ready (D := fun i => listed.getD i false) hcl ho hafter hb
    have aft : ∀ i, listed.getD i false = true → before all all.length j i = true → False := fun i hDi hb => by
      have : listed.getD j false = true := before_closed (D := fun i => listed.getD i false) hcl _ j i hb hDi
      rw [hDj] at this; cases this
    -- what it looks at is what the text's order shows
    have gsame : ∀ t ∈ o.looksAt all.toArray, acc 0 (gus all es) (fun i => listed.getD i false) g0 t = acc 0 (gus all es) (fun q => decide (q < j)) g0 t := by
      intro t ht
      refine acc_congr _ _ _ _ _ _ rfl fun i u hiu hu => ?_
      obtain ⟨oi, ei, q1, q2, rfl⟩ := gus_some _ _ _ _ hiu
      have hdi := dstU_some hu
      rw [Nat.zero_add]
      rcases Nat.lt_trichotomy i j with hlt | rfl | hgt
      · rw [decide_eq_true hlt]
        rcases regOk_spec all 0 hreg i j oi o hlt q1 ho with hb | hap
        · exact bef i (by simpa using hb)
        · exact absurd ht ((Oper.apart_spec hap).1 t hdi)
      · rw [hDj]; simp
      · rw [decide_eq_false (by omega)]
        cases hDi : listed.getD i false with
        | false => rfl
        | true =>
          rcases regOk_spec all 0 hreg j i o oi hgt ho q1 with hb | hap
          · exact (aft i hDi (by simpa using hb)).elim
          · exact absurd ht ((Oper.apart_spec hap).2.2 t hdi)
    have pair : ∀ i ei, es[i]? = some ei → (i < j → listed.getD i false = false → disj (domE ei.Δ) e.R = true ∧ disj (domE e.Δ) ei.R = true ∧ disj (domE ei.Δ) (domE e.Δ) = true) ∧
        (j < i → listed.getD i false = true → disj (domE e.Δ) ei.R = true ∧ disj (domE ei.Δ) e.R = true ∧ disj (domE e.Δ) (domE ei.Δ) = true) := by
      intro i ei hei
      refine ⟨fun hlt hD => ?_, fun hlt hD => ?_⟩
      · have := hpair i j ei e hlt hei he
        simp only [recOk, Nat.zero_add, Bool.or_eq_true, Bool.and_eq_true] at this
        rcases this with hb | hb
        · have := bef i hb; rw [hD] at this; cases this
        · exact ⟨hb.1.1, hb.1.2, hb.2⟩
      · have := hpair j i e ei hlt he hei
        simp only [recOk, Nat.zero_add, Bool.or_eq_true, Bool.and_eq_true] at this
        rcases this with hb | hb
        · exact (aft i hD hb).elim
        · exact ⟨hb.1.1, hb.1.2, hb.2⟩
    have hsame : only (acc 0 (hus es) (fun i => listed.getD i false) h0) e.R = only (acc 0 (hus es) (fun q => decide (q < j)) h0) e.R := by
      funext id
      unfold only
      split
      · rename_i hR
        have hR' : id ∈ e.R := by simpa using hR
        refine acc_congr _ _ _ _ _ _ rfl fun i u hiu hu => ?_
        rw [hus_get] at hiu
        cases hei : es[i]? with
        | none => rw [hei] at hiu; cases hiu
        | some ei =>
          rw [hei] at hiu
          simp only [Option.map_some, Option.some.injEq] at hiu
          subst hiu
          have hdom : id ∈ domE ei.Δ := by
            cases hl : lk ei.Δ id with
            | none => exact absurd hl hu
            | some x => rw [domE_map]; exact lk_dom hl
          rw [Nat.zero_add]
          rcases Nat.lt_trichotomy i j with hlt | rfl | hgt
          · rw [decide_eq_true hlt]
            cases hDi : listed.getD i false with
            | true => rfl
            | false => exact absurd hR' (disj_spec ((pair i ei hei).1 hlt hDi).1 id hdom)
          · rw [hDj]; simp
          · rw [decide_eq_false (by omega)]
            cases hDi : listed.getD i false with
            | false => rfl
            | true => exact absurd hR' (disj_spec ((pair i ei hei).2 hgt hDi).2.1 id hdom)
      · rfl
    have hset := all_set (listed := listed) (j := j) (d := false) hjl
    have gput : acc 0 (gus all es) (fun i => (listed.setIfInBounds j true).getD i false) g0 = upd (acc 0 (gus all es) (fun i => listed.getD i false) g0) (dstU o.dst e.v) := by
      funext t
      refine acc_put _ 0 j _ _ _ _ (gus_get _ _ _ _ _ ho he) (by simp only [Nat.zero_add, hset]; simp) (fun i hi => by simp only [hset]; rw [if_neg (by omega)]) (by simp only [Nat.zero_add]; exact hDj) fun i u hgt hiu hD hu => ?_
      obtain ⟨oi, ei, q1, q2, rfl⟩ := gus_some _ _ _ _ hiu
      rw [Nat.zero_add] at hD
      have hdi := dstU_some hu
      rcases regOk_spec all 0 hreg j i o oi hgt ho q1 with hb | hap
      · exact (aft i hD (by simpa using hb)).elim
      · cases hx : dstU o.dst e.v t with
        | none => rfl
        | some x =>
          have := dstU_some (d := o.dst) (v := e.v) (t := t) (by rw [hx]; simp)
          exact absurd hdi ((Oper.apart_spec hap).2.1 t this)
    have hput : acc 0 (hus es) (fun i => (listed.setIfInBounds j true).getD i false) h0 = upd (acc 0 (hus es) (fun i => listed.getD i false) h0) (lk e.Δ) := by
      funext id
      refine acc_put _ 0 j _ _ _ _ (by rw [hus_get, he]; rfl) (by simp only [Nat.zero_add, hset]; simp) (fun i hi => by simp only [hset]; rw [if_neg (by omega)]) (by simp only [Nat.zero_add]; exact hDj) fun i u hgt hiu hD hu => ?_
      rw [hus_get] at hiu
      rw [Nat.zero_add] at hD
      cases hei : es[i]? with
      | none => rw [hei] at hiu; cases hiu
      | some ei =>
        rw [hei] at hiu
        simp only [Option.map_some, Option.some.injEq] at hiu
        subst hiu
        have hd := ((pair i ei hei).2 hgt hD).2.2
        cases hx : lk e.Δ id with
        | none => rfl
        | some x =>
          have h1 : id ∈ domE e.Δ := by rw [domE_map]; exact lk_dom hx
          have h2 : id ∈ domE ei.Δ := by
            cases hl : lk ei.Δ id with
            | none => exact absurd hl hu
            | some x => rw [domE_map]; exact lk_dom hl
          exact absurd h2 (disj_spec hd id h1)
    have hdo : ∀ t, o.dst = some t → t < nt := by
      intro t ht
      have := List.all_eq_true.1 hdst o (List.mem_of_getElem? ho)
      rw [ht] at this
      simpa using this
    have hcl' : ∀ i o', all[i]? = some o' → (listed.setIfInBounds j true).getD i false = true → ∀ e ∈ o'.after, Region.binds .any e = true → (listed.setIfInBounds j true).getD e.on false = true := by
      intro i o' hoq hD e' he' hb
      rw [hset] at hD ⊢
      split
      · rfl
      · split at hD
        · rename_i hij; subst hij
          rw [ho] at hoq; cases hoq
          exact hafter e' he' hb
        · exact hcl i o' hoq hD e' he' hb
    have hleft' : left (listed.setIfInBounds j true) ≤ fuel := by
      have := left_set hjl hun
      omega
    have looks : ∀ x ∈ o.op.operands.toList, ∀ t, x = .tmp t → t ∈ o.looksAt all.toArray := by
      intro x hx t ht
      subst ht
      exact List.mem_append_left _ (List.mem_filterMap.2 ⟨.tmp t, hx, rfl⟩)
    have looksG : ∀ i t b, o.guard = some (i, b) → (all[i]?).bind (·.dst) = some t → t ∈ o.looksAt all.toArray := by
      intro i t b hgd ht
      refine List.mem_append_right _ ?_
      simp [hgd, ht]
    have hun' : ∀ i, (listed.setIfInBounds j true).getD i true = false → i ≠ j ∧ listed.getD i true = false := by
      intro i hi'
      rw [all_set hjl] at hi'
      split at hi'
      · cases hi'
      · rename_i hne; exact ⟨hne, hi'⟩
    unfold wpOp
    simp only [List.getElem?_toArray, ho]
    rcases hok j o e ho he with ⟨hrun, hgd, hop⟩ | ⟨hrun, hgd, hv, hΔ⟩
    · have hw : Region.wanted o (yielded all.toArray a.tmps) = true := by
        rcases hgd with hgd | ⟨i, t, b, h1, h2, h3⟩
        · simp [Region.wanted, hgd]
        · refine wants_true h1 h2 hi.ts ?_
          rw [gsame t (looksG i t b h1 h2)]; exact h3
      rw [if_pos hw]
      rw [opE_congr (g' := acc 0 (gus all es) (fun i => listed.getD i false) g0) (fun x hx => by
        cases x with
        | tmp t => simp only [opnd]; rw [gsame t (looks _ hx t rfl)]
        | _ => rfl), ← hsame] at hop
      refine .inl (op_sound hS (HR_sub (fun id bk => only_some) hi.hr) hi.base (hfk j hun) hi.gs hi.ts hop fun v' w' F' L' p => ?_)
      have p' := p.up (h := acc 0 (hus es) (fun i => listed.getD i false) h0) (fun id bk => only_some)
      have hi' := hi.step (hfk j hun) p' hdo
      rw [← gput, ← hput] at hi'
      have hnew : ∀ id l', L' id = some l' → L id = none → nx + 64 * j ≤ id ∧ id < nx + 64 * j + 64 := by
        intro id l' h1 h2
        rcases p.lnew id l' h1 with h | h
        · rw [h2] at h; cases h
        · exact h
      refine ih (listed.setIfInBounds j true) F' L' _ w' (by simpa using hsz) hleft' hcl' hi' (fun i hii => ?_) (fun id hid => ?_) (hws.trans (Grow.of_post hi.hr hi.base (hfk j hun) p')) (hle.trans p.lle)
      · obtain ⟨hne, hui⟩ := hun' i hii
        intro id hid1 hid2
        have := hfk i hui id hid1 hid2
        cases hl : L' id with
        | none => rfl
        | some l' =>
          have := hnew id l' hl this
          omega
      · have := hfr id hid
        cases hl : L' id with
        | none => rfl
        | some l' =>
          have := hnew id l' hl this
          omega
    · obtain ⟨i, t, b, h1, h2, h3⟩ := hgd
      have hw : Region.wanted o (yielded all.toArray a.tmps) = false := by
        refine wants_false h1 h2 hi.ts ?_
        rw [gsame t (looksG i t b h1 h2)]; exact h3
      rw [if_neg (by rw [hw]; simp)]
      have hi' := hi.skip (d := o.dst) hdo
      rw [← hv, ← hΔ, ← gput, ← hput] at hi'
      refine ih (listed.setIfInBounds j true) F L _ w (by simpa using hsz) hleft' hcl' hi' (fun i hii => hfk i (hun' i hii).2) hfr hws hle

end
end Go.Proofs.Ytkmeimhapokdlaa.Ae
