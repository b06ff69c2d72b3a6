/- Arguments of a law's row as data. Lemmas alone. -/
import Derived.Test.YtloohkifibfdiaaAe24
import Derived.ChangeShapes
import Derived.OpenShut
import Derived.RowKit
import Derived.Below
import Derived.Deep.Slices
set_option linter.unusedVariables false
set_option linter.unusedSimpArgs false
namespace Go.Proofs.Ytloohkifibfdiaa.Ae
open Go Go.RowKit

/-- Is the type read as data of this kind? -/
def tyK (P : Program) : Nat → TypeId → Kd → Bool
  | 0, _, _ => false
  | d + 1, t, K => match P.underlying t, K with
    | some (.int k), .int k' => decide (k = k')
    | some .bool, .bool => true
    | some .string, .str => true
    | some (.struct fs), .cons A B => Nat.beq (P.cellsOf t) (Kd.cons A B).size && tyFs (tyK P d) P 0 fs.toList (.cons A B)
    | some (.array n e), .arr n' K => Nat.beq n n' && Nat.beq (P.cellsOf t) n && Nat.beq (P.cellsOf e) 1 && decide (K.sh = .leaf) && tyK P d e K
    | some (.slice e), .sl K => Nat.beq (P.cellsOf e) K.size && Nat.blt 0 K.size && tyK P d e K
    | _, _ => false
 where
  tyFs (r : TypeId → Kd → Bool) (P : Program) : Nat → List Field → Kd → Bool
    | _, [], .nil => true
    | o, f :: fs, .cons A B => Nat.beq f.offset o && Nat.beq (P.cellsOf f.type) A.size && r f.type A && tyFs r P (o + A.size) fs B
    | _, _, _ => false

section
variable {P : Program} {w : World} {H : Type} {enc : TypeId × Value → H} {base : Nat} {sp : Nat → Bool} {held : Bool}

theorem choose_list {X : Type} {p : Nat → X → Prop} : ∀ n, (∀ i, i < n → ∃ y, p i y) → ∃ xs : List X, xs.length = n ∧ ∀ i x, xs[i]? = some x → p i x
  | 0, _ => ⟨[], rfl, fun i x h => by simp at h⟩
  | n + 1, h => by
    obtain ⟨xs, h1, h2⟩ := choose_list n fun i hi => h i (by omega)
    obtain ⟨y, hy⟩ := h n (by omega)
    refine ⟨xs ++ [y], by simp [h1], fun i x hx => ?_⟩
    rw [List.getElem?_append] at hx
    split at hx
    · exact h2 i x hx
    · have : i = xs.length := by
        have := (List.getElem?_eq_some_iff.1 hx).1
        simp at this; omega
      subst this
      simp at hx
      rw [h1]; exact hx ▸ hy

theorem mapM_each {α β : Type} {f : α → Option β} : ∀ {l : List α} {r : List β}, l.mapM f = some r → ∀ x ∈ l, ∃ y, f x = some y
  | [], _, _, x, hx => by cases hx
  | a :: l, r, h, x, hx => by
    rw [List.mapM_cons] at h
    cases ha : f a with
    | none => rw [ha] at h; cases h
    | some b =>
      rw [ha] at h
      cases hl : l.mapM f with
      | none => simp [hl] at h
      | some r' =>
        rcases List.mem_cons.1 hx with rfl | hx
        · exact ⟨b, ha⟩
        · exact mapM_each hl x hx

theorem mapM_idx {α β : Type} {f : α → Option β} : ∀ {l : List α} {r : List β}, l.mapM f = some r → r.length = l.length ∧ ∀ (j : Nat) v, r[j]? = some v → (l[j]?).bind f = some v
  | [], r, h => by simp at h; subst h; exact ⟨rfl, fun j v h => by simp at h⟩
  | a :: l, r, h => by
    rw [List.mapM_cons] at h
    cases ha : f a with
    | none => rw [ha] at h; cases h
    | some b =>
      rw [ha] at h
      cases hl : l.mapM f with
      | none => simp [hl] at h
      | some r' =>
        simp [hl] at h
        subst h
        obtain ⟨h1, h2⟩ := mapM_idx hl
        refine ⟨by simp [h1], fun j v hj => ?_⟩
        cases j with
        | zero => simp at hj ⊢; rw [ha, hj]
        | succ j => simpa using h2 j v (by simpa using hj)

theorem tyFs_RK {F : FS} {r : TypeId → Kd → Bool} {tr : TypeId → List Value → Option (DataW H × List MemPlace)} (hr : ∀ t K cs x, r t K = true → tr t cs = some x → ∃ y, RK F w K y cs) :
    ∀ (fs : List Field) (o : Nat) (K : Kd) (cs : List Value) (xs : List (DataW H × List MemPlace)), tyK.tyFs r P o fs K = true → (fs.mapM fun f => tr f.type ((cs.drop f.offset).take (P.cellsOf f.type))) = some xs → cs.length = o + K.size → ∃ y, RK F w K y (cs.drop o)
  | [], o, K, cs, xs, h, _, hl => by
    cases K <;> simp only [tyK.tyFs, reduceCtorEq, Bool.false_eq_true] at h
    refine ⟨(), ?_⟩
    show cs.drop o = []
    simp only [Kd.size] at hl
    rw [List.drop_eq_nil_iff]; omega
  | f :: fs, o, K, cs, xs, h, hm, hl => by
    cases K <;> simp only [tyK.tyFs, reduceCtorEq, Bool.false_eq_true, Bool.and_eq_true] at h
    rename_i A B
    obtain ⟨⟨⟨h1, h2⟩, h3⟩, h4⟩ := h
    have e1 := Nat.eq_of_beq_eq_true h1
    have e2 := Nat.eq_of_beq_eq_true h2
    have hall := mapM_each hm
    obtain ⟨y1, hy1⟩ := hall f (by simp)
    obtain ⟨u, hu⟩ := hr _ _ _ _ h3 hy1
    rw [List.mapM_cons] at hm
    have hm' : ∃ xs', (fs.mapM fun f => tr f.type ((cs.drop f.offset).take (P.cellsOf f.type))) = some xs' := by
      rw [hy1] at hm
      cases hq : (fs.mapM fun f => tr f.type ((cs.drop f.offset).take (P.cellsOf f.type))) with
      | none => simp [hq] at hm
      | some xs' => exact ⟨xs', rfl⟩
    obtain ⟨xs', hm'⟩ := hm'
    simp only [Kd.size] at hl
    obtain ⟨v, hv⟩ := tyFs_RK hr fs (o + A.size) B cs xs' h4 hm' (by omega)
    refine ⟨(u, v), _, _, ?_, hu, hv⟩
    rw [e1, e2, ← List.drop_drop, List.take_append_drop]

theorem trod_RK {F : FS} (hF : ∀ b, b < w.heap.size → F b) : ∀ (d : Nat) (t : TypeId) (K : Kd) (fuel : Nat) (cs : List Value) (x : DataW H × List MemPlace), tyK P d t K = true → DataW.trod enc P w base sp held fuel t cs = some x → ∃ y : K.T, RK F w K y cs
  | 0, _, _, _, _, _, h, _ => by simp [tyK] at h
  | d + 1, t, K, 0, cs, x, _, h => by simp [DataW.trod] at h
  | d + 1, t, K, fuel + 1, cs, x, ht, h => by
    unfold tyK at ht
    split at ht
    · rename_i k k' hu
      obtain rfl := of_decide_eq_true ht
      obtain ⟨n, rfl, _, hw⟩ := DataW.trod_int hu h
      exact ⟨n, rfl, hw⟩
    · rename_i hu
      obtain ⟨b, rfl, _⟩ := DataW.trod_bool hu h
      exact ⟨b, rfl⟩
    · rename_i hu
      unfold DataW.trod at h
      simp only [hu] at h
      split at h <;> simp_all
      all_goals first
        | exact ⟨_, rfl⟩
        | skip
    · rename_i fs A B hu
      simp only [Bool.and_eq_true] at ht
      have e1 := Nat.eq_of_beq_eq_true ht.1
      unfold DataW.trod at h
      simp only [hu] at h
      split at h
      · rename_i hl
        cases hm : (fs.toList.mapM fun f => DataW.trod enc P w base sp held fuel f.type ((cs.drop f.offset).take (P.cellsOf f.type))) with
        | none => rw [hm] at h; cases h
        | some xs =>
          have := tyFs_RK (F := F) (w := w) (r := tyK P d) (tr := DataW.trod enc P w base sp held fuel) (fun t K cs x h1 h2 => trod_RK hF d t K fuel cs x h1 h2) fs.toList 0 (.cons A B) cs xs ht.2 hm (by omega)
          simpa using this
      · cases h
    · rename_i n e n' K hu
      simp only [Bool.and_eq_true, decide_eq_true_eq] at ht
      obtain ⟨⟨⟨⟨h1, h2⟩, h3⟩, h4⟩, h5⟩ := ht
      obtain rfl := Nat.eq_of_beq_eq_true h1
      have e2 := Nat.eq_of_beq_eq_true h2
      have e3 := Nat.eq_of_beq_eq_true h3
      unfold DataW.trod at h
      simp only [hu] at h
      split at h
      · rename_i hl
        cases hm : ((List.range n).mapM fun i => DataW.trod enc P w base sp held fuel e ((cs.drop (i * P.cellsOf e)).take (P.cellsOf e))) with
        | none => rw [hm] at h; cases h
        | some xs =>
          have hall := mapM_each hm
          obtain ⟨ys, y1, y2⟩ := choose_list (p := fun i (y : K.T) => RK F w K y ((cs.drop i).take 1)) n fun i hi => by
            obtain ⟨y, hy⟩ := hall i (by simpa using hi)
            rw [e3, Nat.mul_one] at hy
            exact trod_RK hF d e K fuel _ y h5 hy
          refine ⟨ys, ⟨y1, h4⟩, by omega, fun i y v h1 h2 => ?_⟩
          have := y2 i y h1
          have hlt := (List.getElem?_eq_some_iff.1 h2).1
          have e : (cs.drop i).take 1 = [v] := by
            rw [List.drop_eq_getElem_cons hlt]
            have := (List.getElem?_eq_some_iff.1 h2).2
            simp [this]
          rw [e] at this; exact this
      · cases h
    · rename_i e K hu
      simp only [Bool.and_eq_true] at ht
      have e1 := Nat.eq_of_beq_eq_true ht.1.1
      have e2 : 0 < K.size := by simpa using ht.1.2
      rcases Deep.open_slice hu h with ⟨rfl, _⟩ | ⟨a, len, cap, m, n, D, Pl, rfl, hb, hl, hm, hmm, _, hel⟩
      · exact ⟨[], none, 0, rfl, Nat.le_refl _, by omega, .inl rfl⟩
      · have hle : len ≤ m := by rw [hmm]; split <;> omega
        have hcells : ∀ i, i < len → ∃ cs' y, w.cells? base (a.add (i * P.cellsOf e)) (P.cellsOf e) = some cs' ∧ RK F w K y cs' := fun i hi => by
          obtain ⟨cs', q1, q2⟩ := hel i (by omega)
          obtain ⟨y, hy⟩ := trod_RK hF d e K n cs' _ ht.2 q2
          exact ⟨cs', y, q1, hy⟩
        obtain ⟨ys, y1, y2⟩ := choose_list (p := fun i (y : K.T) => ∃ cs', w.cells? base (a.add (i * P.cellsOf e)) (P.cellsOf e) = some cs' ∧ RK F w K y cs') len fun i hi => by
          obtain ⟨cs', y, q1, q2⟩ := hcells i hi
          exact ⟨y, cs', q1, q2⟩
        have hm63 : cap < 2 ^ 63 := by simp [maxLen] at hm; omega
        refine ⟨ys, some a, cap, by rw [y1], by omega, hm63, ?_⟩
        by_cases h0 : len = 0
        · exact .inl (List.eq_nil_of_length_eq_zero (by omega))
        · right
          have cellOf : ∀ i cs', w.cells? base (a.add (i * P.cellsOf e)) (P.cellsOf e) = some cs' → cs'.length = P.cellsOf e ∧ ∀ j v, cs'[j]? = some v → w.cell? ((a.add (i * P.cellsOf e)).add j) = some v := fun i cs' hc => by
            unfold World.cells? at hc
            split at hc
            · have hall := mapM_idx hc
              exact ⟨by simpa using hall.1, fun j v hj => by
                have := hall.2 j v hj
                rw [List.getElem?_range (by have := (List.getElem?_eq_some_iff.1 hj).1; have := hall.1; simp at this; omega)] at this
                simpa using this⟩
            · cases hc
          obtain ⟨cs0, y0, q1, q2⟩ := hcells 0 (by omega)
          obtain ⟨k1, k2⟩ := cellOf 0 cs0 q1
          have hc0 := k2 0 (cs0[0]'(by omega)) (by simp)
          have ea0 : (a.add (0 * P.cellsOf e)).add 0 = a := by simp [Addr.add]
          rw [ea0] at hc0
          have hsp : a.spot = none ∧ a.block < w.heap.size := by
            unfold World.cell? at hc0
            split at hc0
            · rename_i c t f hb'
              have hlt := (Array.getElem?_eq_some_iff.1 hb').1
              split at hc0
              · cases hc0
              · rename_i hs
                refine ⟨?_, hlt⟩
                simpa using hs
            · cases hc0
          obtain ⟨ab, ao, asp⟩ := a
          obtain ⟨rfl, hblk⟩ := hsp
          refine ⟨ab, ao, rfl, hF _ hblk, fun i y hy => ?_⟩
          obtain ⟨cs', q1, q2⟩ := y2 i y hy
          refine ⟨cs', fun j v hj => ?_, q2⟩
          have := (cellOf i cs' q1).2 j v hj
          rw [e1] at this
          rw [addr_add, addr_add] at this; exact this
    · cases ht

open Go.WideShapes in
theorem open_kv {F : FS} (hF : ∀ b, b < w.heap.size → F b) {D : Nat} {t : TypeId} {K : Kd} {v : Value} {d : DataW H} {ps : List MemPlace} {w' : World} {r : Reach} {b0 : Nat} (ht : tyK P D t K = true) (hval : Value.okWide P w' r b0 t v) (h : DataW.Trod enc P w base sp held t v d ps) : ∃ y, KV F w K y v := by
  obtain ⟨fuel, hf⟩ := h
  obtain ⟨y, hy⟩ := trod_RK hF D t K fuel _ _ ht hf
  refine ⟨y, hy, ?_⟩
  cases D with
  | zero => simp [tyK] at ht
  | succ D =>
    unfold tyK at ht
    split at ht
    · rename_i k k' hu
      obtain ⟨n, rfl⟩ := okWide_int hu hval
      exact ⟨fun h => (by cases h), fun _ => rfl⟩
    · rename_i hu
      obtain ⟨b, rfl⟩ := okWide_bool hu hval
      exact ⟨fun h => (by cases h), fun _ => rfl⟩
    · rename_i hu
      obtain ⟨s, rfl⟩ := okWide_string hu hval
      exact ⟨fun h => (by cases h), fun _ => rfl⟩
    · rename_i fs A B hu
      unfold Value.okWide at hval
      rw [hu] at hval
      obtain ⟨cs, rfl, _⟩ := hval
      exact ⟨fun _ => ⟨cs, rfl⟩, fun h => (by cases h)⟩
    · rename_i n e n' K hu
      unfold Value.okWide at hval
      rw [hu] at hval
      obtain ⟨cs, rfl, _⟩ := hval
      exact ⟨fun _ => ⟨cs, rfl⟩, fun h => (by cases h)⟩
    · rename_i e K hu
      obtain ⟨a, len, cap, rfl⟩ := okWide_slice hu hval
      exact ⟨fun h => (by cases h), fun _ => rfl⟩
    · cases ht

end

/-- A law's call: it answers true, and nothing that was there is changed. -/
theorem law_call (c : Cx) (hS : SpecOK c.S c.P c.gl) (hm : c.P.follows .mixedOrders = true) (hgl : GlOk c.gl) {id : Nat} {fn : Func} {code : Code} (hfn : c.P.funcs[id]? = some fn) (hb : fn.body = some code) (hok : okC fn.ntmps code = true) {Ka : Kd} (hlen : Nat.ble Ka.len fn.ntmps = true)
    {x : Ka.T} (hrun : runD c fn code Ka (.cons .bool .nil) x = some (true, ())) {w : World} (hg : GS c.gl (fun b => b < w.heap.size) (fun _ => none) w) {vs : List Value} (hvs : KVs (fun b => b < w.heap.size) w Ka x vs) :
    Calls c.P id vs.toArray w fun e w' => e = .returned (.bool true) ∧ Below w.heap.size w w' := by
  refine (call_sound c hS hm hgl hfn hb hok (Nat.le_of_ble_eq_true hlen) hrun (fun _ h => h) hg hvs).mono ?_
  rintro e w' ⟨vs', F', rfl, ⟨v, vs2, rfl, ⟨h1, _, h3⟩, h4⟩, hgr, _⟩
  rw [show vs2 = [] from h4]
  have h5 := h3 rfl
  have h6 : v.cells.toList = [.bool true] := h1
  rw [h5] at h6
  simp only [List.cons.injEq, and_true] at h6
  refine ⟨?_, hgr.env.1, hgr.env.2.1, hgr.env.2.2, hgr.sz, hgr.frame⟩
  simp [h6]

end Go.Proofs.Ytloohkifibfdiaa.Ae
