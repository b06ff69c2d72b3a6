/- Composite values, stores. Lemmas alone. -/
import Derived.Test.YtkmeimhapokdlaaAe10
set_option linter.unusedVariables false
set_option linter.unusedSimpArgs false
namespace Go.Proofs.Ytkmeimhapokdlaa.Ae
open Go

section
variable {F : FS} {L : LM} {w w' : World} {P : Program} {hp : Hp} {B0 : FS} {key : Nat}

/-! ### Parts put in -/
theorem setRange : ∀ (l cs : List Value) (off k : Nat), off + k + l.length ≤ cs.length →
    (l.zipIdx k).foldl (fun (cs : List Value) (p : Value × Nat) => cs.set (off + p.2) p.1) cs = cs.take (off + k) ++ (l ++ cs.drop (off + k + l.length))
  | [], cs, off, k, h => by simp
  | x :: l, cs, off, k, h => by
    rw [List.zipIdx_cons, List.foldl_cons, setRange l _ off (k + 1) (by simp at h ⊢; omega)]
    have h1 : off + k < cs.length := by simp at h; omega
    rw [list_set_split h1]
    have hA : (cs.take (off + k) ++ [x]).length = off + (k + 1) := by simp; omega
    rw [show cs.take (off + k) ++ ([x] ++ cs.drop (off + k + 1)) = (cs.take (off + k) ++ [x]) ++ cs.drop (off + k + 1) by simp]
    rw [List.take_left' hA, List.drop_append, List.drop_eq_nil_of_le (by rw [hA]; omega), hA, List.nil_append, List.drop_drop]
    simp only [List.append_assoc, List.singleton_append, List.cons_append, List.length_cons]
    rw [show off + k + 1 + (off + (k + 1) + l.length - (off + (k + 1))) = off + k + (l.length + 1) by omega, List.nil_append]

theorem foldl_zip (cs : Array Value) (vc : Array Value) (off : Nat) (h : off + vc.size ≤ cs.size) :
    (vc.zipIdx.foldl (fun (cs : Array Value) (p : Value × Nat) => cs.setIfInBounds (off + p.2) p.1) cs) = (cs.toList.take off ++ (vc.toList ++ cs.toList.drop (off + vc.size))).toArray := by
  apply Array.ext'
  rw [← Array.foldl_toList]
  have key : ∀ (l : List (Value × Nat)) (a : Array Value), (l.foldl (fun (cs : Array Value) (p : Value × Nat) => cs.setIfInBounds (off + p.2) p.1) a).toList = l.foldl (fun (cs : List Value) (p : Value × Nat) => cs.set (off + p.2) p.1) a.toList := by
    intro l
    induction l with
    | nil => intro a; rfl
    | cons p l ih => intro a; rw [List.foldl_cons, List.foldl_cons, ih]; simp
  rw [key]
  have := setRange vc.toList cs.toList off 0 (by simpa using h)
  simp only [Array.toList_zipIdx]
  rw [this]
  simp

/-- The places that the parts of such a form lie at. -/
def PlaceOk (place : Nat → Option (Nat × Nat)) (s : Sh) : Prop := (∀ f o u, s.field f = some (o, u) → place f = some (o, u.size)) ∧ ∀ n, s = .arr n → ∀ i, i < n → place i = some (i, 1)

/-- Parts and their values. -/
def PV (F : FS) (L : LM) (w : World) : List (Nat × AV) → List (Nat × Value) → Prop
  | [], [] => True
  | (i, a) :: l, (j, v) :: m => i = j ∧ VV F L w a v ∧ PV F L w l m
  | _, _ => False

theorem leaf_plain {v : AV} {K : Kd} {x : K.T} (h : dec (fun _ => none) K v = some x) : v.plain = true := by
  cases K <;> cases v <;> first | rfl | (simp [dec] at h)

theorem setPart_sound (hf : ∀ b, F b → b < w.heap.size) {place : Nat → Option (Nat × Nat)} {K K' v : AV} {i : Nat} {u : Value} {cs : List Value} (hpl : PlaceOk place K.sh) (hk : VR F L w K cs) (hv : VV F L w v u) (h : setPart K i v = some K') :
    ∃ o cs', place i = some (o, u.cells.size) ∧ o + u.cells.size ≤ cs.length ∧ u.cells.zipIdx.foldl (fun (cs : Array Value) (p : Value × Nat) => cs.setIfInBounds (o + p.2) p.1) cs.toArray = cs'.toArray ∧ VR F L w K' cs' ∧ K'.sh = K.sh := by
  unfold setPart at h
  split at h
  · rename_i n E xs
    split at h
    · rename_i x hx
      split at h
      · rename_i hc
        cases h
        have hp := leaf_plain hx
        obtain ⟨h1, _, _⟩ := VV_cells hp hv
        have hsz := VR_size v _ h1
        have hs1 : v.size = 1 := by rw [← AV.sh_size, hc.2]; rfl
        rw [hs1] at hsz
        obtain ⟨y, hy⟩ := List.length_eq_one_iff.1 hsz
        have hcells : u.cells = #[y] := by apply Array.ext'; rw [hy]
        have hr := dec_none_RK hf hx h1
        rw [hy] at hr
        simp only [VR] at hk
        obtain ⟨⟨r1, r2⟩, r3, r4⟩ := hk
        refine ⟨i, cs.set i y, ?_, ?_, ?_, ?_, rfl⟩
        · rw [hcells]; exact hpl.2 n rfl i hc.1
        · rw [hcells]; simp; omega
        · rw [hcells]; simp
        · simp only [VR]
          refine ⟨⟨by simp [r1], r2⟩, by simp [r3], fun j x' v' q1 q2 => ?_⟩
          rw [List.getElem?_set] at q1 q2
          by_cases hij : i = j
          · subst hij
            rw [if_pos rfl, if_pos (by omega)] at q1 q2
            cases q1; cases q2; exact hr
          · rw [if_neg hij] at q1 q2
            exact r4 j x' v' q1 q2
      · cases h
    · cases h
  · rename_i hna
    split at h
    · rename_i wv K'' hg hs
      split at h
      · rename_i hc
        cases h
        obtain ⟨h1, _, _⟩ := VV_cells hc.2 hv
        obtain ⟨o, c1, c2, c3, e1, e2, e3, e4, e5, e6⟩ := VR_setF K i wv v K' cs hk hg hs hc.1.symm
        have hsz := VR_size v _ h1
        have hsz2 := VR_size wv _ e4
        have hss : wv.size = v.size := by rw [← AV.sh_size, ← AV.sh_size, hc.1]
        have hsu : u.cells.size = v.size := by simpa using hsz
        refine ⟨o, c1 ++ (u.cells.toList ++ c3), ?_, ?_, ?_, e6 _ h1, e5⟩
        · rw [hpl.1 i o wv.sh e1, hsu, AV.sh_size, hss]
        · rw [e2, hsu, ← hss, ← hsz2]; simp; omega
        · rw [foldl_zip _ _ _ (by rw [e2, hsu, ← hss, ← hsz2]; simp; omega)]
          congr 1
          simp only [e2]
          rw [← e3, List.take_left' rfl]
          congr 2
          rw [hsu, ← hss, ← hsz2, ← List.length_append, ← List.append_assoc, List.drop_left' rfl]
      · cases h
    · cases h

theorem setParts_sound (hf : ∀ b, F b → b < w.heap.size) {place : Nat → Option (Nat × Nat)} : ∀ (l : List (Nat × AV)) (m : List (Nat × Value)) (K K' : AV) (cs : List Value), PlaceOk place K.sh → VR F L w K cs → PV F L w l m → setParts K l = some K' →
    ∃ cs', Instr.fill place cs.toArray m = some cs'.toArray ∧ VR F L w K' cs' ∧ K'.sh = K.sh
  | [], [], K, K', cs, hp, hk, _, h => by cases h; exact ⟨cs, rfl, hk, rfl⟩
  | [], _ :: _, _, _, _, _, _, hpv, _ => hpv.elim
  | (_, _) :: _, [], _, _, _, _, _, hpv, _ => hpv.elim
  | (i, a) :: l, (j, u) :: m, K, K', cs, hp, hk, hpv, h => by
    obtain ⟨rfl, hv, hpv⟩ := hpv
    simp only [setParts] at h
    split at h
    · rename_i K1 hK1
      obtain ⟨o, cs1, p1, p2, p3, p4, p5⟩ := setPart_sound hf hp hk hv hK1
      obtain ⟨cs', q1, q2, q3⟩ := setParts_sound hf l m K1 K' cs1 (by rw [p5]; exact hp) p4 hpv h
      refine ⟨cs', ?_, q2, q3.trans p5⟩
      unfold Instr.fill
      rw [p1]
      simp only
      rw [if_neg (by simp; omega)]
      rw [← q1, ← p3]
    · cases h


theorem mapM_run {α β : Type} (g : α → Sem β) (f : α → β) : ∀ (l : List α), (∀ x ∈ l, (g x).run P w = .ok (f x) w) → (l.mapM g).run P w = .ok (l.map f) w
  | [], _ => rfl
  | x :: l, h => by
    rw [List.mapM_cons, Sem.run_bind, h x (by simp), Result.andThen_ok, Sem.run_bind, mapM_run g f l (fun y hy => h y (by simp [hy]))]
    rfl

theorem fieldOffs_place : ∀ (s : Sh) (o : Nat) (fs : List Field), fieldOffs P s o fs = true →
    (∀ f ∈ fs, P.cellsOf f.type ≠ 0) ∧ ∀ (i d : Nat) (u : Sh), s.field i = some (d, u) → (fs.map fun f => (f.offset, P.cellsOf f.type))[i]? = some (o + d, u.size)
  | .nil, o, [], _ => ⟨by simp, fun i d u h => by cases i <;> simp [Sh.field] at h⟩
  | .cons a b, o, f :: fs, h => by
    simp only [fieldOffs, Bool.and_eq_true, beq_iff_eq, bne_iff_ne, ne_eq] at h
    obtain ⟨⟨⟨h1, h2⟩, h3⟩, h4⟩ := h
    obtain ⟨i1, i2⟩ := fieldOffs_place b (o + a.size) fs h4
    refine ⟨fun g hg => ?_, fun i d u hf => ?_⟩
    · cases hg with
      | head => rw [h2]; exact h3
      | tail _ hg => exact i1 g hg
    · cases i with
      | zero =>
        simp only [Sh.field, Option.some.injEq, Prod.mk.injEq] at hf
        obtain ⟨rfl, rfl⟩ := hf
        simp [h1, h2]
      | succ i =>
        simp only [Sh.field] at hf
        split at hf
        · rename_i o' s' hs
          cases hf
          have := i2 i _ _ hs
          simp only [List.map_cons, List.getElem?_cons_succ, this]
          congr 2; omega
        · cases hf
  | .nil, _, _ :: _, h => by simp [fieldOffs] at h
  | .leaf, _, _, h => by simp [fieldOffs] at h
  | .arr _, _, _, h => by simp [fieldOffs] at h
  | .cons _ _, _, [], h => by simp [fieldOffs] at h

theorem chainSame_place {n : Nat} : ∀ (s : Sh) (m : Nat), chainSame n s m = true → ∀ (i d : Nat) (u : Sh), s.field i = some (d, u) → d = i * n ∧ u.size = n
  | .nil, 0, _, i, d, u, h => by cases i <;> simp [Sh.field] at h
  | .cons a b, m + 1, hc, i, d, u, h => by
    simp only [chainSame, Bool.and_eq_true, beq_iff_eq] at hc
    cases i with
    | zero =>
      simp only [Sh.field, Option.some.injEq, Prod.mk.injEq] at h
      obtain ⟨rfl, rfl⟩ := h
      exact ⟨by simp, hc.1⟩
    | succ i =>
      simp only [Sh.field] at h
      split at h
      · rename_i o' s' hs
        cases h
        have := chainSame_place b m hc.2 i _ _ hs
        exact ⟨by rw [this.1, hc.1, Nat.add_mul]; omega, this.2⟩
      · cases h
  | .nil, _ + 1, h, _, _, _, _ => by simp [chainSame] at h
  | .leaf, _, h, _, _, _, _ => by simp [chainSame] at h
  | .arr _, _, h, _, _, _, _ => by simp [chainSame] at h
  | .cons _ _, 0, h, _, _, _, _ => by simp [chainSame] at h

theorem build'_sound (hf : ∀ b, F b → b < w.heap.size) {t : TypeId} {ps : List (Nat × AV)} {m : Array (Nat × Value)} {v : AV} {Δ : Eff} (hpv : PV F L w ps m.toList) (h : build' P t ps = some (true, v, Δ)) :
    ∃ u, (Instr.build t m).run P w = .ok u w ∧ VV F L w v u ∧ Δ = [] := by
  unfold build' at h
  split at h
  · rename_i z hz
    split at h
    · rename_i hlay
      split at h
      · rename_i v' hs
        cases h
        obtain ⟨zv, z1, z2, z3, z4⟩ := zero?_sound (F := F) (L := L) (w := w) hz
        have fin : ∀ (place : Nat → Option (Nat × Nat)), PlaceOk place z.sh → ∃ cs', Instr.fill place zv.cells m.toList = some cs'.toArray ∧ VR F L w v cs' ∧ v.sh = z.sh := by
          intro place hp
          have := setParts_sound hf ps m.toList z v zv.cells.toList hp z3 hpv hs
          simpa using this
        unfold layOk at hlay
        split at hlay
        · rename_i fs hu
          obtain ⟨f1, f2⟩ := fieldOffs_place z.sh 0 fs.toList hlay
          obtain ⟨cs', q1, q2, q3⟩ := fin (fun (i : Nat) => (fs.toList.map fun f => (f.offset, P.cellsOf f.type))[i]?) ⟨fun f o u hfo => by have := f2 f o u hfo; simpa using this, fun n hn => by
            have : fieldOffs P z.sh 0 fs.toList = true := hlay
            rw [hn] at this; simp [fieldOffs] at this⟩
          refine ⟨.agg cs'.toArray, ?_, ?_, rfl⟩
          · simp only [Instr.build, Sem.run_bind, z1, Result.andThen_ok, run_underlying hu]
            have hmap : (fs.mapM fun f => (do pure (f.offset, ← sizeOf f.type) : Sem (Nat × Nat))).run P w = .ok (fs.map fun f => (f.offset, P.cellsOf f.type)) w := by
              rw [Array.mapM_eq_mapM_toList, Sem.run_map]
              rw [mapM_run (P := P) (w := w) _ (fun f => (f.offset, P.cellsOf f.type)) fs.toList]
              · simp only [Result.andThen_ok]
                congr 1
                apply Array.ext'; simp
              · intro f hfm
                obtain ⟨i, hi⟩ := info_of_cells (f1 f hfm)
                simp [run_sizeOf w hi]
            rw [hmap]
            simp only [Result.andThen_ok]
            have hpl : (fun (i : Nat) => (fs.toList.map fun f => (f.offset, P.cellsOf f.type))[i]?) = fun (x : Nat) => (fs.map fun f => (f.offset, P.cellsOf f.type))[x]? := by
              funext i; simp
            rw [hpl] at q1
            rw [q1]
            rfl
          · have hag : v.isAgg = true ∧ v.plain = true := by
              have : fieldOffs P z.sh 0 fs.toList = true := hlay
              rw [← q3] at this
              cases v <;> first | exact ⟨rfl, rfl⟩ | (cases hfl : fs.toList <;> simp [AV.sh, fieldOffs, hfl] at this)
            rw [VV_plain hag.2, hag.1, cond_true]
            exact ⟨cs', rfl, q2⟩
        · rename_i n e hu
          have hsz : P.cellsOf e ≠ 0 := by
            split at hlay
            · simp only [Bool.and_eq_true, beq_iff_eq] at hlay; omega
            · simp only [Bool.and_eq_true, bne_iff_ne] at hlay; exact hlay.2
          obtain ⟨i, hi⟩ := info_of_cells hsz
          have hpo : PlaceOk (fun i => some (i * P.cellsOf e, P.cellsOf e)) z.sh ∧ z.isAgg = true := by
            split at hlay
            · rename_i n' K xs
              simp only [Bool.and_eq_true, beq_iff_eq] at hlay
              refine ⟨⟨fun f o u hfo => (by rw [AV.sh, field_arr] at hfo; cases hfo), fun n hn i hi => by rw [hlay.2]; simp⟩, rfl⟩
            · rename_i hna
              simp only [Bool.and_eq_true] at hlay
              refine ⟨⟨fun f o u hfo => ?_, fun n hn => ?_⟩, ?_⟩
              · have := chainSame_place z.sh n hlay.1 f o u hfo
                rw [this.1, this.2]
              · obtain ⟨K, xs, e⟩ := sh_arr hn
                exact absurd e (hna _ _ _)
              · cases z <;> first | rfl | (simp [AV.sh, chainSame] at hlay)
          obtain ⟨cs', q1, q2, q3⟩ := fin _ hpo.1
          refine ⟨.agg cs'.toArray, ?_, ?_, rfl⟩
          · simp only [Instr.build, Sem.run_bind, z1, Result.andThen_ok, run_underlying hu, run_sizeOf w hi]
            rw [q1]
            rfl
          · have hag : v.isAgg = true ∧ v.plain = true := by
              have h1 := hpo.2
              have h2 := q3
              cases v <;> first | exact ⟨rfl, rfl⟩ | (cases z <;> simp [AV.sh, AV.isAgg] at h1 h2)
            rw [VV_plain hag.2, hag.1, cond_true]
            exact ⟨cs', rfl, q2⟩
        · cases hlay
      · cases h
    · cases h
  · cases h

end
end Go.Proofs.Ytkmeimhapokdlaa.Ae
