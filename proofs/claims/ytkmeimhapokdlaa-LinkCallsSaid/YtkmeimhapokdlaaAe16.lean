/- Rows that are made: composite slices, make. Lemmas alone. -/
import Derived.Test.YtkmeimhapokdlaaAe15
import Derived.Laws.MakeOwn
set_option linter.unusedVariables false
set_option linter.unusedSimpArgs false
namespace Go.Proofs.Ytkmeimhapokdlaa.Ae
open Go

section
variable {F F' : FS} {L : LM} {w w' : World} {P : Program} {hp : Hp} {B0 : FS} {key : Nat}

/-- Reads as zero, whatever it reads as. -/
def Zr (v : AV) : Prop := ∀ K x, dec (fun _ => none) K v = some x → x = K.z

theorem Zr_cons {a b : AV} (ha : Zr a) (hb : Zr b) : Zr (.cons a b) := fun K x h => by
  cases K <;> simp only [dec, reduceCtorEq] at h
  rename_i A B
  split at h
  · rename_i u hu
    split at h
    · rename_i v hv
      cases h
      simp only [Kd.z]
      rw [ha A u hu, hb B v hv]
    · cases h
  · cases h

theorem Zr_nil : Zr .nil := fun K x h => by
  cases K <;> simp only [dec, reduceCtorEq] at h
  rfl

theorem Zr_rep {v : AV} (hv : Zr v) : ∀ n, Zr (repV v n)
  | 0 => Zr_nil
  | n + 1 => Zr_cons hv (Zr_rep hv n)

theorem zav_Zr : ∀ (d : Nat) (t : TypeId) (v : AV), zav P d t = some v → Zr v
  | 0, _, _, h => by simp [zav] at h
  | d + 1, t, v, h => by
    unfold zav at h
    split at h
    · cases h; intro K x h; cases K <;> simp only [dec, reduceCtorEq] at h; split at h <;> cases h; rfl
    · cases h; intro K x h; cases K <;> simp only [dec, reduceCtorEq] at h; cases h; rfl
    · cases h; intro K x h; cases K <;> simp only [dec, reduceCtorEq] at h; cases h; rfl
    · cases h; intro K x h; cases K <;> simp only [dec, reduceCtorEq] at h
    · cases h; intro K x h; cases K <;> simp only [dec, reduceCtorEq] at h; cases h; rfl
    · cases h; intro K x h; cases K <;> simp only [dec, reduceCtorEq] at h
    · cases h; intro K x h; cases K <;> simp only [dec, reduceCtorEq] at h
    · cases h; intro K x h; cases K <;> simp only [dec, reduceCtorEq] at h
    · rename_i n e hu
      split at h
      · rename_i K hK
        cases h
        intro K' x h
        cases K' <;> simp only [dec, reduceCtorEq] at h
        split at h
        · rename_i e
          obtain ⟨rfl, h2⟩ := castL_some h
          rw [h2, e]; rfl
        · cases h
      · split at h
        · rename_i u hu'
          cases h
          exact Zr_rep (zav_Zr d e u hu') n
        · cases h
    · rename_i fs hu
      have : ∀ (l : List Field) (v : AV), l.foldr (fun f r => match zav P d f.type, r with
        | some a, some b => some (AV.cons a b)
        | _, _ => none) (some .nil) = some v → Zr v := by
        intro l
        induction l with
        | nil => intro v h; cases h; exact Zr_nil
        | cons f l ih =>
          intro v h
          rw [List.foldr_cons] at h
          split at h
          · rename_i a b ha hb
            cases h
            exact Zr_cons (zav_Zr d f.type a ha) (ih b hb)
          · cases h
      exact this _ v h
    · cases h

theorem zeroOk_z {K : Kd} {t : TypeId} (hf : ∀ b, F b → b < w.heap.size) (h : buildSlice'.zeroOkS P K t = true) : ∃ i z, P.info? t = some i ∧ i.zero = some z ∧ z.cells.size = K.size ∧ RK F w K K.z z.cells.toList := by
  unfold buildSlice'.zeroOkS at h
  split at h
  · rename_i i hi
    split at h
    · rename_i z hz
      split at h
      · rename_i v hv
        split at h
        · rename_i cs hcs
          simp only [Bool.and_eq_true, decide_eq_true_eq] at h
          obtain ⟨⟨h1, h2⟩, h3⟩ := h
          have e := vsEq_eq h1
          split at h3
          · rename_i x hx
            have hr := dec_none_RK (L := fun _ => none) hf hx (flat_VR v cs hcs)
            rw [zav_Zr _ _ _ hv K x hx, e] at hr
            refine ⟨i, z, hi, hz, ?_, hr⟩
            simpa using RK_size K _ _ hr
          · cases h3
        · cases h
      · cases h
    · cases h
  · cases h

/-- A row as a list of cells. -/
def LR (F : FS) (w : World) (K : Kd) (xs : List K.T) (cl : List Value) : Prop := ∀ i x, xs[i]? = some x → ∃ c, (∀ j v, c[j]? = some v → cl[i * K.size + j]? = some v) ∧ RK F w K x c

theorem LR_mono {K : Kd} (hF : ∀ b, F b → F' b) (hw : WL F w w') {xs : List K.T} {cl : List Value} (h : LR F w K xs cl) : LR F' w' K xs cl := fun i x hx => by
  obtain ⟨c, h1, h2⟩ := h i x hx
  exact ⟨c, h1, RK_mono hF hw K x c h2⟩

theorem LR_new {K : Kd} {xs : List K.T} {cl : List Value} {c : Array Value} {t : TypeId} (hw : w'.heap = w.heap.push (.cells c t)) (hc : c.toList = cl) (h : LR F w' K xs cl) : Rows F w' K xs w.heap.size 0 := fun i x hx => by
  obtain ⟨c', h1, h2⟩ := h i x hx
  refine ⟨c', fun j v hj => ?_, h2⟩
  rw [cell_push_new hw, ← Array.getElem?_toList, hc, Nat.zero_add]
  exact h1 j v hj

theorem LR_zero {K : Kd} {z : Array Value} (hz : z.size = K.size) (h : RK F w K K.z z.toList) (n m : Nat) (hm : n ≤ m) : LR F w K (List.replicate n K.z) (madeCells z (m * K.size)).toList := fun i x hx => by
  rw [List.getElem?_replicate] at hx
  split at hx
  · rename_i hi
    cases hx
    refine ⟨z.toList, fun j v hj => ?_, h⟩
    obtain ⟨hj1, hj2⟩ := List.getElem?_eq_some_iff.1 hj
    have hj3 : j < K.size := by simp at hj1; omega
    have hlt : i * K.size + j < m * K.size := by
      have := Nat.mul_le_mul_right K.size (show i + 1 ≤ m by omega)
      rw [Nat.add_mul] at this; omega
    have hmod : (i * K.size + j) % z.size = j := by
      rw [hz, Nat.mul_comm, Nat.mul_add_mod, Nat.mod_eq_of_lt hj3]
    rw [Array.getElem?_toList]
    simp only [madeCells, Array.getElem?_map]
    rw [Array.getElem?_range, if_pos hlt]
    simp only [Option.map_some, hmod]
    rw [getElem!_pos z j (by omega), ← hj2]
    simp
  · cases hx

/-- A row with one element put in. -/
theorem LR_set {K : Kd} {xs : List K.T} {cl : List Value} {i : Nat} {y : K.T} {c : List Value} (h : LR F w K xs cl) (hi : i < xs.length) (hlen : xs.length * K.size ≤ cl.length) (hc : RK F w K y c) : LR F w K (xs.set i y) (cl.take (i * K.size) ++ (c ++ cl.drop (i * K.size + c.length))) := fun j x hx => by
  have hcl := RK_size K y c hc
  have hmi := Nat.mul_le_mul_right K.size (show i + 1 ≤ xs.length by omega)
  rw [Nat.add_mul] at hmi
  have htk : (cl.take (i * K.size)).length = i * K.size := by simp; omega
  rw [List.getElem?_set] at hx
  by_cases hij : i = j
  · subst hij
    rw [if_pos rfl, if_pos hi] at hx
    cases hx
    refine ⟨c, fun q v hq => ?_, hc⟩
    have hql := (List.getElem?_eq_some_iff.1 hq).1
    rw [List.getElem?_append_right (by omega), htk, Nat.add_sub_cancel_left, List.getElem?_append_left hql]
    exact hq
  · rw [if_neg hij] at hx
    obtain ⟨c', h1, h2⟩ := h j x hx
    have hc' := RK_size K x c' h2
    refine ⟨c', fun q v hq => ?_, h2⟩
    have hql := (List.getElem?_eq_some_iff.1 hq).1
    have := h1 q v hq
    rcases Nat.lt_or_gt_of_ne hij with hlt | hgt
    · have hmj := Nat.mul_le_mul_right K.size (show i + 1 ≤ j by omega)
      rw [Nat.add_mul] at hmj
      rw [List.getElem?_append_right (by omega), htk, List.getElem?_append_right (by omega), List.getElem?_drop, hcl]
      rw [show i * K.size + K.size + (j * K.size + q - i * K.size - K.size) = j * K.size + q by omega]
      exact this
    · have hmj := Nat.mul_le_mul_right K.size (show j + 1 ≤ i by omega)
      rw [Nat.add_mul] at hmj
      rw [List.getElem?_append_left (by omega), List.getElem?_take, if_pos (by omega)]
      exact this

theorem rowF_sub {l m : List Nat} (h : ∀ i ∈ l, i ∈ m) {b : Nat} (hb : rowF L l b) : rowF L m b := by
  obtain ⟨i, hi, r⟩ := hb
  exact ⟨i, h i hi, r⟩

theorem fill_rows (hh : HR F L hp w B0) {K : Kd} (hK : K.size ≠ 0) {place : Nat → Option (Nat × Nat)} (hpl : ∀ i, place i = some (i * K.size, K.size)) (all : List Nat) : ∀ (l : List (Nat × AV)) (m : List (Nat × Value)) (xs xs' : List K.T) (cl : List Value),
    PV F L w l m → decAll hp K l xs = some xs' → shAll K.sh l = true → (∀ i ∈ rowsAll l, i ∈ all) → LR (fun b => F b ∨ rowF L all b) w K xs cl → xs.length * K.size ≤ cl.length →
    ∃ cl', Instr.fill place cl.toArray m = some cl'.toArray ∧ LR (fun b => F b ∨ rowF L all b) w K xs' cl' ∧ xs'.length = xs.length ∧ cl'.length = cl.length
  | [], [], xs, xs', cl, _, h, _, _, hl, _ => by cases h; exact ⟨cl, rfl, hl, rfl, rfl⟩
  | [], _ :: _, _, _, _, hpv, _, _, _, _, _ => hpv.elim
  | (_, _) :: _, [], _, _, _, hpv, _, _, _, _, _ => hpv.elim
  | (i, a) :: l, (j, u) :: m, xs, xs', cl, hpv, h, hs, hal, hl, hlen => by
    obtain ⟨rfl, hv, hpv⟩ := hpv
    simp only [decAll] at h
    split at h
    case h_2 => cases h
    rename_i x hx
    split at h
    case isFalse => cases h
    rename_i hi
    simp only [shAll, Bool.and_eq_true, decide_eq_true_eq] at hs
    have hpla : a.plain = true := by
      cases K <;> cases a <;> first | rfl | (simp [dec] at hx)
    obtain ⟨hc, _, _⟩ := VV_cells hpla hv
    have hr := dec_RK hh K a x _ hx hc
    have hr' : RK (fun b => F b ∨ rowF L all b) w K x u.cells.toList := RK_mono (fun b hb => hb.imp (fun h => h) (rowF_sub fun q hq => hal q (by simp [rowsAll, hq]))) (WL.refl _ _) _ _ _ hr
    have hsz := RK_size K _ _ hr'
    have hmi := Nat.mul_le_mul_right K.size (show i + 1 ≤ xs.length by omega)
    rw [Nat.add_mul] at hmi
    have hset := LR_set hl hi hlen hr'
    have hsz' : u.cells.size = K.size := by simpa using hsz
    obtain ⟨cl', q1, q2, q3, q4⟩ := fill_rows hh hK hpl all l m (xs.set i x) xs' _ hpv h hs.2 (fun q hq => hal q (by simp [rowsAll, hq])) hset (by simp; omega)
    refine ⟨cl', ?_, q2, by simpa using q3, by rw [q4]; simp; omega⟩
    unfold Instr.fill
    rw [hpl i]
    simp only
    rw [if_neg (by simp; omega), foldl_zip _ _ _ (by simp; omega)]
    simpa using q1

theorem nodup_ok : ∀ {l : List Nat}, nodup l = true → l.Nodup
  | [], _ => List.nodup_nil
  | a :: l, h => by
    simp only [nodup, Bool.and_eq_true, Bool.not_eq_true', List.contains_eq_mem, decide_eq_false_iff_not] at h
    exact List.nodup_cons.2 ⟨h.1, nodup_ok h.2⟩

theorem rowsAll_live {K : Kd} : ∀ (l : List (Nat × AV)) (xs xs' : List K.T), decAll hp K l xs = some xs' → ∀ i ∈ rowsAll l, hp i ≠ none
  | [], _, _, _, i, hi => by simp [rowsAll] at hi
  | (j, a) :: l, xs, xs', h, i, hi => by
    simp only [decAll] at h
    split at h
    case h_2 => cases h
    rename_i x hx
    split at h
    case isFalse => cases h
    simp only [rowsAll, List.mem_append] at hi
    rcases hi with hi | hi
    · exact dec_rows_live K a x hx i hi
    · exact rowsAll_live l _ _ h i hi

/-- A chain of plain values in a row of cells. -/
theorem fill_chain {place : Nat → Option (Nat × Nat)} (hpl : ∀ i, place i = some (i * 1, 1)) : ∀ (l : List (Nat × AV)) (m : List (Nat × Value)) (n : Nat) (c : AV) (cl : List Value),
    PV F L w l m → buildSlice'.chainOf n l = some c → cl.length = n + l.length →
    ∃ r, Instr.fill place cl.toArray m = some (cl.take n ++ r).toArray ∧ r.length = l.length ∧ chainLen c = l.length ∧ ∀ i u, c.getF i = some u → ∃ x, r[i]? = some x ∧ u.sh = .leaf ∧ VR F L w u [x]
  | [], [], n, c, cl, _, h, hl => by
    cases h
    refine ⟨[], ?_, rfl, rfl, fun i u hu => by simp [AV.getF] at hu⟩
    simp only [Instr.fill, List.append_nil]
    rw [List.take_of_length_le (by simp at hl; omega)]
  | [], _ :: _, _, _, _, hpv, _, _ => hpv.elim
  | (_, _) :: _, [], _, _, _, hpv, _, _ => hpv.elim
  | (i, a) :: l, (j, u) :: m, n, c, cl, hpv, h, hl => by
    obtain ⟨rfl, hv, hpv⟩ := hpv
    simp only [buildSlice'.chainOf] at h
    split at h
    case isFalse => cases h
    rename_i hc
    obtain ⟨rfl, hc1, hc2⟩ := hc
    split at h
    case h_2 => cases h
    rename_i c' hc'
    cases h
    obtain ⟨hvr, _, _⟩ := VV_cells hc2 hv
    have hsz := VR_size a _ hvr
    rw [← AV.sh_size, hc1] at hsz
    obtain ⟨y, hy⟩ := List.length_eq_one_iff.1 (show u.cells.toList.length = 1 from hsz)
    have hys : u.cells.size = 1 := by simpa using congrArg List.length hy
    simp only [List.length_cons] at hl
    obtain ⟨r, q1, q2, q3, q4⟩ := fill_chain hpl l m (n + 1) c' (cl.take n ++ (u.cells.toList ++ cl.drop (n + u.cells.size))) hpv hc' (by simp; omega)
    refine ⟨y :: r, ?_, by simp [q2], by simp [chainLen, q3], fun i u' hu => ?_⟩
    · unfold Instr.fill
      rw [hpl n]
      simp only
      rw [if_neg (by simp; omega), foldl_zip _ _ _ (by simp; omega)]
      simp only [Nat.mul_one]
      rw [q1, hy]
      congr 2
      rw [List.take_append, List.take_take]
      simp
      rw [show n + 1 - min n cl.length = 1 by omega]; simp
    · cases i with
      | zero =>
        simp only [AV.getF, Option.some.injEq] at hu
        subst hu
        exact ⟨y, rfl, hc1, by rw [hy] at hvr; exact hvr⟩
      | succ i =>
        simp only [AV.getF] at hu
        simpa using q4 i u' hu

theorem buildSlice'_sound (hh : HR F L hp w B0) (hB : ∀ b, w.heap.size ≤ b → B0 b) (hf : Fresh L key) {t : TypeId} {n : Nat} {ps : List (Nat × AV)} {m : Array (Nat × Value)} {v : AV} {Δ : Eff} (hpv : PV F L w ps m.toList) (h : buildSlice' P hp key t n ps = some (true, v, Δ)) :
    ∃ w' u F' L', (Instr.buildSlice t n m).run P w = .ok u w' ∧ Post F L w B0 hp key v Δ F' L' w' u := by
  unfold buildSlice' at h
  split at h
  case h_2 => cases h
  rename_i e hu
  split at h
  · cases h
  rename_i hlim
  split at h
  · rename_i K hK
    split at h
    case isFalse => cases h
    rename_i hc
    obtain ⟨c1, c2, c3, c4, c5⟩ := hc
    split at h
    case h_2 => cases h
    rename_i xs hxs
    cases h
    obtain ⟨i, z, hi, hz, hzs, hzr⟩ := zeroOk_z (F := F) (w := w) hh.fb c5
    have his : i.size = K.size := by simp [c1, Program.cellsOf, hi]
    have hlive := rowsAll_live ps _ _ hxs
    have hz0 : LR (fun b => F b ∨ rowF L (rowsAll ps) b) w K (List.replicate n K.z) (madeCells z.cells (n * K.size)).toList := LR_mono (fun _ h => .inl h) (WL.refl _ _) (LR_zero hzs hzr n n (Nat.le_refl _))
    obtain ⟨cl, q1, q2, q3, q4⟩ := fill_rows hh c2 (place := fun i => some (i * K.size, K.size)) (fun _ => rfl) (rowsAll ps) ps m.toList _ xs _ hpv hxs c4 (fun _ h => h) hz0 (by simp [size_madeCells])
    rw [List.length_replicate] at q3
    have q4' : cl.length = n * K.size := by rw [q4]; simp [size_madeCells]
    have hrun : (Instr.buildSlice t n m).run P w = .ok (.slice (some ⟨w.heap.size, 0, none⟩) n n) (w.alloc (.cells cl.toArray e)) := by
      have hlim' : ¬ (16777216 < n * K.size) := by rw [c1]; simpa using hlim
      have q1' : Instr.fill (fun i => some (i * K.size, K.size)) (madeCells z.cells (n * K.size)) m.toList = some cl.toArray := by simpa using q1
      by_cases hn : n * K.size = 0
      · have hn' : madeCells z.cells (n * K.size) = #[] := by rw [hn]; simp [madeCells]
        rw [hn'] at q1'
        simp [Instr.buildSlice, run_underlying hu, run_sizeOf w hi, Program.cellsOf, hi, his, hn, newRow, q1', Array.range_zero']
      · unfold madeCells at q1'
        simp [Instr.buildSlice, run_underlying hu, run_sizeOf w hi, Program.cellsOf, hi, his, hn, hlim', zeroValue, typeInfo, hz, newRow, q1']
    have hw' : (w.alloc (.cells cl.toArray e)).heap = w.heap.push (.cells cl.toArray e) := rfl
    refine ⟨_, _, (fun b => F b ∨ rowF L (rowsAll ps) b), updL L key ⟨some (w.heap.size, 0), K.sh, n⟩, hrun, ?_⟩
    refine Post.make hh hB hf hlive hw' ⟨rfl, rfl, rfl⟩ (l := ⟨some (w.heap.size, 0), K.sh, n⟩) rfl ?_ ?_
    · refine ⟨q3.symm, rfl, fun h => (by cases h), fun b1 o1 h => ?_⟩
      cases h
      have wl : WL (fun b => F b ∨ rowF L (rowsAll ps) b) w (w.alloc (.cells cl.toArray e)) := by
        refine ⟨by rw [hw']; simp, csize_push hw', fun b hb => by rw [hw', push_old (hb.elim (hh.fb b) (rowF_lt hh hlive))]⟩
      exact ⟨free_new hw', LR_new hw' (by simp) (LR_mono (fun _ h => h) wl q2)⟩
    · refine VV_mk1 rfl rfl ?_
      simp only [VR]
      refine ⟨⟨some (w.heap.size, 0), K.sh, n⟩, _, n, updL_new, rfl, Nat.le_refl _, ?_, .inr ⟨w.heap.size, 0, rfl, rfl, ?_⟩⟩
      · have : n * 1 ≤ n * P.cellsOf e := Nat.mul_le_mul_left _ (by omega)
        omega
      · rw [csize_new hw', Kd.sh_size]; simp [q4']
  · split at h
    case isFalse => cases h
    rename_i hc
    obtain ⟨c1, c2, c3⟩ := hc
    split at h
    case h_2 => cases h
    rename_i c hch
    cases h
    obtain ⟨i, hi⟩ := info_of_cells (P := P) (t := e) (by omega)
    simp only [zeroValueOf, hi] at c3
    obtain ⟨z, hz⟩ := Option.isSome_iff_exists.1 c3
    have his : i.size = 1 := by simpa [Program.cellsOf, hi] using c1
    obtain ⟨r, q1, q2, q3, q4⟩ := fill_chain (place := fun i => some (i * 1, 1)) (fun _ => rfl) ps m.toList 0 c (madeCells z.cells (n * 1)).toList hpv hch (by simp [size_madeCells, c2])
    have hrun : (Instr.buildSlice t n m).run P w = .ok (.slice (some ⟨w.heap.size, 0, none⟩) n n) (w.alloc (.cells r.toArray e)) := by
      have hlim' : ¬ (16777216 < n) := by rw [c1] at hlim; simpa using hlim
      have q1' : Instr.fill (fun i => some (i, 1)) (madeCells z.cells n) m.toList = some r.toArray := by simpa using q1
      by_cases hn : n = 0
      · have hn' : madeCells z.cells n = #[] := by rw [hn]; simp [madeCells]
        rw [hn'] at q1'
        simp [Instr.buildSlice, run_underlying hu, run_sizeOf w hi, Program.cellsOf, hi, his, hn, newRow, q1', Array.range_zero']
      · unfold madeCells at q1'
        simp [Instr.buildSlice, run_underlying hu, run_sizeOf w hi, Program.cellsOf, hi, his, hn, hlim', zeroValue, typeInfo, hz, newRow, q1']
    have hw' : (w.alloc (.cells r.toArray e)).heap = w.heap.push (.cells r.toArray e) := rfl
    have h0 : (fun b => F b ∨ rowF L [] b) = F := by funext b; simp [rowF]
    have hLL : ∀ id l', L id = some l' → updL L key ⟨some (w.heap.size, 0), .leaf, n⟩ id = some l' := fun id l' h => updL_old (hf key (Nat.le_refl _) (by omega)) h
    have := Post.make (ids := []) (v := .hw key) (v' := .slice (some ⟨w.heap.size, 0, none⟩) n n) (bk := .rowv c) hh hB hf (by simp) hw' ⟨rfl, rfl, rfl⟩ (l := ⟨some (w.heap.size, 0), .leaf, n⟩) rfl ?_ ?_
    · rw [h0] at this
      exact ⟨_, _, F, updL L key ⟨some (w.heap.size, 0), .leaf, n⟩, hrun, this⟩
    · rw [h0]
      refine ⟨by rw [q3, ← c2], rfl, w.heap.size, 0, r, rfl, free_new hw', cellsAt_new hw' (fun j v hj => by simpa using hj), by rw [q2, q3], fun i u hu => ?_⟩
      obtain ⟨x, k1, k2, k3⟩ := q4 i u hu
      exact ⟨x, k1, k2, VR_mono (fun _ h => h) hLL (WL_push hh hw') u _ k3⟩
    · rw [h0]
      refine VV_mk1 rfl rfl ?_
      simp only [VR]
      refine ⟨⟨some (w.heap.size, 0), .leaf, n⟩, _, n, updL_new, rfl, Nat.le_refl _, ?_, .inr ⟨w.heap.size, 0, rfl, rfl, ?_⟩⟩
      · rw [c1] at hlim; omega
      · rw [csize_new hw']; simp [q2, c2, Sh.size]

theorem makeSlice'_sound (hh : HR F L hp w B0) (hB : ∀ b, w.heap.size ≤ b → B0 b) (hf : Fresh L key) {t : TypeId} {l c : AV} {lv cv : Value} {v : AV} {Δ : Eff} (hl : VV F L w l lv) (hc : VV F L w c cv) (h : makeSlice' P key t l c = some (true, v, Δ)) :
    ∃ w' u L', (Instr.makeSlice t lv cv).run P w = .ok u w' ∧ Post F L w B0 hp key v Δ F L' w' u := by
  unfold makeSlice' at h
  split at h
  case h_2 => cases h
  rename_i e kl n kc m hu
  split at h
  case h_2 => cases h
  rename_i K hK
  split at h
  case isFalse => cases h
  rename_i hcc
  obtain ⟨c1, c2, c5⟩ := hcc
  simp only [Option.some.injEq, Prod.mk.injEq, Bool.and_eq_true, decide_eq_true_eq] at h
  obtain ⟨⟨⟨⟨h1, h2⟩, h3⟩, h4⟩, rfl, rfl⟩ := h
  obtain ⟨rfl, _⟩ := VV_int hl
  obtain ⟨rfl, _⟩ := VV_int hc
  obtain ⟨i, z, hi, hz, hzs, hzr⟩ := zeroOk_z (F := F) (w := w) hh.fb c5
  have his : i.size = K.size := by simp [c1, Program.cellsOf, hi]
  have hib : P.bytesOf e = i.bytes := by simp [Program.bytesOf, hi]
  rw [hib] at h3
  have hr := run_make (P := P) w t e i z hu hi hz kl kc n m h1 h2 (by omega) (by omega)
  refine ⟨_, _, updL L key ⟨some (w.heap.size, 0), K.sh, n.toNat⟩, hr, ?_⟩
  have hw' : (w.alloc (.cells (madeCells z.cells (m.toNat * i.size)) e)).heap = w.heap.push (.cells (madeCells z.cells (m.toNat * i.size)) e) := rfl
  refine Post.fresh (ids := []) hh hB hf (by simp) hw' ⟨rfl, rfl, rfl⟩ (l := ⟨some (w.heap.size, 0), K.sh, n.toNat⟩) rfl ?_ ?_
  · refine ⟨by simp, rfl, fun h => (by cases h), fun b1 o1 h => ?_⟩
    cases h
    refine ⟨free_new hw', LR_new hw' rfl (LR_mono (fun _ h => h) (WL_push hh hw') ?_)⟩
    rw [his]
    exact LR_zero hzs hzr _ _ (by omega)
  · refine VV_mk1 rfl rfl ?_
    simp only [VR]
    refine ⟨⟨some (w.heap.size, 0), K.sh, n.toNat⟩, _, m.toNat, updL_new, rfl, show n.toNat ≤ m.toNat by omega, by omega, .inr ⟨w.heap.size, 0, rfl, rfl, ?_⟩⟩
    rw [csize_new hw', Kd.sh_size, size_madeCells, his]; simp

end
end Go.Proofs.Ytkmeimhapokdlaa.Ae
