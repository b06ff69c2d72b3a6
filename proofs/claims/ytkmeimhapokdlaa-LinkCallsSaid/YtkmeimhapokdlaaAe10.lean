/- The operations that make or change memory, one by one. Lemmas alone. -/
import Derived.Test.YtkmeimhapokdlaaAe9
set_option linter.unusedVariables false
set_option linter.unusedSimpArgs false
namespace Go.Proofs.Ytkmeimhapokdlaa.Ae
open Go

/-! ### Worlds -/
section worlds
variable {w w' : World} {b o : Nat}

theorem push_old {h : Array Obj} {x : Obj} {i : Nat} (hi : i < h.size) : (h.push x)[i]? = h[i]? := by
  rw [Array.getElem?_push]; simp; omega

theorem cell_push_new {c : Array Value} {t : TypeId} (hw : w'.heap = w.heap.push (.cells c t)) (i : Nat) : w'.cell? ⟨w.heap.size, i, none⟩ = c[i]? := by
  unfold World.cell?; rw [hw]; simp

theorem csize_push {x : Obj} (hw : w'.heap = w.heap.push x) (b : Nat) : csize w b ≤ csize w' b := by
  unfold csize
  rw [hw]
  by_cases hb : b < w.heap.size
  · rw [push_old hb]; exact Nat.le_refl _
  · rw [Array.getElem?_eq_none (by omega : w.heap.size ≤ b)]; exact Nat.zero_le _

theorem csize_new {c : Array Value} {t : TypeId} (hw : w'.heap = w.heap.push (.cells c t)) : csize w' w.heap.size = c.size := by
  unfold csize; rw [hw]; simp

theorem free_new {c : Array Value} {t : TypeId} (hw : w'.heap = w.heap.push (.cells c t)) : free w' w.heap.size :=
  ⟨c, t, 0, 0, by rw [hw]; simp, Nat.le_refl _, fun j _ => by omega⟩

def setO (a : Addr) (v : Value) : Obj → Obj
  | .cells c e fz => .cells (if a.spot.isSome then c else c.setIfInBounds a.off v) e fz
  | o => o

theorem setCell_heap (w : World) (a : Addr) (v : Value) (b' : Nat) : (w.setCell a v).heap[b']? = if a.block = b' then (w.heap[b']?).map (setO a v) else w.heap[b']? := by
  unfold World.setCell
  simp only [Array.getElem?_modify]
  split
  · congr 1
  · rfl

theorem setCells_heap_ne : ∀ (vs : List Value) (o : Nat) (w : World) (b' : Nat), b' ≠ b → (w.setCells b o vs).heap[b']? = w.heap[b']?
  | [], _, _, _, _ => rfl
  | v :: vs, o, w, b', h => by
    rw [World.setCells, setCells_heap_ne vs (o + 1) _ b' h, setCell_heap, if_neg (fun e => h e.symm)]

theorem setCells_size : ∀ (vs : List Value) (o : Nat) (w : World), (w.setCells b o vs).heap.size = w.heap.size
  | [], _, _ => rfl
  | v :: vs, o, w => by rw [World.setCells, setCells_size vs, World.size_setCell]

theorem csize_setCell (w : World) (a : Addr) (v : Value) (b' : Nat) : csize (w.setCell a v) b' = csize w b' := by
  unfold csize
  rw [setCell_heap]
  by_cases h : a.block = b'
  · rw [if_pos h]
    cases w.heap[b']? with
    | none => rfl
    | some x =>
      cases x <;> simp only [Option.map_some, setO]
      split <;> simp
  · rw [if_neg h]

theorem csize_setCells : ∀ (vs : List Value) (o : Nat) (w : World) (b' : Nat), csize (w.setCells b o vs) b' = csize w b'
  | [], _, _, _ => rfl
  | v :: vs, o, w, b' => by rw [World.setCells, csize_setCells vs, csize_setCell]

theorem free_setCell {a : Addr} {v : Value} {b' : Nat} (h : free w b') : free (w.setCell a v) b' := by
  obtain ⟨c, e, lo, hi, h1, h2⟩ := h
  by_cases hab : a.block = b'
  · refine ⟨_, e, lo, hi, by rw [setCell_heap, if_pos hab, h1]; rfl, h2.1, ?_⟩
    intro j hj
    apply h2.2
    split at hj
    · exact hj
    · simpa using hj
  · exact ⟨c, e, lo, hi, by rw [setCell_heap, if_neg hab, h1], h2⟩

theorem free_setCells : ∀ (vs : List Value) (o : Nat) (w : World) (b' : Nat), free w b' → free (w.setCells b o vs) b'
  | [], _, _, _, h => h
  | v :: vs, o, w, b', h => by rw [World.setCells]; exact free_setCells vs _ _ b' (free_setCell h)

theorem cell_lt {i : Nat} (hf : free w b) (h : i < csize w b) : (w.cell? ⟨b, i, none⟩).isSome = true ∧ w.frozen? ⟨b, i, none⟩ = false := by
  obtain ⟨c, e, lo, hi, h1, h2⟩ := hf
  unfold csize at h
  rw [h1] at h
  simp only at h
  refine ⟨by unfold World.cell?; rw [h1]; simp [h], ?_⟩
  unfold World.frozen?
  rw [h1]
  have := h2.2 i h
  simp only
  rw [Bool.and_eq_false_iff]
  by_cases hl : lo ≤ i
  · right; simp; omega
  · left; simp; omega

theorem cellsAt_le {cs : List Value} (h : cellsAt w b o cs) (hn : cs ≠ []) : o + cs.length ≤ csize w b := by
  have hl : 0 < cs.length := List.length_pos_iff.2 hn
  have := h (cs.length - 1) _ (List.getElem?_eq_getElem (by omega))
  unfold World.cell? at this
  split at this
  · rename_i c e f hb
    simp only [Option.isSome_none, Bool.false_eq_true, if_false] at this
    have := (Array.getElem?_eq_some_iff.1 this).1
    unfold csize; rw [hb]; simp only; omega
  · cases this

/-- Cells that are written. -/
theorem cellsAt_setCells_in {vs : List Value} {x : Nat} (hf : free w b) (h : x + vs.length ≤ csize w b) : cellsAt (w.setCells b x vs) b x vs := by
  intro j v hj
  have hjl := (List.getElem?_eq_some_iff.1 hj).1
  rw [World.cell?_setCells_in b vs x w (fun i hi => (cell_lt hf (by omega)).1) j hjl]
  rw [List.getElem?_eq_getElem hjl] at hj
  exact hj

/-- Cells beside them. -/
theorem cellsAt_setCells_out {vs cs : List Value} {x : Nat} (hd : x + vs.length ≤ o ∨ o + cs.length ≤ x) (h : cellsAt w b o cs) : cellsAt (w.setCells b x vs) b o cs := by
  intro j v hj
  have hjl := (List.getElem?_eq_some_iff.1 hj).1
  rw [World.cell?_setCells_out b vs x w _ (fun _ _ => ?_)]
  · exact h j v hj
  · show o + j < x ∨ x + vs.length ≤ o + j
    omega

end worlds

section
variable {F : FS} {L : LM} {w w' : World} {P : Program} {hp : Hp} {B0 : FS} {key : Nat}

def updL (L : LM) (key : Nat) (l : Loc) : LM := fun id => if id = key then some l else L id

theorem updL_old {l l' : Loc} {id : Nat} (hk : L key = none) (h : L id = some l') : updL L key l id = some l' := by
  unfold updL; split
  · rename_i e; subst e; rw [hk] at h; cases h
  · exact h

theorem updL_new {l : Loc} : updL L key l key = some l := by simp [updL]

theorem lk_kill_mem {ids : List Nat} {r : Eff} {id : Nat} (h : id ∈ ids) : lk (kill ids ++ r) id = some none := by
  induction ids with
  | nil => cases h
  | cons i ids ih =>
    simp only [kill, List.map_cons, List.cons_append, lk]
    cases hb : Nat.beq i id
    · simp only [cond_false]
      cases h with
      | head => simp at hb
      | tail _ h => exact ih h
    · rfl

theorem lk_kill_not {ids : List Nat} {r : Eff} {id : Nat} (h : id ∉ ids) : lk (kill ids ++ r) id = lk r id := by
  induction ids with
  | nil => rfl
  | cons i ids ih =>
    simp only [kill, List.map_cons, List.cons_append, lk]
    have : Nat.beq i id = false := by
      cases hb : Nat.beq i id
      · rfl
      · exact absurd (by simp [Nat.eq_of_beq_eq_true hb]) h
    rw [this, cond_false]
    exact ih (fun hm => h (by simp [hm]))

theorem lk_one {x : Option Bk} {id : Nat} : lk [(key, x)] id = if id = key then some x else none := by
  simp only [lk]
  cases hb : Nat.beq key id
  · have : id ≠ key := fun e => by subst e; simp at hb
    simp [this]
  · have := Nat.eq_of_beq_eq_true hb
    simp [this]

theorem rowF_lt (hh : HR F L hp w B0) {ids : List Nat} (hids : ∀ i ∈ ids, hp i ≠ none) {b : Nat} (h : rowF L ids b) : b < w.heap.size := by
  obtain ⟨i, hi, l, o, h1, h2⟩ := h
  cases hb : hp i with
  | none => exact absurd hb (hids i hi)
  | some bk =>
    obtain ⟨l', e1, _, e3⟩ := hh.blk i bk hb
    rw [h1] at e1; cases e1
    exact (e3 b o h2).2.1

/-- A new block; rows that went into it are read-only from now on. -/
theorem Post.make (hh : HR F L hp w B0) (hB : ∀ b, w.heap.size ≤ b → B0 b) (hf : Fresh L key) {ids : List Nat} (hids : ∀ i ∈ ids, hp i ≠ none) {x : Obj} (hw : w'.heap = w.heap.push x) (he : Env w w') {bk : Bk} {l : Loc} (hl : l.at_ = some (w.heap.size, 0))
    (hb : BR (fun b => F b ∨ rowF L ids b) (updL L key l) w' l bk) {v : AV} {v' : Value} (hv : VV (fun b => F b ∨ rowF L ids b) (updL L key l) w' v v') :
    Post F L w B0 hp key v (kill ids ++ [(key, some bk)]) (fun b => F b ∨ rowF L ids b) (updL L key l) w' v' where
  val := hv
  fle := fun _ h => .inl h
  lle := fun id l' h => updL_old (hf key (Nat.le_refl _) (by omega)) h
  lnew := fun id l' h => by
    unfold updL at h
    split at h
    · rename_i e; exact .inr ⟨by omega, by omega⟩
    · exact .inl h
  sz := by rw [hw]; simp
  csz := csize_push hw
  fb := fun b h => by
    have : b < w.heap.size := h.elim (hh.fb b) (rowF_lt hh hids)
    rw [hw]; simp; omega
  fnew := fun b h => h.imp (fun h => h) fun ⟨i, hi, l, o, h1, h2⟩ => .inr ⟨i, l, o, lk_kill_mem hi, h1, h2⟩
  frame := fun b hb' _ => by rw [hw, push_old hb']
  hr := fun id bk' h => by
    by_cases hm : id ∈ ids
    · rw [lk_kill_mem hm] at h; cases h
    · rw [lk_kill_not hm, lk_one] at h
      split at h
      · rename_i e
        subst e
        cases h
        refine ⟨l, updL_new, hb, fun b o hbo => ?_⟩
        rw [hl] at hbo; cases hbo
        refine ⟨hB _ (Nat.le_refl _), by rw [hw]; simp, ?_, .inl (Nat.le_refl _)⟩
        intro hF
        have : w.heap.size < w.heap.size := hF.elim (hh.fb _) (rowF_lt hh hids)
        omega
      · cases h
  inj := fun id id' bk1 bk2 l1 l2 b o o' hne h1 h2 => by
    by_cases hm : id ∈ ids
    · rw [lk_kill_mem hm] at h1; cases h1
    · by_cases hm' : id' ∈ ids
      · rw [lk_kill_mem hm'] at h2; cases h2
      · rw [lk_kill_not hm, lk_one] at h1
        rw [lk_kill_not hm', lk_one] at h2
        split at h1
        · split at h2
          · omega
          · cases h2
        · cases h1
  dom := fun id h => by
    by_cases hm : id ∈ ids
    · exact .inl (hids id hm)
    · rw [lk_kill_not hm, lk_one] at h
      split at h
      · exact .inr ⟨by omega, by omega⟩
      · exact absurd rfl h
  env := he

theorem WL_push {x : Obj} (hh : HR F L hp w B0) (hw : w'.heap = w.heap.push x) : WL F w w' :=
  ⟨by rw [hw]; simp, csize_push hw, fun b hb => by rw [hw, push_old (hh.fb b hb)]⟩

theorem cellsAt_new {cs : List Value} {c : Array Value} {t : TypeId} (hw : w'.heap = w.heap.push (.cells c t)) (h : ∀ (j : Nat) (v : Value), cs[j]? = some v → c[j]? = some v) : cellsAt w' w.heap.size 0 cs := by
  intro j v hj
  rw [Nat.zero_add, cell_push_new hw]
  exact h j v hj

/-- A new box. -/
theorem box_post (hh : HR F L hp w B0) (hB : ∀ b, w.heap.size ≤ b → B0 b) (hf : Fresh L key) {t : TypeId} {v : AV} {cs : List Value} (hv : VR F L w v cs) (hw : w'.heap = w.heap.push (.cells cs.toArray t)) (he : Env w w') :
    Post F L w B0 hp key (.ptr key 0 []) [(key, some (.box v))] F (updL L key ⟨some (w.heap.size, 0), v.sh, 1⟩) w' (.pointer (some ⟨w.heap.size, 0, none⟩)) := by
  have hk := hf key (Nat.le_refl _) (by omega)
  have wl := WL_push hh hw
  have hL : ∀ id l', L id = some l' → updL L key ⟨some (w.heap.size, 0), v.sh, 1⟩ id = some l' := fun id l' h => updL_old hk h
  have h0 : (fun b => F b ∨ rowF L [] b) = F := by funext b; simp [rowF]
  have := Post.make (F := F) (L := L) (hp := hp) (B0 := B0) (key := key) hh hB hf (ids := []) (by simp) hw he (bk := .box v) (l := ⟨some (w.heap.size, 0), v.sh, 1⟩) rfl (v := .ptr key 0 []) (v' := .pointer (some ⟨w.heap.size, 0, none⟩)) ?_ ?_
  · rw [h0] at this; exact this
  · rw [h0]
    refine ⟨rfl, rfl, w.heap.size, 0, cs, rfl, free_new hw, VR_mono (fun _ h => h) hL wl v cs hv, cellsAt_new hw (fun j v hj => by simpa using hj)⟩
  · rw [h0]
    refine VV_mk1 rfl rfl ?_
    simp only [VR]
    exact ⟨_, w.heap.size, 0, 0, v.sh, updL_new, rfl, Nat.zero_lt_one, at_nil _, by simp⟩

theorem box_sound (hh : HR F L hp w B0) (hB : ∀ b, w.heap.size ≤ b → B0 b) (hf : Fresh L key) {t : TypeId} {v : AV} {xv : Value} (hp' : v.plain = true) (hv : VV F L w v xv) :
    ∃ w' u L', (Instr.box t xv).run P w = .ok u w' ∧ Post F L w B0 hp key (.ptr key 0 []) [(key, some (.box v))] F L' w' u := by
  have hc := (VV_cells hp' hv).1
  have := box_post (hp := hp) (w' := w.alloc (.cells xv.cells t)) hh hB hf (t := t) hc rfl ⟨rfl, rfl, rfl⟩
  exact ⟨w.alloc (.cells xv.cells t), .pointer (some ⟨w.heap.size, 0, none⟩), _, by simp [Instr.box, newVar, newRow], this⟩

/-! ### Zero values -/
theorem vEq_eq {a b : Value} (h : vEq a b = true) : a = b := by
  unfold vEq at h
  split at h
  · simp only [Bool.and_eq_true, decide_eq_true_eq, beq_iff_eq] at h; rw [h.1, h.2]
  · rw [beq_iff_eq] at h; rw [h]
  · rw [of_decide_eq_true h]
  · rfl
  · rfl
  · rfl
  · rfl
  · simp only [Bool.and_eq_true, beq_iff_eq] at h; rw [h.1, h.2]
  · cases h

theorem vsEq_eq : ∀ {a b : List Value}, vsEq a b = true → a = b
  | [], [], _ => rfl
  | x :: a, y :: b, h => by
    simp only [vsEq, Bool.and_eq_true] at h
    rw [vEq_eq h.1, vsEq_eq h.2]
  | [], _ :: _, h => by simp [vsEq] at h
  | _ :: _, [], h => by simp [vsEq] at h

theorem flat_VR : ∀ (v : AV) (cs : List Value), v.flat = some cs → VR F L w v cs
  | .int k n, cs, h => by
    simp only [AV.flat] at h
    split at h
    · rename_i hw; cases h; simp only [VR]; exact ⟨trivial, hw⟩
    · cases h
  | .bool _, cs, h | .str _, cs, h | .nilp, cs, h | .nils, cs, h | .nilm, cs, h | .nilf, cs, h | .nili, cs, h | .nil, cs, h => by simp only [AV.flat, Option.some.injEq] at h; subst h; simp only [VR]
  | .cons a b, cs, h => by
    simp only [AV.flat] at h
    split at h
    · rename_i x y hx hy
      cases h
      simp only [VR]
      exact ⟨x, y, rfl, flat_VR a x hx, flat_VR b y hy⟩
    · cases h
  | .arr n (.int k) xs, cs, h => by
    simp only [AV.flat] at h
    split at h
    · rename_i hc
      cases h
      simp only [VR, RK]
      refine ⟨⟨hc.1, rfl⟩, by simp [hc.1], fun i x v h1 h2 => ?_⟩
      rw [List.getElem?_map, h1] at h2
      cases h2
      exact ⟨rfl, by have := List.all_eq_true.1 hc.2 x (List.mem_of_getElem? h1); exact this⟩
    · cases h
  | .arr n .bool xs, cs, h => by
    simp only [AV.flat] at h
    split at h
    · rename_i hc
      cases h
      simp only [VR, RK]
      refine ⟨⟨hc, rfl⟩, by simp [hc], fun i x v h1 h2 => ?_⟩
      rw [List.getElem?_map, h1] at h2
      cases h2
      rfl
    · cases h
  | .undef, cs, h | .dead, cs, h | .ptr _ _ _, cs, h | .rptr _ _ _ _, cs, h | .rs _ _ _ _, cs, h | .hs _ _ _, cs, h | .hw _, cs, h | .mapv _, cs, h | .fn _ _ _, cs, h | .iface _ _, cs, h | .tup _, cs, h => by simp [AV.flat] at h
  | .arr n .str xs, cs, h | .arr n (.arr _ _) xs, cs, h | .arr n (.sl _) xs, cs, h | .arr n .nil xs, cs, h | .arr n (.cons _ _) xs, cs, h => by simp [AV.flat] at h

theorem zero?_sound {t : TypeId} {v : AV} (h : zero? P t = some v) : ∃ z, (zeroValue t).run P w = .ok z w ∧ VV F L w v z ∧ VR F L w v z.cells.toList ∧ v.plain = true := by
  unfold zero? at h
  split at h
  · rename_i v' hz
    split at h
    · rename_i cs i hfl hi
      split at h
      · rename_i z hzero
        split at h
        · rename_i hc
          cases h
          have e := vsEq_eq hc.1
          have hv := flat_VR (F := F) (L := L) (w := w) v cs hfl
          have hpl : v.plain = true := by cases v <;> first | rfl | (simp [AV.flat] at hfl)
          refine ⟨z, by simp [zeroValue, typeInfo, hi, hzero], ?_, by rw [← e]; exact hv, hpl⟩
          rw [VV_plain hpl]
          cases hag : v.isAgg
          · rw [hag] at hc
            have hcell : z.cells = #[z] := by
              cases z <;> first | rfl | (simp [isAggV] at hc)
            rw [hcell] at e
            simp only [cond_false]
            rw [e] at hv; exact hv
          · rw [hag] at hc
            simp only [cond_true]
            cases z <;> simp [isAggV] at hc
            exact ⟨cs, by simp only [Value.cells] at e; rw [e], hv⟩
        · cases h
      · cases h
    · cases h
  · cases h

theorem alloc_sound (hh : HR F L hp w B0) (hB : ∀ b, w.heap.size ≤ b → B0 b) (hf : Fresh L key) {t : TypeId} {v : AV} (h : zero? P t = some v) :
    ∃ w' u L', (Instr.alloc t true (.tuple #[])).run P w = .ok u w' ∧ Post F L w B0 hp key (.ptr key 0 []) [(key, some (.box v))] F L' w' u := by
  obtain ⟨z, h1, h2, h3, h4⟩ := zero?_sound (F := F) (L := L) (w := w) h
  obtain ⟨w', u, L', h5, h6⟩ := box_sound (P := P) (hp := hp) (key := key) hh hB hf (t := t) h4 h2
  refine ⟨w', u, L', ?_, h6⟩
  simp only [Instr.box, Sem.run_bind, Sem.run_pure] at h5
  simp only [Instr.alloc, Sem.run_bind, h1, Result.andThen_ok, Sem.run_pure]
  exact h5

end
end Go.Proofs.Ytkmeimhapokdlaa.Ae
