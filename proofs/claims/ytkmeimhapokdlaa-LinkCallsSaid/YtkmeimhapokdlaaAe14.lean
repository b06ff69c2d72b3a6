/- append, composite slices, make. Lemmas alone. -/
import Derived.Test.YtkmeimhapokdlaaAe13
set_option linter.unusedVariables false
set_option linter.unusedSimpArgs false
namespace Go.Proofs.Ytkmeimhapokdlaa.Ae
open Go

section
variable {F F' : FS} {L : LM} {w w' : World} {P : Program} {hp : Hp} {B0 : FS} {key : Nat}

/-- A row that has another number from now on, at the same place or at none, what was written being its own block alone. -/
theorem Post.moved (hh : HR F L hp w B0) (hf : Fresh L key) {old : List Nat} (hone : old.length ≤ 1) (hold : ∀ i ∈ old, hp i ≠ none) {l' : Loc} {bk' : Bk} {v : AV} {v' : Value}
    (hat : ∀ b o, l'.at_ = some (b, o) → ∃ i ∈ old, ∃ l o', L i = some l ∧ l.at_ = some (b, o'))
    (he : Env w w') (hsz : w'.heap.size = w.heap.size) (hcs : ∀ b, csize w' b = csize w b) (hfr : ∀ b, (∀ i ∈ old, ∀ l o, L i = some l → l.at_ ≠ some (b, o)) → w'.heap[b]? = w.heap[b]?)
    (hb : BR F (updL L key l') w' l' bk') (hv : VV F (updL L key l') w' v v') :
    Post F L w B0 hp key v (kill old ++ [(key, some bk')]) F (updL L key l') w' v' where
  val := hv
  fle := fun _ h => h
  lle := fun id l h => updL_old (hf key (Nat.le_refl _) (by omega)) h
  lnew := fun id l h => by
    unfold updL at h
    split at h
    · exact .inr ⟨by omega, by omega⟩
    · exact .inl h
  sz := by omega
  csz := fun b => by rw [hcs]; exact Nat.le_refl _
  fb := fun b h => by rw [hsz]; exact hh.fb b h
  fnew := fun b h => .inl h
  frame := fun b hb' hn => hfr b fun i hi l o h1 h2 => hn i l o (by rw [lk_kill_mem hi]; simp) (hold i hi) h1 h2
  hr := fun id bk h => by
    by_cases hm : id ∈ old
    · rw [lk_kill_mem hm] at h; cases h
    · rw [lk_kill_not hm, lk_one] at h
      split at h
      · rename_i e
        subst e
        cases h
        refine ⟨l', updL_new, hb, fun b o hbo => ?_⟩
        obtain ⟨i, hi, l, o', h1, h2⟩ := hat b o hbo
        cases hbi : hp i with
        | none => exact absurd hbi (hold i hi)
        | some bk =>
          obtain ⟨l2, e1, _, e3⟩ := hh.blk i bk hbi
          rw [h1] at e1; cases e1
          obtain ⟨g1, g2, g3⟩ := e3 b o' h2
          exact ⟨g1, by rw [hsz]; exact g2, g3, .inr ⟨i, l, o', by rw [lk_kill_mem hi]; simp, by rw [hbi]; simp, h1, h2⟩⟩
      · cases h
  inj := fun id id' bk1 bk2 l1 l2 b o o' hne h1 h2 => by
    by_cases hm : id ∈ old
    · rw [lk_kill_mem hm] at h1; cases h1
    · by_cases hm' : id' ∈ old
      · rw [lk_kill_mem hm'] at h2; cases h2
      · rw [lk_kill_not hm, lk_one] at h1
        rw [lk_kill_not hm', lk_one] at h2
        split at h1
        · split at h2
          · omega
          · cases h2
        · cases h1
  dom := fun id h => by
    by_cases hm : id ∈ old
    · exact .inl (hold id hm)
    · rw [lk_kill_not hm, lk_one] at h
      split at h
      · exact .inr ⟨by omega, by omega⟩
      · exact absurd rfl h
  env := he

/-- A new row in a new block, some rows gone. -/
theorem Post.fresh (hh : HR F L hp w B0) (hB : ∀ b, w.heap.size ≤ b → B0 b) (hf : Fresh L key) {ids : List Nat} (hids : ∀ i ∈ ids, hp i ≠ none) {c : Array Value} {t : TypeId} (hw : w'.heap = w.heap.push (.cells c t)) (he : Env w w') {bk : Bk} {l : Loc} (hl : l.at_ = some (w.heap.size, 0))
    (hb : BR F (updL L key l) w' l bk) {v : AV} {v' : Value} (hv : VV F (updL L key l) w' v v') :
    Post F L w B0 hp key v (kill ids ++ [(key, some bk)]) F (updL L key l) w' v' where
  val := hv
  fle := fun _ h => h
  lle := fun id l' h => updL_old (hf key (Nat.le_refl _) (by omega)) h
  lnew := fun id l' h => by
    unfold updL at h
    split at h
    · rename_i e; exact .inr ⟨by omega, by omega⟩
    · exact .inl h
  sz := by rw [hw]; simp
  csz := csize_push hw
  fb := fun b h => by
    have := hh.fb b h
    rw [hw]; simp; omega
  fnew := fun b h => .inl h
  frame := fun b hb' _ => by rw [hw, push_old hb']
  hr := fun id bk' h => by
    by_cases hm : id ∈ ids
    · rw [lk_kill_mem hm] at h; cases h
    · rw [lk_kill_not hm, lk_one] at h
      split at h
      · rename_i e
        subst e
        cases h
        refine ⟨l, updL_new, hb, fun b o hbo => ?_⟩
        rw [hl] at hbo; cases hbo
        refine ⟨hB _ (Nat.le_refl _), by rw [hw]; simp, ?_, .inl (Nat.le_refl _)⟩
        intro hF
        have := hh.fb _ hF
        omega
      · cases h
  inj := fun id id' bk1 bk2 l1 l2 b o o' hne h1 h2 => by
    by_cases hm : id ∈ ids
    · rw [lk_kill_mem hm] at h1; cases h1
    · by_cases hm' : id' ∈ ids
      · rw [lk_kill_mem hm'] at h2; cases h2
      · rw [lk_kill_not hm, lk_one] at h1
        rw [lk_kill_not hm', lk_one] at h2
        split at h1
        · split at h2
          · omega
          · cases h2
        · cases h1
  dom := fun id h => by
    by_cases hm : id ∈ ids
    · exact .inl (hids id hm)
    · rw [lk_kill_not hm, lk_one] at h
      split at h
      · exact .inr ⟨by omega, by omega⟩
      · exact absurd rfl h
  env := he

/-- What is known of the first argument of an append: a slice that may be written behind its end, or has no room. -/
structure Dst (F : FS) (L : LM) (w : World) (hp : Hp) (K : Kd) (old : List Nat) (xs : List K.T) (a : Option Addr) (c : Nat) : Prop where
  len : xs.length ≤ c
  c63 : c < 2 ^ 63
  one : old.length ≤ 1
  live : ∀ i ∈ old, hp i ≠ none
  room : c = 0 ∨ ∃ i ∈ old, ∃ l b o o', L i = some l ∧ l.at_ = some (b, o') ∧ a = some ⟨b, o, none⟩ ∧ o + c * K.size ≤ csize w b ∧ free w b ∧ Rows F w K xs b o

theorem dst_sound (hh : HR F L hp w B0) {K : Kd} {s : AV} {sv : Value} {xs : List K.T} {old : List Nat} (hs : VV F L w s sv)
    (h : (s = .nils ∧ xs = [] ∧ old = []) ∨ (∃ K' nn, s = .rs K' [] nn true ∧ xs = [] ∧ old = []) ∨ (∃ id off len ys, s = .hs id off len ∧ hp id = some (.row K ys) ∧ xs = (ys.drop off).take len ∧ old = [id]) ∨ (∃ id, s = .hw id ∧ hp id = some (.row K xs) ∧ old = [id])) :
    ∃ a c, sv = .slice a xs.length c ∧ Dst F L w hp K old xs a c := by
  rcases h with ⟨rfl, rfl, rfl⟩ | ⟨K', nn, rfl, rfl, rfl⟩ | ⟨id, off, len, ys, rfl, hb, rfl, rfl⟩ | ⟨id, rfl, hb, rfl⟩
  · replace hs := VV_one rfl rfl hs
    simp only [VR, List.cons.injEq, and_true] at hs
    exact ⟨none, 0, hs, ⟨by simp, by omega, by simp, by simp, .inl rfl⟩⟩
  · replace hs := VV_one rfl rfl hs
    simp only [VR, List.cons.injEq, and_true] at hs
    obtain ⟨a, c, h1, h2, ⟨h3, _⟩, _, _, h5⟩ := hs
    have := h5 trivial
    exact ⟨a, c, h1, ⟨by simp, by omega, by simp, by simp, .inl (by simpa using this)⟩⟩
  · replace hs := VV_one rfl rfl hs
    simp only [VR, List.cons.injEq, and_true] at hs
    obtain ⟨l, a, c, h1, h2, h3, h4, h5, h6⟩ := hs
    obtain ⟨l', hl', ⟨e1, e2, e3, e4⟩, _⟩ := hh.blk id _ hb
    rw [h1] at hl'; cases hl'
    have hlen : ((ys.drop off).take len).length = len := by simp; omega
    refine ⟨a, c, by rw [hlen]; exact h2, ⟨by rw [hlen]; exact h3, h4, by simp, by simp [hb], ?_⟩⟩
    rcases h6 with h6 | ⟨b, o, h6, h7, h8⟩
    · exact .inl h6
    · right
      refine ⟨id, by simp, l, b, o + off * K.size, o, h1, h6, by rw [h7, e2, Kd.sh_size], ?_, (e4 b o h6).1, Rows_sub (e4 b o h6).2⟩
      rw [e2, Kd.sh_size, Nat.add_mul] at h8; omega
  · replace hs := VV_one rfl rfl hs
    simp only [VR, List.cons.injEq, and_true] at hs
    obtain ⟨l, a, c, h1, h2, h3, h4, h6⟩ := hs
    obtain ⟨l', hl', ⟨e1, e2, e3, e4⟩, _⟩ := hh.blk id _ hb
    rw [h1] at hl'; cases hl'
    refine ⟨a, c, by rw [← e1]; exact h2, ⟨by rw [← e1]; exact h3, h4, by simp, by simp [hb], ?_⟩⟩
    rcases h6 with h6 | ⟨b, o, h6, h7, h8⟩
    · exact .inl h6
    · right
      refine ⟨id, by simp, l, b, o, o, h1, h6, h7, ?_, (e4 b o h6).1, (e4 b o h6).2⟩
      rw [e2, Kd.sh_size] at h8; omega

theorem flat_len {v : AV} {cs : List Value} (h : v.flat = some cs) : cs.length = v.size := VR_size (F := fun _ => False) (L := fun _ => none) (w := default) v cs (flat_VR v cs h)

/-- The zero value of an element is as long as its kind. -/
theorem zeroOk_len {K : Kd} {t : TypeId} (h : buildSlice'.zeroOkS P K t = true) : ∃ i z, P.info? t = some i ∧ i.zero = some z ∧ z.cells.size = K.size ∧ ∃ v x, v.flat = some z.cells.toList ∧ dec (fun _ => none) K v = some x := by
  unfold buildSlice'.zeroOkS at h
  split at h
  · rename_i i hi
    split at h
    · rename_i z hz
      split at h
      · rename_i v hv
        split at h
        · rename_i cs hcs
          simp only [Bool.and_eq_true, decide_eq_true_eq] at h
          obtain ⟨⟨h1, h2⟩, h3⟩ := h
          have e := vsEq_eq h1
          split at h3
          · rename_i x hx
            refine ⟨i, z, hi, hz, ?_, v, x, by rw [hcs, e], hx⟩
            have := flat_len hcs
            rw [e] at this
            rw [← AV.sh_size, h2, Kd.sh_size] at this
            simpa using this
          · cases h3
        · cases h
      · cases h
    · cases h
  · cases h

theorem append_post (hh : HR F L hp w B0) (hB : ∀ b, w.heap.size ≤ b → B0 b) (hf : Fresh L key) {K : Kd} {old : List Nat} {xs ys : List K.T} {a : Option Addr} {c : Nat} (hd : Dst F L w hp K old xs a c) {xv : Value} {news : List Value}
    {t u ty e : TypeId} {d : TypeDesc} {i : TypeInfo} {z : Value} (ht : P.underlying t = some (.slice e)) (hu : P.underlying u = some d) (hdi : ∀ k, d ≠ .int k) (hi : P.info? e = some i) (hz : i.zero = some z) (hzs : z.cells.size = K.size) (his : i.size = K.size) (hb0 : i.bytes ≠ 0)
    (hfit : (xs.length + ys.length) * i.bytes ≤ 140737488355328)
    (hfl : FL F w K ys news) (hlen : (Builtin.lenOf xv).run P w = .ok ys.length w) (hnews : ∀ w' : World, w'.heap = w.heap → (Builtin.firstCells K.size ys.length xv).run P w' = .ok news.toArray w') :
    ∃ w' v' L', (Builtin.append_ #[t, u] ty #[.slice a xs.length c, xv]).run P w = .ok v' w' ∧ Post F L w B0 hp key (.hw key) (kill old ++ [(key, some (.row K (xs ++ ys)))]) F L' w' v' := by
  have hk := hf key (Nat.le_refl _) (by omega)
  have hnl := FL_len hfl
  by_cases hroom : xs.length + ys.length ≤ c
  · rcases hd.room with hc | ⟨j, hj, l, b, o, o', h1, h2, h3, h4, h5, h6⟩
    · -- nothing at all
      have hx0 : xs = [] := List.eq_nil_of_length_eq_zero (by omega)
      have hy0 : ys = [] := List.eq_nil_of_length_eq_zero (by omega)
      subst hx0 hy0 hc
      have hn0 : news = [] := hfl
      subst hn0
      have hr := append_room (P := P) (w := w) (ty := ty) (base := a) (n := 0) (c := 0) (m := 0) (news := []) ht hu hdi hi hlen (by rw [his]; exact hnews w rfl) (by omega) (w' := w) (fun _ _ => rfl) (fun _ => rfl)
      refine ⟨w, _, updL L key ⟨none, K.sh, 0⟩, hr, ?_⟩
      refine Post.moved hh hf hd.one hd.live (l' := ⟨none, K.sh, 0⟩) (fun b o h => by cases h) ⟨rfl, rfl, rfl⟩ rfl (fun _ => rfl) (fun _ _ => rfl) ?_ ?_
      · exact ⟨rfl, rfl, fun _ => rfl, fun b o h => by cases h⟩
      · refine VV_mk1 rfl rfl ?_
        simp only [VR]
        exact ⟨⟨none, K.sh, 0⟩, a, 0, updL_new, rfl, Nat.le_refl _, by omega, .inl rfl⟩
    · -- behind the end
      subst h3
      have hmul : (xs.length + ys.length) * K.size ≤ c * K.size := Nat.mul_le_mul_right _ hroom
      rw [Nat.add_mul] at hmul
      have hst : (storeCells ((⟨b, o, none⟩ : Addr).add (xs.length * i.size)) news).run P w = .ok () (w.setCells b (o + xs.length * K.size) news) := by
        rw [addr_add, his]
        have := run_storeCells_cells (P := P) b (o + xs.length * K.size) news 0 w (fun q hq => by
            have := (cell_lt (i := o + xs.length * K.size + q) h5 (by omega)).1
            simpa using this) (fun q hq => by
            have := (cell_lt (i := o + xs.length * K.size + q) h5 (by omega)).2
            simpa using this) (FL_one hfl)
        simpa using this
      have hr := append_room (P := P) (w := w) (ty := ty) (base := some ⟨b, o, none⟩) (n := xs.length) (c := c) (m := ys.length) (news := news) ht hu hdi hi hlen (by rw [his]; exact hnews w rfl) hroom (w' := w.setCells b (o + xs.length * K.size) news) (fun a' ha => by cases ha; exact hst) (fun h => by cases h)
      have hnF : ¬ F b := by
        cases hbj : hp j with
        | none => exact absurd hbj (hd.live j hj)
        | some bk =>
          obtain ⟨l2, e1, _, e3⟩ := hh.blk j bk hbj
          rw [h1] at e1; cases e1
          exact (e3 b o' h2).2.2
      have wl : WL F w (w.setCells b (o + xs.length * K.size) news) := WL_setCells hnF
      refine ⟨_, _, updL L key ⟨some (b, o), K.sh, xs.length + ys.length⟩, hr, ?_⟩
      refine Post.moved hh hf hd.one hd.live (l' := ⟨some (b, o), K.sh, xs.length + ys.length⟩) (fun b1 o1 h => by cases h; exact ⟨j, hj, l, o', h1, h2⟩) (env_setCells _ _ _) (setCells_size _ _ _) (fun b1 => csize_setCells _ _ _ _) (fun b1 hb1 => setCells_heap_ne _ _ _ _ (fun e => hb1 j hj l o' h1 (e ▸ h2))) ?_ ?_
      · refine ⟨by simp, rfl, fun h => (by cases h), fun b1 o1 h => ?_⟩
        cases h
        refine ⟨free_setCells _ _ _ _ h5, ?_⟩
        obtain ⟨olds, f1, f2⟩ := Rows_FL h6
        have hol := FL_len f1
        refine FL_Rows (FL_app (FL_mono (fun _ h => h) wl f1) (FL_mono (fun _ h => h) wl hfl)) (cellsAt_app.2 ⟨cellsAt_setCells_out (.inr (by omega)) f2, ?_⟩)
        rw [hol]
        exact cellsAt_setCells_in h5 (by omega)
      · refine VV_mk1 rfl rfl ?_
        simp only [VR]
        refine ⟨⟨some (b, o), K.sh, xs.length + ys.length⟩, _, c, updL_new, rfl, hroom, hd.c63, .inr ⟨b, o, rfl, rfl, ?_⟩⟩
        rw [csize_setCells, Kd.sh_size]; exact h4
  · -- a new row
    have hold : ∃ olds, FL F w K xs olds ∧ (Builtin.firstCells i.size xs.length (.slice a xs.length c)).run P w.drew = .ok olds.toArray w.drew := by
      rcases hd.room with hc | ⟨j, hj, l, b, o, o', h1, h2, h3, h4, h5, h6⟩
      · have hx0 : xs = [] := List.eq_nil_of_length_eq_zero (by have := hd.len; omega)
        subst hx0
        refine ⟨[], rfl, ?_⟩
        cases a with
        | none => rfl
        | some a => simp [Builtin.firstCells, loadCells, loadCellsFrom]
      · subst h3
        obtain ⟨olds, f1, f2⟩ := Rows_FL h6
        refine ⟨olds, f1, ?_⟩
        simp only [Builtin.firstCells]
        rw [his, ← FL_len f1]
        exact run_loadCells_at (cellsAt_heap (w := w) (w' := w.drew) rfl f2)
    obtain ⟨olds, f1, f2⟩ := hold
    have hol := FL_len f1
    have hr := append_grow (P := P) (w := w) (ty := ty) (base := a) (n := xs.length) (c := c) (m := ys.length) (olds := olds) (news := news) ht hu hdi hi hz hlen (by rw [his]; exact hnews w.drew rfl) f2 (by omega) hb0 hfit
    have hge := grownCap_ge w (xs.length + ys.length) c e
    have hcm : grownCap w (xs.length + ys.length) c e < 2 ^ 63 := by
      have hle : xs.length + ys.length ≤ 140737488355328 := Nat.le_trans (Nat.le_mul_of_pos_right _ (by omega)) hfit
      have hlt := Nat.mod_lt (w.tape w.drawn (.appendCap (xs.length + ys.length) c e)) (show 0 < 2 ^ 63 - (xs.length + ys.length) by omega)
      simp only [grownCap, Question.cut] at hlt ⊢
      omega
    generalize grownCap w (xs.length + ys.length) c e = nc at hr hge hcm
    have he' : Env w (w.drew.alloc (.cells (olds.toArray ++ news.toArray ++ Builtin.zeroCells z.cells (nc - (xs.length + ys.length))) e)) := ⟨rfl, rfl, rfl⟩
    have hw' : (w.drew.alloc (.cells (olds.toArray ++ news.toArray ++ Builtin.zeroCells z.cells (nc - (xs.length + ys.length))) e)).heap = w.heap.push (.cells (olds.toArray ++ news.toArray ++ Builtin.zeroCells z.cells (nc - (xs.length + ys.length))) e) := rfl
    generalize (w.drew.alloc (.cells (olds.toArray ++ news.toArray ++ Builtin.zeroCells z.cells (nc - (xs.length + ys.length))) e)) = w1 at hr hw' he'
    have wl := WL_push hh hw'
    refine ⟨w1, _, updL L key ⟨some (w.heap.size, 0), K.sh, xs.length + ys.length⟩, hr, ?_⟩
    refine Post.fresh hh hB hf hd.live hw' he' (l := ⟨some (w.heap.size, 0), K.sh, xs.length + ys.length⟩) rfl ?_ ?_
    · refine ⟨by simp, rfl, fun h => (by cases h), fun b1 o1 h => ?_⟩
      cases h
      refine ⟨free_new hw', FL_Rows (FL_app (FL_mono (fun _ h => h) wl f1) (FL_mono (fun _ h => h) wl hfl)) (cellsAt_new hw' fun j v hj => ?_)⟩
      have hj' : j < (olds ++ news).length := (List.getElem?_eq_some_iff.1 hj).1
      rw [Array.getElem?_append_left (by simpa using hj')]
      rw [← Array.getElem?_toList]
      simpa using hj
    · refine VV_mk1 rfl rfl ?_
      simp only [VR]
      refine ⟨⟨some (w.heap.size, 0), K.sh, xs.length + ys.length⟩, _, nc, updL_new, rfl, hge, hcm, .inr ⟨w.heap.size, 0, rfl, rfl, ?_⟩⟩
      rw [csize_new hw', Kd.sh_size]
      simp only [Array.size_append, List.size_toArray, hol, hnl, size_zeroCells, hzs]
      rw [← Nat.add_mul, ← Nat.add_mul, Nat.zero_add]
      exact Nat.mul_le_mul_right _ (by omega)

end
end Go.Proofs.Ytkmeimhapokdlaa.Ae
