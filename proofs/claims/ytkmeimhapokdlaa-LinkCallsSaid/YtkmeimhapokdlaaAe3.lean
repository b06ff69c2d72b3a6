/- What the evaluator's values and blocks say of the program's memory, and how that is kept when memory grows. Lemmas alone. -/
import Derived.Test.YtkmeimhapokdlaaAe2
import Derived.Laws.Sem
set_option linter.unusedVariables false
set_option linter.unusedSimpArgs false
namespace Go.Proofs.Ytkmeimhapokdlaa.Ae
open Go

structure Loc where
  at_ : Option (Nat × Nat)
  sh : Sh
  n : Nat

abbrev LM := Nat → Option Loc
abbrev FS := Nat → Prop

def cellsAt (w : World) (b o : Nat) (cs : List Value) : Prop := ∀ j v, cs[j]? = some v → w.cell? ⟨b, o + j, none⟩ = some v

def csize (w : World) (b : Nat) : Nat := match w.heap[b]? with
  | some (.cells c _ _) => c.size
  | _ => 0

/-- A slice's room. -/
def capOk (a : Option Addr) (c : Nat) : Prop := c < 2 ^ 63 ∧ (a = none → c = 0)

/-- The data of kind K, read from these cells; what slices in it lead to lies in blocks of F. -/
def RK (F : FS) (w : World) : (K : Kd) → K.T → List Value → Prop
  | .int k, n, cs => cs = [.int k n] ∧ (Lit.int k n).wf = true
  | .bool, b, cs => cs = [.bool b]
  | .str, s, cs => cs = [.string s]
  | .arr n e, xs, cs => (xs.length = n ∧ e.sh = .leaf) ∧ cs.length = n ∧ ∀ (i : Nat) x v, xs[i]? = some x → cs[i]? = some v → RK F w e x [v]
  | .sl e, xs, cs => ∃ a c, cs = [.slice a xs.length c] ∧ xs.length ≤ c ∧ capOk a c ∧ (xs = [] ∨ ∃ b o, a = some ⟨b, o, none⟩ ∧ F b ∧
      ∀ (i : Nat) x, xs[i]? = some x → ∃ cs', cellsAt w b (o + i * e.size) cs' ∧ RK F w e x cs')
  | .nil, _, cs => cs = []
  | .cons a b, x, cs => ∃ c1 c2, cs = c1 ++ c2 ∧ RK F w a x.1 c1 ∧ RK F w b x.2 c2

/-- A row of such data. -/
def Rows (F : FS) (w : World) (K : Kd) (xs : List K.T) (b o : Nat) : Prop := ∀ (i : Nat) x, xs[i]? = some x → ∃ cs, cellsAt w b (o + i * K.size) cs ∧ RK F w K x cs

mutual
/-- The cells that a value takes. -/
def VR (F : FS) (L : LM) (w : World) : AV → List Value → Prop
  | .undef, _ => False
  | .dead, cs => ∃ v, cs = [v] ∧ v.oneCell' = true
  | .int k n, cs => cs = [.int k n] ∧ (Lit.int k n).wf = true
  | .bool b, cs => cs = [.bool b]
  | .str s, cs => cs = [.string s]
  | .nilp, cs => cs = [.pointer none]
  | .ptr id i p, cs => ∃ l b o d s, L id = some l ∧ l.at_ = some (b, o) ∧ i < l.n ∧ l.sh.at p = some (d, s) ∧ cs = [.pointer (some ⟨b, o + i * l.sh.size + d, none⟩)]
  | .rptr K xs i p, cs => ∃ b o d s, F b ∧ Rows F w K xs b o ∧ i < xs.length ∧ K.sh.at p = some (d, s) ∧ cs = [.pointer (some ⟨b, o + i * K.sh.size + d, none⟩)]
  | .nils, cs => cs = [.slice none 0 0]
  | .rs K xs nn full, cs => ∃ a c, cs = [.slice a xs.length c] ∧ xs.length ≤ c ∧ capOk a c ∧ (xs = [] ∨ ∃ b o, a = some ⟨b, o, none⟩ ∧ F b ∧ Rows F w K xs b o) ∧ (nn = true → a.isSome = true) ∧ (full = true → c = xs.length)
  | .hs id off len, cs => ∃ l a c, L id = some l ∧ cs = [.slice a len c] ∧ len ≤ c ∧ c < 2 ^ 63 ∧ off + len ≤ l.n ∧ (c = 0 ∨ ∃ b o, l.at_ = some (b, o) ∧ a = some ⟨b, o + off * l.sh.size, none⟩ ∧ o + (off + c) * l.sh.size ≤ csize w b)
  | .hw id, cs => ∃ l a c, L id = some l ∧ cs = [.slice a l.n c] ∧ l.n ≤ c ∧ c < 2 ^ 63 ∧ (c = 0 ∨ ∃ b o, l.at_ = some (b, o) ∧ a = some ⟨b, o, none⟩ ∧ o + c * l.sh.size ≤ csize w b)
  | .nilm, cs => cs = [.map none]
  | .mapv id, cs => ∃ l b o, L id = some l ∧ l.at_ = some (b, o) ∧ cs = [.map (some b)]
  | .nilf, cs => cs = [.nilFunc]
  | .fn f a b, cs => ∃ xs ys : List Value, cs = [.func f xs.toArray ys.toArray] ∧ CV F L w a xs ∧ CV F L w b ys
  | .nili, cs => cs = [.nilIface]
  | .iface t v, cs => ∃ x, cs = [.iface t x] ∧ (bif v.isAgg then ∃ c : List Value, x = .agg c.toArray ∧ VR F L w v c else VR F L w v [x])
  | .nil, cs => cs = []
  | .cons a b, cs => ∃ c1 c2, cs = c1 ++ c2 ∧ VR F L w a c1 ∧ VR F L w b c2
  | .arr n K xs, cs => RK F w (.arr n K) xs cs
  | .tup _, _ => False
/-- A chain of values. -/
def CV (F : FS) (L : LM) (w : World) : AV → List Value → Prop
  | .nil, vs => vs = []
  | .cons a b, vs => ∃ v vs', vs = v :: vs' ∧ ((a = .undef ∧ v = Go.undef) ∨ a = .dead ∨ (bif a.isAgg then ∃ c : List Value, v = .agg c.toArray ∧ VR F L w a c else VR F L w a [v])) ∧ CV F L w b vs'
  | _, _ => False
end

/-- A value of the evaluator's and one of the program's. -/
def VV (F : FS) (L : LM) (w : World) (a : AV) (v : Value) : Prop := match a with
  | .undef => v = Go.undef
  | .dead => True
  | .tup c => ∃ vs : List Value, v = .tuple vs.toArray ∧ CV F L w c vs
  | a => bif a.isAgg then ∃ c : List Value, v = .agg c.toArray ∧ VR F L w a c else VR F L w a [v]

/-- The block is a row of cells, none of them kept from writing. -/
def free (w : World) (b : Nat) : Prop := ∃ c e lo hi, w.heap[b]? = some (.cells c e (lo, hi)) ∧ (lo ≤ hi ∧ ∀ j, j < c.size → ¬ (lo ≤ j ∧ j < hi))

def Kd.agg : Kd → Bool
  | .arr _ _ | .nil | .cons _ _ => true
  | _ => false

/-- A value of a kind. -/
def KV (F : FS) (w : World) (K : Kd) (x : K.T) (v : Value) : Prop :=
  RK F w K x v.cells.toList ∧ (K.agg = true → ∃ c, v = .agg c) ∧ (K.agg = false → v.cells = #[v])

/-- The entries of a map. -/
def MR (F : FS) (w : World) (Kk Kv : Kd) : List (Kk.T × Kv.T) → List MapEntry → Prop
  | [], [] => True
  | x :: es, e :: l => KV F w Kk x.1 e.key ∧ KV F w Kv x.2 e.val ∧ MR F w Kk Kv es l
  | _, _ => False

def BR (F : FS) (L : LM) (w : World) (l : Loc) : Bk → Prop
  | .box v => l.n = 1 ∧ l.sh = v.sh ∧ ∃ b o cs, l.at_ = some (b, o) ∧ free w b ∧ VR F L w v cs ∧ cellsAt w b o cs
  | .row K xs => l.n = xs.length ∧ l.sh = K.sh ∧ (l.at_ = none → xs = []) ∧ ∀ b o, l.at_ = some (b, o) → free w b ∧ Rows F w K xs b o
  | .rowv v => l.n = chainLen v ∧ l.sh = .leaf ∧ ∃ b o cs, l.at_ = some (b, o) ∧ free w b ∧ cellsAt w b o cs ∧ cs.length = chainLen v ∧ ∀ i u, v.getF i = some u → ∃ c, cs[i]? = some c ∧ u.sh = .leaf ∧ VR F L w u [c]
  | .map Kk Kv es => ∃ b ents clock, l.at_ = some (b, 0) ∧ w.heap[b]? = some (.map ents clock) ∧ MR F w Kk Kv es ents.toList

structure HR (F : FS) (L : LM) (hp : Hp) (w : World) (B0 : FS) : Prop where
  blk : ∀ id bk, hp id = some bk → ∃ l, L id = some l ∧ BR F L w l bk ∧ ∀ b o, l.at_ = some (b, o) → B0 b ∧ b < w.heap.size ∧ ¬ F b
  inj : ∀ id id' l l' b o o', id ≠ id' → hp id ≠ none → hp id' ≠ none → L id = some l → L id' = some l' → l.at_ = some (b, o) → l'.at_ ≠ some (b, o')
  fb : ∀ b, F b → b < w.heap.size

/-- Memory that only grew, F's blocks and every block's size kept. -/
structure WL (F : FS) (w w' : World) : Prop where
  sz : w.heap.size ≤ w'.heap.size
  csz : ∀ b, csize w b ≤ csize w' b
  same : ∀ b, F b → w'.heap[b]? = w.heap[b]?

theorem WL.refl (F : FS) (w : World) : WL F w w := ⟨Nat.le_refl _, fun _ => Nat.le_refl _, fun _ _ => rfl⟩

theorem cell_same {w w' : World} {b : Nat} (h : w'.heap[b]? = w.heap[b]?) (o : Nat) : w'.cell? ⟨b, o, none⟩ = w.cell? ⟨b, o, none⟩ := by
  unfold World.cell?; rw [h]

theorem cellsAt_same {w w' : World} {b o : Nat} {cs : List Value} (h : w'.heap[b]? = w.heap[b]?) (hc : cellsAt w b o cs) : cellsAt w' b o cs :=
  fun j v hj => by rw [cell_same h]; exact hc j v hj

theorem free_same {w w' : World} {b : Nat} (h : w'.heap[b]? = w.heap[b]?) (hc : free w b) : free w' b := by
  obtain ⟨c, e, lo, hi, h1, h2⟩ := hc
  exact ⟨c, e, lo, hi, by rw [h, h1], h2⟩

theorem RK_mono {F F' : FS} {w w' : World} (hF : ∀ b, F b → F' b) (hw : WL F w w') : ∀ (K : Kd) (x : K.T) (cs : List Value), RK F w K x cs → RK F' w' K x cs
  | .int _, _, _, h => h
  | .bool, _, _, h => h
  | .str, _, _, h => h
  | .arr n e, xs, cs, h => ⟨h.1, h.2.1, fun i x v h1 h2 => RK_mono hF hw e x [v] (h.2.2 i x v h1 h2)⟩
  | .sl e, xs, cs, ⟨a, c, h1, h2, h3, h4⟩ => ⟨a, c, h1, h2, h3, h4.imp (fun h => h) fun ⟨b, o, e1, e2, e3⟩ => ⟨b, o, e1, hF b e2, fun i x hx => by
      obtain ⟨cs', c1, c2⟩ := e3 i x hx
      exact ⟨cs', cellsAt_same (hw.same b e2) c1, RK_mono hF hw e x cs' c2⟩⟩⟩
  | .nil, _, _, h => h
  | .cons a b, x, cs, ⟨c1, c2, h1, h2, h3⟩ => ⟨c1, c2, h1, RK_mono hF hw a x.1 c1 h2, RK_mono hF hw b x.2 c2 h3⟩

theorem Rows_mono {F F' : FS} {w w' : World} (hF : ∀ b, F b → F' b) (hw : WL F w w') {K : Kd} {xs : List K.T} {b o : Nat} (hb : w'.heap[b]? = w.heap[b]?) (h : Rows F w K xs b o) : Rows F' w' K xs b o := fun i x hx => by
  obtain ⟨cs, h1, h2⟩ := h i x hx
  exact ⟨cs, cellsAt_same hb h1, RK_mono hF hw K x cs h2⟩

mutual
theorem VR_mono {F F' : FS} {L L' : LM} {w w' : World} (hF : ∀ b, F b → F' b) (hL : ∀ id l, L id = some l → L' id = some l) (hw : WL F w w') :
    ∀ (a : AV) (cs : List Value), VR F L w a cs → VR F' L' w' a cs
  | .undef, _, h => by simp only [VR] at h
  | .dead, _, h => by simpa only [VR] using h
  | .int _ _, _, h => by simpa only [VR] using h
  | .bool _, _, h => by simpa only [VR] using h
  | .str _, _, h => by simpa only [VR] using h
  | .nilp, _, h => by simpa only [VR] using h
  | .ptr id i p, _, h => by
    simp only [VR] at h ⊢
    obtain ⟨l, b, o, d, s, h1, h2⟩ := h
    exact ⟨l, b, o, d, s, hL _ _ h1, h2⟩
  | .rptr K xs i p, _, h => by
    simp only [VR] at h ⊢
    obtain ⟨b, o, d, s, h1, h2, h3⟩ := h
    exact ⟨b, o, d, s, hF _ h1, Rows_mono hF hw (hw.same b h1) h2, h3⟩
  | .nils, _, h => by simpa only [VR] using h
  | .rs K xs nn full, _, h => by
    simp only [VR] at h ⊢
    obtain ⟨a, c, h1, h2, h3, h4, h5⟩ := h
    exact ⟨a, c, h1, h2, h3, h4.imp (fun h => h) fun ⟨b, o, e1, e2, e3⟩ => ⟨b, o, e1, hF b e2, Rows_mono hF hw (hw.same b e2) e3⟩, h5⟩
  | .hs id off len, _, h => by
    simp only [VR] at h ⊢
    obtain ⟨l, a, c, h1, h2, h3, h4, h5, h6⟩ := h
    exact ⟨l, a, c, hL _ _ h1, h2, h3, h4, h5, h6.imp (fun h => h) fun ⟨b, o, e1, e2, e3⟩ => ⟨b, o, e1, e2, Nat.le_trans e3 (hw.csz b)⟩⟩
  | .hw id, _, h => by
    simp only [VR] at h ⊢
    obtain ⟨l, a, c, h1, h2, h3, h4, h6⟩ := h
    exact ⟨l, a, c, hL _ _ h1, h2, h3, h4, h6.imp (fun h => h) fun ⟨b, o, e1, e2, e3⟩ => ⟨b, o, e1, e2, Nat.le_trans e3 (hw.csz b)⟩⟩
  | .nilm, _, h => by simpa only [VR] using h
  | .mapv id, _, h => by
    simp only [VR] at h ⊢
    obtain ⟨l, b, o, h1, h2⟩ := h
    exact ⟨l, b, o, hL _ _ h1, h2⟩
  | .nilf, _, h => by simpa only [VR] using h
  | .fn f a b, _, h => by
    simp only [VR] at h ⊢
    obtain ⟨xs, ys, h1, h2, h3⟩ := h
    exact ⟨xs, ys, h1, CV_mono hF hL hw a xs h2, CV_mono hF hL hw b ys h3⟩
  | .nili, _, h => by simpa only [VR] using h
  | .iface t v, _, h => by
    simp only [VR] at h ⊢
    obtain ⟨x, h1, h2⟩ := h
    refine ⟨x, h1, ?_⟩
    cases hv : v.isAgg
    · simp only [hv, cond_false] at h2 ⊢; exact VR_mono hF hL hw v [x] h2
    · simp only [hv, cond_true] at h2 ⊢
      obtain ⟨c, e1, e2⟩ := h2
      exact ⟨c, e1, VR_mono hF hL hw v c e2⟩
  | .nil, _, h => by simpa only [VR] using h
  | .cons a b, _, h => by
    simp only [VR] at h ⊢
    obtain ⟨c1, c2, h1, h2, h3⟩ := h
    exact ⟨c1, c2, h1, VR_mono hF hL hw a c1 h2, VR_mono hF hL hw b c2 h3⟩
  | .arr n K xs, cs, h => by
    simp only [VR] at h ⊢
    exact RK_mono hF hw (.arr n K) xs cs h
  | .tup _, _, h => by simp only [VR] at h
theorem CV_mono {F F' : FS} {L L' : LM} {w w' : World} (hF : ∀ b, F b → F' b) (hL : ∀ id l, L id = some l → L' id = some l) (hw : WL F w w') :
    ∀ (a : AV) (vs : List Value), CV F L w a vs → CV F' L' w' a vs
  | .nil, _, h => by simpa only [CV] using h
  | .cons a b, _, h => by
    simp only [CV] at h ⊢
    obtain ⟨v, vs', h1, h2, h3⟩ := h
    refine ⟨v, vs', h1, ?_, CV_mono hF hL hw b vs' h3⟩
    rcases h2 with h2 | h2 | h2
    · exact .inl h2
    · exact .inr (.inl h2)
    · refine .inr (.inr ?_)
      cases hv : a.isAgg
      · simp only [hv, cond_false] at h2 ⊢; exact VR_mono hF hL hw a [v] h2
      · simp only [hv, cond_true] at h2 ⊢
        obtain ⟨c, e1, e2⟩ := h2
        exact ⟨c, e1, VR_mono hF hL hw a c e2⟩
  | .undef, _, h | .dead, _, h | .int _ _, _, h | .bool _, _, h | .str _, _, h | .nilp, _, h | .ptr _ _ _, _, h | .rptr _ _ _ _, _, h | .nils, _, h | .rs _ _ _ _, _, h | .hs _ _ _, _, h | .hw _, _, h | .nilm, _, h | .mapv _, _, h | .nilf, _, h
  | .fn _ _ _, _, h | .nili, _, h | .iface _ _, _, h | .arr _ _ _, _, h | .tup _, _, h => by simp only [CV] at h
end

theorem VV_mono {F F' : FS} {L L' : LM} {w w' : World} (hF : ∀ b, F b → F' b) (hL : ∀ id l, L id = some l → L' id = some l) (hw : WL F w w') {a : AV} {v : Value} (h : VV F L w a v) : VV F' L' w' a v := by
  have key : (bif a.isAgg then ∃ c : List Value, v = .agg c.toArray ∧ VR F L w a c else VR F L w a [v]) → (bif a.isAgg then ∃ c : List Value, v = .agg c.toArray ∧ VR F' L' w' a c else VR F' L' w' a [v]) := by
    intro h2
    cases hv : a.isAgg
    · simp only [hv, cond_false] at h2 ⊢; exact VR_mono hF hL hw a [v] h2
    · simp only [hv, cond_true] at h2 ⊢
      obtain ⟨c, e1, e2⟩ := h2
      exact ⟨c, e1, VR_mono hF hL hw a c e2⟩
  cases a <;> first | exact h | exact key h | skip
  case tup c =>
    obtain ⟨vs, h1, h2⟩ := h
    exact ⟨vs, h1, CV_mono hF hL hw c vs h2⟩

theorem MR_mono {F F' : FS} {w w' : World} (hF : ∀ b, F b → F' b) (hw : WL F w w') {Kk Kv : Kd} : ∀ (es : List (Kk.T × Kv.T)) (l : List MapEntry), MR F w Kk Kv es l → MR F' w' Kk Kv es l
  | [], [], _ => trivial
  | x :: es, e :: l, ⟨h1, h2, h3⟩ => ⟨⟨RK_mono hF hw Kk _ _ h1.1, h1.2⟩, ⟨RK_mono hF hw Kv _ _ h2.1, h2.2⟩, MR_mono hF hw es l h3⟩
  | [], _ :: _, h => h.elim
  | _ :: _, [], h => h.elim

theorem BR_mono {F F' : FS} {L L' : LM} {w w' : World} (hF : ∀ b, F b → F' b) (hL : ∀ id l, L id = some l → L' id = some l) (hw : WL F w w') {l : Loc} {bk : Bk}
    (hs : ∀ b o, l.at_ = some (b, o) → w'.heap[b]? = w.heap[b]?) (h : BR F L w l bk) : BR F' L' w' l bk := by
  cases bk with
  | box v =>
    obtain ⟨h1, h2, b, o, cs, h3, h4, h5, h6⟩ := h
    exact ⟨h1, h2, b, o, cs, h3, free_same (hs b o h3) h4, VR_mono hF hL hw v cs h5, cellsAt_same (hs b o h3) h6⟩
  | row K xs =>
    obtain ⟨h1, h2, h3, h4⟩ := h
    exact ⟨h1, h2, h3, fun b o hb => ⟨free_same (hs b o hb) (h4 b o hb).1, Rows_mono hF hw (hs b o hb) (h4 b o hb).2⟩⟩
  | rowv v =>
    obtain ⟨h1, h2, b, o, cs, h3, h4, h5, h6, h7⟩ := h
    exact ⟨h1, h2, b, o, cs, h3, free_same (hs b o h3) h4, cellsAt_same (hs b o h3) h5, h6, fun i u hu => by
      obtain ⟨c, q1, q2, q3⟩ := h7 i u hu
      exact ⟨c, q1, q2, VR_mono hF hL hw u [c] q3⟩⟩
  | map Kk Kv es =>
    obtain ⟨b, ents, clock, h1, h2, h3⟩ := h
    exact ⟨b, ents, clock, h1, (hs b 0 h1).trans h2, MR_mono hF hw es _ h3⟩

/-! ### Sizes and shapes -/
theorem Kd.sh_size : ∀ K : Kd, K.sh.size = K.size
  | .int _ | .bool | .str | .sl _ | .nil | .arr _ _ => rfl
  | .cons a b => by simp only [Kd.sh, Sh.size, Kd.size]; rw [Kd.sh_size a, Kd.sh_size b]

theorem AV.sh_size : ∀ a : AV, a.sh.size = a.size
  | .undef | .dead | .int _ _ | .bool _ | .str _ | .nilp | .ptr _ _ _ | .rptr _ _ _ _ | .nils | .rs _ _ _ _ | .hs _ _ _ | .hw _ | .nilm | .mapv _ | .nilf | .fn _ _ _ | .nili | .iface _ _ | .nil | .arr _ _ _ | .tup _ => rfl
  | .cons a b => by simp only [AV.sh, Sh.size, AV.size]; rw [AV.sh_size a, AV.sh_size b]

theorem enc_sh : ∀ (K : Kd) (x : K.T), (enc K x).sh = K.sh
  | .int _, _ | .bool, _ | .str, _ | .sl _, _ | .nil, _ | .arr _ _, _ => rfl
  | .cons a b, x => by simp only [enc, AV.sh, Kd.sh]; rw [enc_sh a, enc_sh b]

theorem RK_size {F : FS} {w : World} : ∀ (K : Kd) (x : K.T) (cs : List Value), RK F w K x cs → cs.length = K.size
  | .int _, _, _, h => by rw [h.1]; rfl
  | .bool, _, _, h => by rw [show _ = _ from h]; rfl
  | .str, _, _, h => by rw [show _ = _ from h]; rfl
  | .arr n e, xs, cs, h => h.2.1
  | .sl e, xs, cs, ⟨a, c, h1, _⟩ => by rw [h1]; rfl
  | .nil, _, _, h => by rw [show _ = _ from h]; rfl
  | .cons a b, x, cs, ⟨c1, c2, h1, h2, h3⟩ => by rw [h1, List.length_append, RK_size a _ _ h2, RK_size b _ _ h3]; rfl

theorem VR_size {F : FS} {L : LM} {w : World} : ∀ (a : AV) (cs : List Value), VR F L w a cs → cs.length = a.size
  | .undef, _, h => by simp only [VR] at h
  | .dead, _, h => by simp only [VR] at h; obtain ⟨v, h, _⟩ := h; rw [h]; rfl
  | .int _ _, _, h => by simp only [VR] at h; rw [h.1]; rfl
  | .bool _, _, h | .str _, _, h | .nilp, _, h | .nils, _, h | .nilm, _, h | .nilf, _, h | .nili, _, h | .nil, _, h => by simp only [VR] at h; rw [h]; rfl
  | .ptr id i p, _, h => by simp only [VR] at h; obtain ⟨_, _, _, _, _, _, _, _, _, h⟩ := h; rw [h]; rfl
  | .rptr K xs i p, _, h => by simp only [VR] at h; obtain ⟨_, _, _, _, _, _, _, _, h⟩ := h; rw [h]; rfl
  | .rs K xs nn full, _, h => by simp only [VR] at h; obtain ⟨_, _, h, _⟩ := h; rw [h]; rfl
  | .hs id off len, _, h => by simp only [VR] at h; obtain ⟨_, _, _, _, h, _⟩ := h; rw [h]; rfl
  | .hw id, _, h => by simp only [VR] at h; obtain ⟨_, _, _, _, h, _⟩ := h; rw [h]; rfl
  | .mapv id, _, h => by simp only [VR] at h; obtain ⟨_, _, _, _, _, h⟩ := h; rw [h]; rfl
  | .fn f a b, _, h => by simp only [VR] at h; obtain ⟨_, _, h, _⟩ := h; rw [h]; rfl
  | .iface t v, _, h => by simp only [VR] at h; obtain ⟨_, h, _⟩ := h; rw [h]; rfl
  | .cons a b, _, h => by
    simp only [VR] at h
    obtain ⟨c1, c2, h1, h2, h3⟩ := h
    rw [h1, List.length_append, VR_size a _ h2, VR_size b _ h3]; rfl
  | .arr n K xs, cs, h => by simp only [VR] at h; exact h.2.1
  | .tup _, _, h => by simp only [VR] at h

/-- Data put into a value reads as it did. -/
theorem VR_enc {F : FS} {L : LM} {w : World} : ∀ (K : Kd) (x : K.T) (cs : List Value), RK F w K x cs → VR F L w (enc K x) cs
  | .int _, _, _, h => by simp only [enc, VR]; exact h
  | .bool, _, _, h | .str, _, _, h | .nil, _, _, h => by simpa only [enc, VR, RK] using h
  | .arr n e, xs, cs, h => by simpa only [enc, VR] using h
  | .sl e, xs, cs, ⟨a, c, h1, h2, h3, h4⟩ => by
    simp only [enc, VR]
    exact ⟨a, c, h1, h2, h3, h4, by simp, by simp⟩
  | .cons a b, x, cs, ⟨c1, c2, h1, h2, h3⟩ => by
    simp only [enc, VR]
    exact ⟨c1, c2, h1, VR_enc a _ _ h2, VR_enc b _ _ h3⟩

end Go.Proofs.Ytkmeimhapokdlaa.Ae
