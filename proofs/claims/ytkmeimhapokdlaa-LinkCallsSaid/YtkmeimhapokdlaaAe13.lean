/- Rows that grow, rows that are made. Lemmas alone. -/
import Derived.Test.YtkmeimhapokdlaaAe12
set_option linter.unusedVariables false
set_option linter.unusedSimpArgs false
namespace Go.Proofs.Ytkmeimhapokdlaa.Ae
open Go

/-- A list of data and its cells, one behind the other. -/
def FL (F : FS) (w : World) (K : Kd) : List K.T → List Value → Prop
  | [], cl => cl = []
  | x :: xs, cl => ∃ c r, cl = c ++ r ∧ RK F w K x c ∧ FL F w K xs r

section
variable {F F' : FS} {L : LM} {w w' : World} {P : Program} {hp : Hp} {B0 : FS} {key : Nat}

theorem FL_len {K : Kd} : ∀ {xs : List K.T} {cl : List Value}, FL F w K xs cl → cl.length = xs.length * K.size
  | [], _, h => by rw [show _ = _ from h]; simp
  | x :: xs, _, ⟨c, r, h1, h2, h3⟩ => by rw [h1, List.length_append, RK_size K x c h2, FL_len h3, List.length_cons, Nat.add_mul]; omega

theorem FL_one {K : Kd} : ∀ {xs : List K.T} {cl : List Value}, FL F w K xs cl → ∀ v ∈ cl, v.oneCell' = true
  | [], _, h => by rw [show _ = _ from h]; simp
  | x :: xs, _, ⟨c, r, h1, h2, h3⟩ => by
    intro v hv
    rw [h1, List.mem_append] at hv
    exact hv.elim (RK_one K x c h2 v) (FL_one h3 v)

theorem FL_app {K : Kd} : ∀ {xs ys : List K.T} {a b : List Value}, FL F w K xs a → FL F w K ys b → FL F w K (xs ++ ys) (a ++ b)
  | [], ys, a, b, h, h' => by rw [show a = [] from h]; exact h'
  | x :: xs, ys, a, b, ⟨c, r, h1, h2, h3⟩, h' => ⟨c, r ++ b, by rw [h1, List.append_assoc], h2, FL_app h3 h'⟩

theorem FL_mono {K : Kd} (hF : ∀ b, F b → F' b) (hw : WL F w w') : ∀ {xs : List K.T} {cl : List Value}, FL F w K xs cl → FL F' w' K xs cl
  | [], _, h => h
  | x :: xs, _, ⟨c, r, h1, h2, h3⟩ => ⟨c, r, h1, RK_mono hF hw K x c h2, FL_mono hF hw h3⟩

theorem Rows_FL {K : Kd} {b : Nat} : ∀ {xs : List K.T} {o : Nat}, Rows F w K xs b o → ∃ cl, FL F w K xs cl ∧ cellsAt w b o cl
  | [], _, _ => ⟨[], rfl, fun j v h => by simp at h⟩
  | x :: xs, o, h => by
    obtain ⟨c, h1, h2⟩ := h 0 x rfl
    obtain ⟨r, h3, h4⟩ := Rows_FL (xs := xs) (o := o + K.size) (fun i y hy => by
      obtain ⟨c', q1, q2⟩ := h (i + 1) y (by simpa using hy)
      exact ⟨c', by rw [show o + K.size + i * K.size = o + (i + 1) * K.size by rw [Nat.add_mul]; omega]; exact q1, q2⟩)
    refine ⟨c ++ r, ⟨c, r, rfl, h2, h3⟩, cellsAt_app.2 ⟨by simpa using h1, ?_⟩⟩
    rw [RK_size K x c h2]; exact h4

theorem FL_Rows {K : Kd} {b : Nat} : ∀ {xs : List K.T} {cl : List Value} {o : Nat}, FL F w K xs cl → cellsAt w b o cl → Rows F w K xs b o
  | [], _, _, _, _ => fun i x h => by simp at h
  | x :: xs, _, o, ⟨c, r, h1, h2, h3⟩, hc => by
    rw [h1, cellsAt_app] at hc
    intro i y hy
    cases i with
    | zero =>
      simp only [List.getElem?_cons_zero, Option.some.injEq] at hy
      subst hy
      exact ⟨c, by simpa using hc.1, h2⟩
    | succ i =>
      have hc2 := hc.2
      rw [RK_size K x c h2] at hc2
      obtain ⟨c', q1, q2⟩ := FL_Rows h3 hc2 i y (by simpa using hy)
      exact ⟨c', by rw [show o + (i + 1) * K.size = o + K.size + i * K.size by rw [Nat.add_mul]; omega]; exact q1, q2⟩

/-- A slice that is read: its elements. -/
theorem slice_src (hh : HR F L hp w B0) {K : Kd} {x : AV} {xv : Value} {ys : List K.T} (hx : VV F L w x xv) (h : dec hp (.sl K) x = some ys) :
    ∃ a c cl, xv = .slice a ys.length c ∧ ys.length ≤ c ∧ c < 2 ^ 63 ∧ FL F w K ys cl ∧ (ys = [] ∨ ∃ b o, a = some ⟨b, o, none⟩ ∧ cellsAt w b o cl) := by
  have hpl := dec_sl_form h
  replace hx := VV_one hpl.1 hpl.2 hx
  cases x <;> simp only [dec, reduceCtorEq] at h
  case nils =>
    obtain rfl := Option.some.inj h
    simp only [VR, List.cons.injEq, and_true] at hx
    exact ⟨none, 0, [], hx, by simp, by omega, rfl, .inl rfl⟩
  case rs K' xs nn full =>
    obtain ⟨rfl, rfl⟩ := castL_some h
    simp only [VR, List.cons.injEq, and_true] at hx
    obtain ⟨a, c, h1, h2, ⟨h3, _⟩, h4, _⟩ := hx
    rcases h4 with rfl | ⟨b, o, h5, h6, h7⟩
    · exact ⟨a, c, [], h1, h2, h3, rfl, .inl rfl⟩
    · obtain ⟨cl, q1, q2⟩ := Rows_FL h7
      exact ⟨a, c, cl, h1, h2, h3, q1, .inr ⟨b, o, h5, q2⟩⟩
  case hs id off len =>
    split at h
    · rename_i K' xs hb
      obtain ⟨rfl, rfl⟩ := castL_some h
      simp only [VR, List.cons.injEq, and_true] at hx
      obtain ⟨l, a, c, h1, h2, h3, h4, h5, h6⟩ := hx
      obtain ⟨l', hl', ⟨e1, e2, e3, e4⟩, _⟩ := hh.blk id _ hb
      rw [h1] at hl'; cases hl'
      have hlen : ((xs.drop off).take len).length = len := by simp; omega
      rcases h6 with h6 | ⟨b, o, h6, h7, h8⟩
      · have hnil : (xs.drop off).take len = [] := List.eq_nil_of_length_eq_zero (by omega)
        refine ⟨a, c, [], by rw [h2, hlen], by rw [hlen]; exact h3, h4, ?_, .inl hnil⟩
        rw [hnil]; exact rfl
      · obtain ⟨cl, q1, q2⟩ := Rows_FL (Rows_sub (l := off) (n := len) (e4 b o h6).2)
        exact ⟨a, c, cl, by rw [h2, hlen], by rw [hlen]; exact h3, h4, q1, .inr ⟨b, _, by rw [h7, e2, Kd.sh_size], q2⟩⟩
    · cases h
  case hw id =>
    split at h
    · rename_i K' xs hb
      obtain ⟨rfl, rfl⟩ := castL_some h
      simp only [VR, List.cons.injEq, and_true] at hx
      obtain ⟨l, a, c, h1, h2, h3, h4, h6⟩ := hx
      obtain ⟨l', hl', ⟨e1, e2, e3, e4⟩, _⟩ := hh.blk id _ hb
      rw [h1] at hl'; cases hl'
      rcases h6 with h6 | ⟨b, o, h6, h7, h8⟩
      · have hnil : ys = [] := List.eq_nil_of_length_eq_zero (by omega)
        subst hnil
        exact ⟨a, c, [], by rw [h2, e1], by simp, h4, rfl, .inl rfl⟩
      · obtain ⟨cl, q1, q2⟩ := Rows_FL (e4 b o h6).2
        exact ⟨a, c, cl, by rw [h2, e1], by omega, h4, q1, .inr ⟨b, _, h7, q2⟩⟩
    · cases h

theorem cellsAt_heap {b o : Nat} {cl : List Value} (hw : w'.heap = w.heap) (h : cellsAt w b o cl) : cellsAt w' b o cl := cellsAt_same (by rw [hw]) h

/-- What an append reads of its source. -/
theorem source_sound (hh : HR F L hp w B0) {K : Kd} {x : AV} {xv : Value} {ys : List K.T} (hx : VV F L w x xv) (h : source hp K x = some ys) :
    ∃ cl, FL F w K ys cl ∧ (Builtin.lenOf xv).run P w = .ok ys.length w ∧ ∀ w' : World, w'.heap = w.heap → (Builtin.firstCells K.size ys.length xv).run P w' = .ok cl.toArray w' := by
  have slices : dec hp (.sl K) x = some ys → ∃ cl, FL F w K ys cl ∧ (Builtin.lenOf xv).run P w = .ok ys.length w ∧ ∀ w' : World, w'.heap = w.heap → (Builtin.firstCells K.size ys.length xv).run P w' = .ok cl.toArray w' := by
    intro h
    obtain ⟨a, c, cl, rfl, h1, h2, h3, h4⟩ := slice_src hh hx h
    refine ⟨cl, h3, rfl, fun w' hw' => ?_⟩
    have hl := FL_len h3
    rcases h4 with rfl | ⟨b, o, rfl, h5⟩
    · have hcl : cl = [] := h3
      subst hcl
      cases a with
      | none => rfl
      | some a => simp [Builtin.firstCells, loadCells, loadCellsFrom]
    · simp only [Builtin.firstCells]
      rw [← hl]
      exact run_loadCells_at (cellsAt_heap hw' h5)
  cases x
  case str s =>
    simp only [source] at h
    split at h
    case h_2 => cases h
    obtain rfl := Option.some.inj h
    obtain rfl := VV_str hx
    refine ⟨(bytesOf s).map fun n => Value.int .u8 n, ?_, ?_, fun w' hw' => ?_⟩
    · have : ∀ l : List UInt8, FL F w (.int .u8) (l.map fun b => (b.toNat : Int)) ((l.map fun b => (b.toNat : Int)).map fun n => Value.int .u8 n) := by
        intro l
        induction l with
        | nil => exact rfl
        | cons b l ih =>
          refine ⟨[.int .u8 b.toNat], _, rfl, ⟨rfl, ?_⟩, ih⟩
          have := b.toNat_lt
          simp [Lit.wf, IntKind.min, IntKind.max, IntKind.signed, IntKind.bits]; omega
      exact this _
    · simp [Builtin.lenOf, bytesOf]
    · have hall : ByteArray.extract s 0 (bytesOf s).length = s := by
        have : (bytesOf s).length = s.size := by simp [bytesOf]
        rw [this]; simp
      simp only [Builtin.firstCells, hall, Sem.run_pure]
      congr 1
      apply Array.ext'
      simp [bytesOf]
  all_goals exact slices h


/-! ### append -/
theorem lenOf_any {x : Value} {n : Nat} (h : (Builtin.lenOf x).run P w = .ok n w) (w' : World) : (Builtin.lenOf x).run P w' = .ok n w' := by
  unfold Builtin.lenOf at h ⊢
  split at h
  · simp at h; subst h; rfl
  · simp at h; subst h; rfl
  · simp at h

theorem append_room {t u ty e : TypeId} {d : TypeDesc} {i : TypeInfo} {base : Option Addr} {n c m : Nat} {x : Value} {news : List Value} (ht : P.underlying t = some (.slice e)) (hu : P.underlying u = some d) (hd : ∀ k, d ≠ .int k) (hi : P.info? e = some i)
    (hlen : (Builtin.lenOf x).run P w = .ok m w) (hnews : (Builtin.firstCells i.size m x).run P w = .ok news.toArray w) (hroom : n + m ≤ c) {w' : World}
    (hst : ∀ a, base = some a → (storeCells (a.add (n * i.size)) news).run P w = .ok () w') (hno : base = none → w' = w) :
    (Builtin.append_ #[t, u] ty #[.slice base n c, x]).run P w = .ok (.slice base (n + m) c) w' := by
  have hz : (match d with | .int _ => true | _ => false) = false := by cases d <;> first | rfl | exact absurd rfl (hd _)
  cases base with
  | none =>
    rw [hno rfl]
    simp [Builtin.append_, run_underlying ht, run_underlying hu, run_sizeOf w hi, Program.cellsOf, hi, hz, hlen, hnews, hroom]
  | some a =>
    have := hst a rfl
    simp [Builtin.append_, run_underlying ht, run_underlying hu, run_sizeOf w hi, Program.cellsOf, hi, hz, hlen, hnews, hroom, this]

theorem append_grow {t u ty e : TypeId} {d : TypeDesc} {i : TypeInfo} {z : Value} {base : Option Addr} {n c m : Nat} {x : Value} {olds news : List Value} (ht : P.underlying t = some (.slice e)) (hu : P.underlying u = some d) (hd : ∀ k, d ≠ .int k) (hi : P.info? e = some i) (hzero : i.zero = some z)
    (hlen : (Builtin.lenOf x).run P w = .ok m w) (hnews : (Builtin.firstCells i.size m x).run P w.drew = .ok news.toArray w.drew) (holds : (Builtin.firstCells i.size n (.slice base n c)).run P w.drew = .ok olds.toArray w.drew)
    (hg : c < n + m) (hb0 : i.bytes ≠ 0) (hb : (n + m) * i.bytes ≤ 140737488355328) :
    (Builtin.append_ #[t, u] ty #[.slice base n c, x]).run P w =
      .ok (.slice (some ⟨w.heap.size, 0, none⟩) (n + m) (grownCap w (n + m) c e)) (w.drew.alloc (.cells (olds.toArray ++ news.toArray ++ Builtin.zeroCells z.cells (grownCap w (n + m) c e - (n + m))) e)) := by
  have hz : (match d with | .int _ => true | _ => false) = false := by cases d <;> first | rfl | exact absurd rfl (hd _)
  have hn : ¬ (n + m ≤ c) := by omega
  have h48 := growslice_fits hg hb
  have h48' : ¬ (281474976710656 < Builtin.nextslicecap (n + m) c * i.bytes) := by omega
  simp [Builtin.append_, run_underlying ht, run_underlying hu, run_sizeOf w hi, Program.cellsOf, hi, hz, hlen, hn, typeInfo, zeroValue, hzero, h48', Question.forced, hnews, holds, newRow, grownCap, hb0]
  congr 2
  apply Array.ext'
  simp

end
end Go.Proofs.Ytkmeimhapokdlaa.Ae
