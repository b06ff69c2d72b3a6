/- Functions of data. Lemmas alone. -/
import Derived.Test.YtkmeimhapokdlaaAe22
set_option linter.unusedVariables false
set_option linter.unusedSimpArgs false
namespace Go.Proofs.Ytkmeimhapokdlaa.Ae
open Go

/-- Values of a chain of kinds. -/
def KVs (F : FS) (w : World) : (K : Kd) → K.T → List Value → Prop
  | .nil, _, vs => vs = []
  | .cons a b, x, vs => ∃ v vs', vs = v :: vs' ∧ KV F w a x.1 v ∧ KVs F w b x.2 vs'
  | _, _, _ => False

section
variable {F F' : FS} {L L' : LM} {w w' : World} {P : Program} {hp : Hp} {B0 : FS} {nt key : Nat} {S : Specs} {gl : Nat → Option AV} {g : Nat → AV} {a : Act}

theorem KVs_mono (hF : ∀ b, F b → F' b) (hw : WL F w w') : ∀ (K : Kd) (x : K.T) (vs : List Value), KVs F w K x vs → KVs F' w' K x vs
  | .nil, _, _, h => h
  | .cons a b, x, vs, ⟨v, vs', h1, ⟨h2, h3⟩, h4⟩ => ⟨v, vs', h1, ⟨RK_mono hF hw a _ _ h2, h3⟩, KVs_mono hF hw b x.2 vs' h4⟩
  | .int _, _, _, h | .bool, _, _, h | .str, _, _, h | .arr _ _, _, _, h | .sl _, _, _, h => h

theorem RK_flat : ∀ (K : Kd), K.flat = true → ∀ (x : K.T) (cs : List Value), RK F w K x cs → RK F' w' K x cs
  | .int _, _, _, _, h | .bool, _, _, _, h | .str, _, _, _, h | .nil, _, _, _, h => h
  | .arr n e, hf, xs, cs, h => ⟨h.1, h.2.1, fun i x v h1 h2 => RK_flat e hf x [v] (h.2.2 i x v h1 h2)⟩
  | .sl e, hf, _, _, _ => by simp [Kd.flat] at hf
  | .cons a b, hf, x, cs, ⟨c1, c2, h1, h2, h3⟩ => by
    simp only [Kd.flat, Bool.and_eq_true] at hf
    exact ⟨c1, c2, h1, RK_flat a hf.1 x.1 c1 h2, RK_flat b hf.2 x.2 c2 h3⟩

theorem KVs_flat : ∀ (K : Kd), K.flat = true → ∀ (x : K.T) (vs : List Value), KVs F w K x vs → KVs F' w' K x vs
  | .nil, _, _, _, h => h
  | .cons a b, hf, x, vs, ⟨v, vs', h1, ⟨h2, h3⟩, h4⟩ => by
    simp only [Kd.flat, Bool.and_eq_true] at hf
    exact ⟨v, vs', h1, ⟨RK_flat a hf.1 _ _ h2, h3⟩, KVs_flat b hf.2 x.2 vs' h4⟩
  | .int _, _, _, _, h | .bool, _, _, _, h | .str, _, _, _, h | .arr _ _, _, _, _, h | .sl _, _, _, _, h => h

theorem KVs_CV : ∀ (K : Kd) (x : K.T) (vs : List Value), KVs F w K x vs → CV F L w (enc K x) vs
  | .nil, _, _, h => by simp only [enc, CV]; exact h
  | .cons a b, x, vs, ⟨v, vs', h1, h2, h3⟩ => by
    simp only [enc, CV]
    refine ⟨v, vs', h1, .inr (.inr ?_), KVs_CV b x.2 vs' h3⟩
    have := KV_VV (L := L) h2
    rw [VV_plain (enc_plain _ _)] at this
    exact this
  | .int _, _, _, h | .bool, _, _, h | .str, _, _, h | .arr _ _, _, _, h | .sl _, _, _, h => h.elim

theorem KVs_len : ∀ (K : Kd) (x : K.T) (vs : List Value), KVs F w K x vs → vs.length = K.len
  | .nil, _, _, h => by rw [show _ = _ from h]; rfl
  | .cons a b, x, vs, ⟨v, vs', h1, h2, h3⟩ => by rw [h1, List.length_cons, KVs_len b x.2 vs' h3]; rfl
  | .int _, _, _, h | .bool, _, _, h | .str, _, _, h | .arr _ _, _, _, h | .sl _, _, _, h => h.elim

theorem dec_agg {K : Kd} {v : AV} {x : K.T} (h : dec hp K v = some x) : v.isAgg = K.agg ∧ v.plain = true := by
  cases K <;> cases v <;> first | exact ⟨rfl, rfl⟩ | (simp [dec] at h)

theorem dec_KVs (hh : HR F L hp w B0) : ∀ (K : Kd) (v : AV) (x : K.T) (vs : List Value), dec hp K v = some x → CV F L w v vs → KVs (fun b => F b ∨ rowF L v.rows b) w K x vs
  | .nil, v, x, vs, hd, h => by
    cases v <;> simp only [dec, reduceCtorEq] at hd
    simp only [CV] at h; exact h
  | .cons A B, v, x, vs, hd, h => by
    cases v <;> simp only [dec, reduceCtorEq] at hd
    rename_i a b
    split at hd
    case h_2 => cases hd
    rename_i x1 h1
    split at hd
    case h_2 => cases hd
    rename_i x2 h2
    cases hd
    simp only [CV] at h
    obtain ⟨v, vs', rfl, g1, g2⟩ := h
    obtain ⟨ea, ep⟩ := dec_agg h1
    have hv : VV F L w a v := by
      rcases g1 with ⟨rfl, _⟩ | rfl | g1
      · cases ep
      · cases ep
      · rw [VV_plain ep]; exact g1
    obtain ⟨c1, c2, c3⟩ := VV_cells ep hv
    rw [ea] at c2 c3
    have r1 := dec_RK hh A a x1 _ h1 c1
    refine ⟨v, vs', rfl, ⟨RK_mono (fun b hb => hb.imp (fun h => h) (rowF_sub fun i hi => by simp [AV.rows, hi])) (WL.refl _ _) _ _ _ r1, c2, c3⟩, ?_⟩
    exact KVs_mono (fun b hb => hb.imp (fun h => h) (rowF_sub fun i hi => by simp [AV.rows, hi])) (WL.refl _ _) B x2 vs' (dec_KVs hh B b x2 vs' h2 g2)
  | .int _, v, x, vs, hd, h | .bool, v, x, vs, hd, h | .str, v, x, vs, hd, h | .arr _ _, v, x, vs, hd, h | .sl _, v, x, vs, hd, h => by
    cases v <;> simp only [dec, reduceCtorEq] at hd <;> simp only [CV] at h

theorem tmList_get : ∀ (K : Kd) (x : K.T) (vs : List Value) (i : Nat), KVs F w K x vs → ∀ t, (∃ k, t = i + k ∧ k < vs.length ∧ VV F L w ((lk (tmList i (enc K x)) t).getD .dead) (vs.getD k undef)) ∨ (lk (tmList i (enc K x)) t).getD .dead = .dead
  | .nil, _, _, i, h, t => .inr rfl
  | .cons a b, x, vs, i, ⟨v, vs', h1, h2, h3⟩, t => by
    simp only [enc, tmList, lk]
    cases hb : Nat.beq i t with
    | true =>
      refine .inl ⟨0, by rw [Nat.eq_of_beq_eq_true hb]; rfl, by rw [h1]; simp, ?_⟩
      rw [h1]
      exact KV_VV h2
    | false =>
      rcases tmList_get b x.2 vs' (i + 1) h3 t with ⟨k, e1, e2, e3⟩ | e
      · exact .inl ⟨k + 1, by omega, by rw [h1]; simpa using e2, by rw [h1]; simpa using e3⟩
      · exact .inr e
  | .int _, _, _, _, h, _ | .bool, _, _, _, h, _ | .str, _, _, _, h, _ | .arr _ _, _, _, _, h, _ | .sl _, _, _, _, h, _ => h.elim

def resM (tmps : Array Value) : ResultVar → Sem Value
  | .tmp t => pure (tmps.getD t undef)
  | .cell c t => do loadVar t (← asAddr (tmps.getD c undef))

theorem head_CV {x : AV} {v : Value} (hn : x.isTup = false) (h : VV F L w x v) : (x = .undef ∧ v = Go.undef) ∨ x = .dead ∨ (bif x.isAgg then ∃ c : List Value, v = .agg c.toArray ∧ VR F L w x c else VR F L w x [v]) := by
  cases x <;> first
    | exact .inl ⟨rfl, h⟩
    | exact .inr (.inl rfl)
    | exact .inr (.inr h)
    | cases hn

theorem resV_sound (hh : HR F L hp w B0) (ht : TS F L w g a) : ∀ (l : List ResultVar) (v : AV), resV P g hp l = some v → ∃ vs : List Value, (l.mapM (resM a.tmps)).run P w = .ok vs w ∧ CV F L w v vs
  | [], v, h => by cases h; exact ⟨[], rfl, by simp only [CV]⟩
  | .tmp t :: l, v, h => by
    simp only [resV] at h
    split at h
    · cases h
    rename_i hn
    split at h
    case h_2 => cases h
    rename_i r hr
    cases h
    obtain ⟨vs, h1, h2⟩ := resV_sound hh ht l r hr
    refine ⟨a.tmps.getD t undef :: vs, ?_, ?_⟩
    · rw [List.mapM_cons, Sem.run_bind]
      simp only [resM, Sem.run_pure, Result.andThen_ok, Sem.run_bind, h1]
    · simp only [CV]
      exact ⟨_, _, rfl, head_CV hn (ht t), h2⟩
  | .cell c t :: l, v, h => by
    simp only [resV] at h
    split at h
    case h_2 => cases h
    rename_i x Δ hx
    split at h
    · cases h
    rename_i hn
    split at h
    case h_2 => cases h
    rename_i r hr
    cases h
    obtain ⟨vs, h1, h2⟩ := resV_sound hh ht l r hr
    obtain ⟨u, q1, q2, q3⟩ := load'_sound (P := P) hh (ht c) hx
    have hd : ∃ y, deref hp (g c) = some y := by
      unfold load' at hx
      split at hx
      · rename_i y hy; exact ⟨y, hy⟩
      · cases hx
    obtain ⟨y, hy⟩ := hd
    obtain ⟨b, o, cs, e1, _⟩ := deref_sound hh (ht c) hy
    refine ⟨u :: vs, ?_, ?_⟩
    · rw [e1] at q1
      simp only [Instr.loadAt, Instr.sureAddr, Sem.run_bind, Sem.run_pure, Result.andThen_ok] at q1
      rw [List.mapM_cons, Sem.run_bind]
      simp only [resM, e1, asAddr, Sem.run_bind, Sem.run_pure, Result.andThen_ok, q1, h1]
    · simp only [CV]
      exact ⟨_, _, rfl, head_CV hn q2, h2⟩

theorem outV_sound : ∀ (K : Kd) (y : K.T) (vs : List Value), KVs F w K y vs → VV F L w (outV K y) (if h : vs.toArray.size = 1 then vs.toArray[0] else .tuple vs.toArray)
  | .nil, y, vs, h => by
    rw [show vs = [] from h]
    exact ⟨[], rfl, by simp only [enc, CV]⟩
  | .cons A .nil, y, vs, ⟨v, vs', h1, h2, h3⟩ => by
    rw [show vs' = [] from h3] at h1
    rw [h1]
    exact KV_VV h2
  | .cons A (.cons B C), y, vs, h => by
    have hcv := KVs_CV (L := L) _ _ _ h
    obtain ⟨v, vs', h1, h2, v2, vs2, h3, h4, h5⟩ := h
    subst h1 h3
    rw [dif_neg (by simp)]
    exact ⟨_, rfl, hcv⟩
  | .cons A (.int _), _, _, ⟨_, _, _, _, h⟩ | .cons A .bool, _, _, ⟨_, _, _, _, h⟩ | .cons A .str, _, _, ⟨_, _, _, _, h⟩ | .cons A (.arr _ _), _, _, ⟨_, _, _, _, h⟩ | .cons A (.sl _), _, _, ⟨_, _, _, _, h⟩ => h.elim
  | .int _, _, _, h | .bool, _, _, h | .str, _, _, h | .arr _ _, _, _, h | .sl _, _, _, h => h.elim

theorem run_results {fn : Func} {tmps : Array Value} {vs : List Value} (h : (fn.results.toList.mapM (resM tmps)).run P w = .ok vs w) : (results fn tmps).run P w = .ok (if h : vs.toArray.size = 1 then vs.toArray[0] else .tuple vs.toArray) w := by
  have hm : (fn.results.mapM (resM tmps)).run P w = .ok vs.toArray w := by
    rw [Array.mapM_eq_mapM_toList, Sem.run_map, h]
    rfl
  have hf : (fun (r : ResultVar) => (match r with
    | .tmp t => pure (tmps.getD t undef)
    | .cell a t => do loadVar t (← asAddr (tmps.getD a undef)) : Sem Value)) = resM tmps := by
    funext r; cases r <;> rfl
  unfold results
  rw [Sem.run_bind]
  rw [← hf] at hm
  exact congrArg (fun r : Result (Array Value) => r.andThen fun a w' => Sem.run P (pure (if h : a.size = 1 then a[0] else Value.tuple a)) w') hm

end

/-- A callee of which it is known what it answers. -/
structure FnOK (P : Program) (gl : Nat → Option AV) (id : Nat) (sp : AV → Hp → Nat → Res) : Prop where
  there : ∀ args hp key r, sp args hp key = some r → ∃ fn c, P.funcs[id]? = some fn ∧ (fn.name == "runtime.NumGoroutine") = false ∧ fn.body = some c
  calls : ∀ args hp key v Δ, sp args hp key = some (true, v, Δ) → ∀ (F : FS) (L : LM) (w : World) (B0 : FS) (vs : List Value), HR F L hp w B0 → (∀ b, w.heap.size ≤ b → B0 b) → Fresh L key → GS gl F L w → CV F L w args vs →
    Calls P id vs.toArray w fun e w' => ∃ v' F' L', e = .returned v' ∧ Post F L w B0 hp key v Δ F' L' w' v'

theorem SpecOK.none {P : Program} {gl : Nat → Option AV} : SpecOK noS P gl := ⟨fun _ _ _ _ _ h => (by cases h), fun _ _ _ _ _ _ h => (by cases h)⟩

theorem SpecOK.add {S : Specs} {P : Program} {gl : Nat → Option AV} {id : Nat} {sp : AV → Hp → Nat → Res} (h : SpecOK S P gl) (h' : FnOK P gl id sp) : SpecOK (addS S id sp) P gl := by
  refine ⟨fun f args hp key r hr => ?_, fun f args hp key v Δ hr => ?_⟩
  · unfold addS at hr
    cases hb : Nat.beq f id with
    | true =>
      rw [hb] at hr
      rw [Nat.eq_of_beq_eq_true hb]
      exact h'.there _ _ _ _ hr
    | false =>
      rw [hb] at hr
      exact h.there _ _ _ _ _ hr
  · unfold addS at hr
    cases hb : Nat.beq f id with
    | true =>
      rw [hb] at hr
      rw [Nat.eq_of_beq_eq_true hb]
      exact h'.calls _ _ _ _ _ hr
    | false =>
      rw [hb] at hr
      exact h.calls _ _ _ _ _ _ hr

/-- A call with data: what it answers, and what is left of memory. -/
theorem call_sound (c : Cx) (hS : SpecOK c.S c.P c.gl) (hm : c.P.follows .mixedOrders = true) (hgl : GlOk c.gl) {id : Nat} {fn : Func} {code : Code} (hfn : c.P.funcs[id]? = some fn) (hb : fn.body = some code) (hok : okC fn.ntmps code = true) {Ka Ko : Kd} (hlen : Ka.len ≤ fn.ntmps)
    {x : Ka.T} {y : Ko.T} (hrun : runD c fn code Ka Ko x = some y) {F : FS} {w : World} (hF : ∀ b, F b → b < w.heap.size) (hg : GS c.gl F (fun _ => none) w) {vs : List Value} (hvs : KVs F w Ka x vs) :
    Calls c.P id vs.toArray w fun e w' => ∃ vs' F', e = .returned (if h : vs'.toArray.size = 1 then vs'.toArray[0] else .tuple vs'.toArray) ∧ KVs F' w' Ko y vs' ∧ Grow (fun b => w.heap.size ≤ b) F w F' w' ∧ ∀ b, F' b → b < w'.heap.size := by
  have hl := KVs_len _ _ _ hvs
  refine calls_of_wp hfn hb ?_
  have hsz : (vs.toArray ++ Array.replicate (fn.ntmps - vs.toArray.size) undef).size = fn.ntmps := by simp; omega
  refine ev_sound (nt := fn.ntmps) (B0 := fun b => w.heap.size ≤ b) c hS hm hgl code 1 _ (finish c.P fn Ko) y _ F (fun _ => none) _ w hok hrun ⟨⟨fun id bk h => (by cases h), fun _ _ _ _ _ _ _ _ h => absurd rfl h, hF⟩, fun _ h => h, hg, fun t => ?_, rfl, hsz⟩ (fun _ _ => rfl) fun e σ' F' L' a' w' hi hfr hgr _ hk => ?_
  · show VV F _ w ((lk (tmList 0 (enc Ka x)) t).getD .dead) _
    rcases tmList_get (L := fun _ => none) Ka x vs 0 hvs t with ⟨k, e1, e2, e3⟩ | e
    · rw [Nat.zero_add] at e1
      subst e1
      have : (vs.toArray ++ Array.replicate (fn.ntmps - vs.toArray.size) undef).getD t undef = vs.getD t undef := by
        rw [Array.getD_eq_getD_getElem?, Array.getElem?_append_left (by simpa using e2)]
        simp
      rw [this]
      exact e3
    · rw [e]; trivial
  · have fin : (match resV c.P σ'.get σ'.blk fn.results.toList with
      | some v => dec σ'.blk Ko v
      | none => none) = some y → a'.defers = [] ∧ ∃ v, (results fn a'.tmps).run c.P w' = .ok v w' ∧ ∃ vs' F', Ending.returned v = .returned (if h : vs'.toArray.size = 1 then vs'.toArray[0] else .tuple vs'.toArray) ∧ KVs F' w' Ko y vs' ∧ Grow (fun b => w.heap.size ≤ b) F w F' w' ∧ ∀ b, F' b → b < w'.heap.size := by
      intro hk
      split at hk
      case h_2 => cases hk
      rename_i rv hrv
      obtain ⟨vs', h1, h2⟩ := resV_sound hi.hr hi.ts _ _ hrv
      have hkv := dec_KVs hi.hr Ko rv y _ hk h2
      have hlive : ∀ i ∈ rv.rows, σ'.blk i ≠ none := dec_rows_live Ko rv y hk
      have hown : ∀ b, rowF L' rv.rows b → w.heap.size ≤ b ∧ b < w'.heap.size := by
        rintro b ⟨i, hi', l, o, q1, q2⟩
        cases hbk : σ'.blk i with
        | none => exact absurd hbk (hlive i hi')
        | some bk =>
          obtain ⟨l', e1, _, e2⟩ := hi.hr.blk i bk hbk
          rw [q1] at e1; cases e1
          exact ⟨(e2 b o q2).1, (e2 b o q2).2.1⟩
      refine ⟨hi.df, _, run_results h1, _, _, rfl, hkv, ⟨hgr.sz, hgr.csz, hgr.frame, fun b hb => .inl (hgr.fle b hb), fun b hb => hb.elim (hgr.fnew b) fun h => .inr (hown b h).1, hgr.env⟩, fun b hb => hb.elim (hi.hr.fb b) fun h => (hown b h).2⟩
    cases e with
    | normal => exact fin hk
    | ret => exact fin hk
    | exit id => cases hk

theorem fn_sound (c : Cx) (hS : SpecOK c.S c.P c.gl) (hm : c.P.follows .mixedOrders = true) (hgl : GlOk c.gl) {id : Nat} {fn : Func} {code : Code} (hfn : c.P.funcs[id]? = some fn) (hname : (fn.name == "runtime.NumGoroutine") = false) (hb : fn.body = some code) (hok : okC fn.ntmps code = true) {Ka Ko : Kd} (hlen : Nat.ble Ka.len fn.ntmps = true)
    {f : Ka.T → Bool × Ko.T} (hrun : ∀ x, (f x).1 = true → ∃ fuel, runD { c with fuel := fuel } fn code Ka Ko x = some (f x).2) : FnOK c.P c.gl id (fnS Ka Ko f) := by
  refine ⟨fun args hp key r hr => ⟨fn, code, hfn, hname, hb⟩, fun args hp key v Δ hr F L w B0 vs hh hB hf hg hcv => ?_⟩
  unfold fnS at hr
  split at hr
  case h_2 => cases hr
  rename_i x hx
  simp only [Option.some.injEq, Prod.mk.injEq] at hr
  obtain ⟨hx1, rfl, rfl⟩ := hr
  obtain ⟨fuel, hrun⟩ := hrun x hx1
  have hkv := dec_KVs hh Ka args x vs hx hcv
  have hlive : ∀ i ∈ args.rows, hp i ≠ none := dec_rows_live Ka args x hx
  refine Calls.mono (call_sound { c with fuel := fuel } hS hm hgl hfn hb hok (Nat.le_of_ble_eq_true hlen) hrun (F := fun b => F b ∨ rowF L args.rows b) (fun b hb => hb.elim (hh.fb b) (rowF_lt hh hlive)) (GS_any hgl (GS_mono (fun _ h => .inl h) (fun _ _ h => h) (WL.refl _ _) hg)) hkv) ?_
  rintro e w' ⟨vs', F', rfl, h1, h2, h3⟩
  have frame : ∀ b, b < w.heap.size → w'.heap[b]? = w.heap[b]? := fun b hb => h2.frame b (by omega)
  cases hfl : Ko.flat with
  | true =>
    refine ⟨_, F, L, rfl, ?_⟩
    simp only [if_true]
    exact ⟨outV_sound Ko _ _ (KVs_flat Ko hfl _ _ h1), fun _ h => h, fun _ _ h => h, fun _ _ h => .inl h, h2.sz, h2.csz, fun b hb => Nat.lt_of_lt_of_le (hh.fb b hb) h2.sz, fun _ h => .inl h, fun b hb _ => frame b hb, fun _ _ h => (by cases h), fun _ _ _ _ _ _ _ _ _ _ h => (by cases h), fun _ h => absurd rfl h, h2.env⟩
  | false =>
    refine ⟨_, F', L, rfl, ?_⟩
    simp only [Bool.false_eq_true, if_false]
    have nokill : ∀ i bk, lk (kill args.rows) i ≠ some (some bk) := by
      intro i bk h
      by_cases hm : i ∈ args.rows
      · have := lk_kill_mem (ids := args.rows) (r := ([] : Eff)) hm
        rw [List.append_nil] at this
        rw [this] at h; cases h
      · have := lk_kill_not (ids := args.rows) (r := ([] : Eff)) hm
        rw [List.append_nil] at this
        rw [this] at h; cases h
    have killed : ∀ i, lk (kill args.rows) i ≠ none → i ∈ args.rows := by
      intro i h
      apply Classical.byContradiction
      intro hm
      have := lk_kill_not (ids := args.rows) (r := ([] : Eff)) hm
      rw [List.append_nil] at this
      rw [this] at h; exact h rfl
    refine ⟨outV_sound Ko _ _ h1, fun b hb => h2.fle b (.inl hb), fun _ _ h => h, fun _ _ h => .inl h, h2.sz, h2.csz, h3, fun b hb => ?_, fun b hb _ => frame b hb, fun i bk h => (nokill i bk h).elim, fun i _ bk _ _ _ _ _ _ _ h => (nokill i bk h).elim, fun i h => .inl (hlive i (killed i h)), h2.env⟩
    rcases h2.fnew b hb with (h | ⟨i, hi, l, o, q1, q2⟩) | h
    · exact .inl h
    · have := lk_kill_mem (ids := args.rows) (r := ([] : Eff)) hi
      rw [List.append_nil] at this
      exact .inr (.inr ⟨i, l, o, this, q1, q2⟩)
    · exact .inr (.inl h)

end Go.Proofs.Ytkmeimhapokdlaa.Ae
