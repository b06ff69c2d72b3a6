/- One operation, whichever. Lemmas alone. -/
import Derived.Test.YtkmeimhapokdlaaAe16m
set_option linter.unusedVariables false
set_option linter.unusedSimpArgs false
namespace Go.Proofs.Ytkmeimhapokdlaa.Ae
open Go

/-- What is said of a callee holds. -/
structure SpecOK (S : Specs) (P : Program) (gl : Nat → Option AV) : Prop where
  there : ∀ f args hp key r, S f args hp key = some r → ∃ fn c, P.funcs[f]? = some fn ∧ (fn.name == "runtime.NumGoroutine") = false ∧ fn.body = some c
  calls : ∀ f args hp key v Δ, S f args hp key = some (true, v, Δ) → ∀ (F : FS) (L : LM) (w : World) (B0 : FS) (vs : List Value), HR F L hp w B0 → (∀ b, w.heap.size ≤ b → B0 b) → Fresh L key → GS gl F L w → CV F L w args vs →
    Calls P f vs.toArray w fun e w' => ∃ v' F' L', e = .returned v' ∧ Post F L w B0 hp key v Δ F' L' w' v'

section
variable {F F' : FS} {L : LM} {w w' : World} {P : Program} {hp : Hp} {B0 : FS} {key : Nat} {S : Specs} {gl : Nat → Option AV} {get : Nat → AV} {a : Act}

theorem CV_app : ∀ (a b : AV) (xs ys : List Value), CV F L w a xs → CV F L w b ys → CV F L w (chainApp a b) (xs ++ ys)
  | .nil, b, xs, ys, h, h' => by simp only [CV] at h; subst h; exact h'
  | .cons a a', b, xs, ys, h, h' => by
    simp only [CV] at h
    obtain ⟨v, vs', rfl, h1, h2⟩ := h
    simp only [chainApp, CV, List.cons_append]
    exact ⟨v, _, rfl, h1, CV_app a' b vs' ys h2 h'⟩
  | .undef, _, _, _, h, _ | .dead, _, _, _, h, _ | .int _ _, _, _, _, h, _ | .bool _, _, _, _, h, _ | .str _, _, _, _, h, _ | .nilp, _, _, _, h, _ | .ptr _ _ _, _, _, _, h, _ | .rptr _ _ _ _, _, _, _, h, _ | .nils, _, _, _, h, _ | .rs _ _ _ _, _, _, _, h, _ | .hs _ _ _, _, _, _, h, _ | .hw _, _, _, _, h, _ | .nilm, _, _, _, h, _ | .mapv _, _, _, _, h, _ | .nilf, _, _, _, h, _
  | .fn _ _ _, _, _, _, h, _ | .nili, _, _, _, h, _ | .iface _ _, _, _, _, h, _ | .arr _ _ _, _, _, _, h, _ | .tup _, _, _, _, h, _ => by simp only [CV] at h

theorem head_VV {x : AV} {v : Value} (hp : x.isTup = false) (h : (x = .undef ∧ v = Go.undef) ∨ x = .dead ∨ (bif x.isAgg then ∃ c : List Value, v = .agg c.toArray ∧ VR F L w x c else VR F L w x [v])) : VV F L w x v := by
  rcases h with ⟨rfl, rfl⟩ | rfl | h
  · rfl
  · trivial
  · cases x <;> first | exact h | (simp [AV.isTup] at hp; done) | (simp [AV.isAgg, VR] at h; done) | trivial

theorem CV_one {x : AV} {vs : List Value} (h : CV F L w (.cons x .nil) vs) : ∃ v, vs = [v] ∧ (x.isTup = false → VV F L w x v) := by
  simp only [CV] at h
  obtain ⟨v, vs', rfl, h1, rfl⟩ := h
  exact ⟨v, rfl, fun hp => head_VV hp h1⟩

theorem CV_two {x y : AV} {vs : List Value} (h : CV F L w (.cons x (.cons y .nil)) vs) : ∃ v u, vs = [v, u] ∧ (x.isTup = false → VV F L w x v) ∧ (y.isTup = false → VV F L w y u) := by
  simp only [CV] at h
  obtain ⟨v, vs', rfl, h1, u, vs'', rfl, h2, rfl⟩ := h
  exact ⟨v, u, rfl, fun hp => head_VV hp h1, fun hp => head_VV hp h2⟩

theorem parts_sound (hg : GS gl F L w) (ht : TS F L w get a) : ∀ (ps : List (Nat × Operand)) (l : List (Nat × AV)), parts gl get ps = some l → PV F L w l (ps.map fun (i, x) => (i, a.eval x))
  | [], l, h => by cases h; trivial
  | (i, x) :: ps, l, h => by
    simp only [parts] at h
    split at h
    case h_2 => cases h
    rename_i v hv
    split at h
    case h_2 => cases h
    rename_i r hr
    cases h
    exact ⟨rfl, opnd_sound hg ht hv, parts_sound hg ht ps r hr⟩

theorem optnd_sound (hg : GS gl F L w) (ht : TS F L w get a) {x : Option Operand} {r : Option AV} (h : optnd gl get x = some r) : OV F L w r (x.map a.eval) := by
  cases x with
  | none => cases h; trivial
  | some x =>
    simp only [optnd] at h
    split at h
    case h_2 => cases h
    rename_i v hv
    cases h
    exact opnd_sound hg ht hv

/-- How an operation that gives a value goes on. -/
theorem wp_value {o : Oper} {s : Sem Value} {u : Value} {v : AV} {Δ : Eff} {L' : LM} {next : Act → World → Prop} {Q : Exit → Act → World → Prop} (he : execOp a.eval o = (do pure (.value (← s)))) (hr : s.run P w = .ok u w') (hpo : Post F L w B0 hp key v Δ F' L' w' u)
    (hn : ∀ v' w' F' L', Post F L w B0 hp key v Δ F' L' w' v' → next (a.put o.dst v') w') : o.wp P a w next Q := by
  unfold Oper.wp
  rw [he]
  simp only [Sem.run_bind, hr, Result.andThen_ok, Sem.run_pure, Oper.upon_value]
  exact hn _ _ _ _ hpo

theorem call'_sound (hS : SpecOK S P gl) (hh : HR F L hp w B0) (hB : ∀ b, w.heap.size ≤ b → B0 b) (hf : Fresh L key) (hg : GS gl F L w) (ht : TS F L w get a) {o : Oper} {c : Call} (hop : o.op = .call c) {v : AV} {Δ : Eff} (h : call' S P gl get hp key c = some (true, v, Δ)) {next : Act → World → Prop} {Q : Exit → Act → World → Prop}
    (hn : ∀ v' w' F' L', Post F L w B0 hp key v Δ F' L' w' v' → next (a.put o.dst v') w') : o.wp P a w next Q := by
  unfold call' at h
  split at h
  case h_2 => cases h
  rename_i args hargs
  have ha := opnds_sound hg ht _ _ hargs
  have nt : ∀ x l, opnds gl get l = some x → ∀ y z, x = .cons y z → y.isTup = false := by
    intro x l
    cases l with
    | nil => intro h y z e; cases h; cases e
    | cons q l =>
      intro h y z e
      simp only [opnds] at h
      split at h
      case h_2 => cases h
      split at h
      · cases h
      rename_i hn
      split at h
      case h_2 => cases h
      cases h; cases e; exact hn
  have nt2 : ∀ x l, opnds gl get l = some x → ∀ y z u, x = .cons u (.cons y z) → y.isTup = false := by
    intro x l
    cases l with
    | nil => intro h y z u e; cases h; cases e
    | cons q l =>
      intro h y z u e
      simp only [opnds] at h
      split at h
      case h_2 => cases h
      split at h
      · cases h
      split at h
      case h_2 => cases h
      rename_i r hr
      cases h; cases e; exact nt _ _ hr y z rfl
  have hmap : c.args.map a.eval = (c.args.toList.map a.eval).toArray := by apply Array.ext'; simp
  have he : ∀ b, c.callee = .builtin b → execOp a.eval o = builtin b c.argTypes o.type (c.args.map fun | .const _ => true | _ => false) (c.args.toList.map a.eval).toArray := by
    intro b hb
    rw [← hmap]
    simp [execOp, hop, resolve, hb, invoke]
    rfl
  split at h
  · rename_i hcal
    split at h
    · rename_i s x
      obtain ⟨sv, xv, hvs, h1, h2⟩ := CV_two ha
      obtain ⟨w', v', L', hr, hpst⟩ := append'_sound (ty := o.type) hh hB hf (h1 (nt _ _ hargs _ _ rfl)) (h2 (nt2 _ _ hargs _ _ _ rfl)) h
      refine wp_value (s := Builtin.append_ c.argTypes o.type #[sv, xv]) ?_ hr hpst hn
      rw [he _ hcal, hvs]; rfl
    · cases h
  · rename_i hcal
    split at h
    · rename_i x
      obtain ⟨xv, hvs, h1⟩ := CV_one ha
      obtain ⟨u, hr, hv, rfl⟩ := len'_sound (P := P) (ty := o.type) hh (h1 (nt _ _ hargs _ _ rfl)) h
      refine wp_value (s := Builtin.len_ c.argTypes o.type #[xv]) ?_ hr (Post.quiet hh hv) hn
      rw [he _ hcal, hvs]; rfl
    · cases h
  · rename_i hcal
    split at h
    case h_2 => cases h
    rename_i u hu
    cases h
    obtain ⟨u, hr, hv⟩ := minmax_sound (P := P) (ts := c.argTypes) (ty := o.type) ha hu
    refine wp_value (s := Builtin.min_ c.argTypes o.type (c.args.toList.map a.eval).toArray) ?_ hr (Post.quiet hh hv) hn
    rw [he _ hcal]; rfl
  · rename_i hcal
    split at h
    case h_2 => cases h
    rename_i u hu
    cases h
    obtain ⟨u, hr, hv⟩ := minmax_sound (P := P) (ts := c.argTypes) (ty := o.type) ha hu
    refine wp_value (s := Builtin.max_ c.argTypes o.type (c.args.toList.map a.eval).toArray) ?_ hr (Post.quiet hh hv) hn
    rw [he _ hcal]; rfl
  · rename_i f hcal
    split at h
    case h_2 => cases h
    rename_i g first cap hfn
    have hv := opnd_sound hg ht hfn
    replace hv := VV_one rfl rfl hv
    simp only [VR, List.cons.injEq, and_true] at hv
    obtain ⟨xs, ys, e1, e2, e3⟩ := hv
    obtain ⟨fn, cd, t1, t2, t3⟩ := hS.there _ _ _ _ _ h
    have hcv := CV_app _ _ _ _ e2 (CV_app _ _ _ _ ha e3)
    have hcall := hS.calls _ _ _ _ _ _ h F L w B0 _ hh hB hf hg hcv
    unfold Oper.wp
    have hrun : (execOp a.eval o).run P w = .ok (.enter g (xs ++ (c.args.toList.map a.eval ++ ys)).toArray) w := by
      have harr : (xs ++ (c.args.toList.map a.eval ++ ys)).toArray = xs.toArray ++ c.args.map a.eval ++ ys.toArray := by rw [hmap]; simp
      have t2' : ¬ fn.name = "runtime.NumGoroutine" := by simpa using t2
      rw [harr]
      simp [execOp, hop, resolve, hcal, e1, Deferred.ofValue, invoke, callFunc, t1, t2', t3]
    rw [hrun, Oper.upon_enter]
    refine Calls.mono hcall fun e w' he => ?_
    obtain ⟨v', F', L', rfl, hp'⟩ := he
    exact hn _ _ _ _ hp'
  · cases h

theorem op_sound (hS : SpecOK S P gl) (hh : HR F L hp w B0) (hB : ∀ b, w.heap.size ≤ b → B0 b) (hf : Fresh L key) (hg : GS gl F L w) (ht : TS F L w get a) {o : Oper} {v : AV} {Δ : Eff} (h : opE S P gl get hp key o = some (true, v, Δ)) {next : Act → World → Prop} {Q : Exit → Act → World → Prop}
    (hn : ∀ v' w' F' L', Post F L w B0 hp key v Δ F' L' w' v' → next (a.put o.dst v') w') : o.wp P a w next Q := by
  have O : ∀ {x : Operand} {v : AV}, opnd gl get x = some v → VV F L w v (a.eval x) := fun h => opnd_sound hg ht h
  have V1 : ∀ {s : Sem Value} {u : Value} {v : AV} {Δ : Eff}, execOp a.eval o = (do pure (.value (← s))) → s.run P w = .ok u w → VV F L w v u → Δ = [] → (∀ v' w' F' L', Post F L w B0 hp key v Δ F' L' w' v' → next (a.put o.dst v') w') → o.wp P a w next Q := by
    intro s u v Δ he hr hv hd hn
    subst hd
    exact wp_value he hr (Post.quiet hh hv) hn
  have V0 : ∀ {u : Value} {v : AV}, execOp a.eval o = pure (.value u) → VV F L w v u → (∀ v' w' F' L', Post F L w B0 hp key v [] F' L' w' v' → next (a.put o.dst v') w') → o.wp P a w next Q := by
    intro u v he hv hn
    unfold Oper.wp
    rw [he]
    simp only [Sem.run_pure, Oper.upon_value]
    exact hn _ _ _ _ (Post.quiet hh hv)
  obtain ⟨dst, op, type, pos, after, guard⟩ := o
  cases op <;> simp only [opE, reduceCtorEq] at h
  case call c => exact call'_sound hS hh hB hf hg ht rfl h hn
  case move x =>
    split at h
    case h_2 => cases h
    rename_i u hu
    cases h
    exact V0 rfl (O hu) hn
  case assign x =>
    split at h
    case h_2 => cases h
    rename_i u hu
    cases h
    exact V0 rfl (O hu) hn
  case pick c x y =>
    split at h
    case h_2 => cases h
    rename_i u hu
    split at h
    case h_2 => cases h
    rename_i b
    split at h
    case h_2 => cases h
    rename_i r hr
    cases h
    have hb := VV_bool (O hu)
    refine V0 (u := if b then a.eval x else a.eval y) ?_ ?_ hn
    · simp only [execOp, hb, asBool]
      cases b <;> rfl
    · cases b
      · exact O hr
      · exact O hr
  case alloc t =>
    split at h
    case h_2 => cases h
    rename_i z hz
    cases h
    obtain ⟨w', u, L', h1, h2⟩ := alloc_sound (P := P) hh hB hf hz
    exact wp_value rfl h1 h2 hn
  case box t x =>
    split at h
    case h_2 => cases h
    rename_i u hu
    have hpl : u.plain = true ∧ v = .ptr key 0 [] ∧ Δ = [(key, some (.box u))] := by
      cases u <;> first | (cases h; done) | (cases h; exact ⟨rfl, rfl, rfl⟩)
    obtain ⟨hpl, rfl, rfl⟩ := hpl
    obtain ⟨w', u, L', h1, h2⟩ := box_sound (P := P) (t := t) hh hB hf hpl (O hu)
    exact wp_value rfl h1 h2 hn
  case build t ps =>
    split at h
    case h_2 => cases h
    rename_i l hl
    obtain ⟨u, h1, h2, h3⟩ := build'_sound (P := P) (m := ps.map fun (i, x) => (i, a.eval x)) hh.fb (by simpa using parts_sound hg ht _ _ hl) h
    exact V1 rfl h1 h2 h3 hn
  case buildSlice t n ps =>
    split at h
    case h_2 => cases h
    rename_i l hl
    obtain ⟨w', u, F', L', h1, h2⟩ := buildSlice'_sound (P := P) (m := ps.map fun (i, x) => (i, a.eval x)) hh hB hf (by simpa using parts_sound hg ht _ _ hl) h
    exact wp_value rfl h1 h2 hn
  case load t x =>
    split at h
    case h_2 => cases h
    rename_i u hu
    obtain ⟨u, h1, h2, h3⟩ := load'_sound (P := P) hh (O hu) h
    exact V1 rfl h1 h2 h3 hn
  case store t x y =>
    split at h
    case h_2 => cases h
    rename_i u hu
    split at h
    case h_2 => cases h
    rename_i r hr
    obtain ⟨w', F', L', h1, rfl, h3⟩ := store'_sound (P := P) (key := key) hh (O hu) (O hr) h
    unfold Oper.wp
    have : (execOp a.eval { dst, op := .store t x y, type, pos, after, guard }).run P w = .ok .skip w' := by
      simp [execOp, h1]
    rw [this, Oper.upon_skip]
    exact hn _ _ _ _ h3
  case nilCheck x =>
    split at h
    case h_2 => cases h
    rename_i u hu
    have hv := O hu
    unfold nilCheck' at h
    split at h
    · cases h
      have hv' := VV_one rfl rfl hv
      simp only [VR, List.cons.injEq, and_true] at hv'
      obtain ⟨l, b, o, d, s, e1, e2, e3, e4, e5⟩ := hv'
      rw [e5] at hv
      refine V0 ?_ hv hn
      simp only [execOp, e5]
    · cases h
      have hv' := VV_one rfl rfl hv
      simp only [VR, List.cons.injEq, and_true] at hv'
      obtain ⟨b, o, d, s, e1, e2, e3, e4, e5⟩ := hv'
      rw [e5] at hv
      refine V0 ?_ hv hn
      simp only [execOp, e5]
    · cases h
      have hv' := VV_one rfl rfl hv
      simp only [VR, List.cons.injEq, and_true] at hv'
      obtain ⟨xs, ys, e1, e2, e3⟩ := hv'
      rw [e1] at hv
      refine V0 ?_ hv hn
      simp only [execOp, e1]
    · cases h
  case binOp op t x y b =>
    split at h
    case h_2 => cases h
    rename_i u hu
    split at h
    case h_2 => cases h
    rename_i r hr
    obtain ⟨u, h1, h2, h3⟩ := binOp'_sound (P := P) (ox := x) (oy := y) (O hu) (O hr) h
    exact V1 rfl h1 h2 h3 hn
  case unOp op t x =>
    split at h
    case h_2 => cases h
    rename_i u hu
    obtain ⟨u, h1, h2, h3⟩ := unOp'_sound (P := P) (O hu) h
    exact V1 rfl h1 h2 h3 hn
  case convert s d x =>
    split at h
    case h_2 => cases h
    rename_i u hu
    unfold convB at h
    split at h
    · rename_i hs hd
      split at h
      case h_2 => cases h
      rename_i a' xs he hid
      split at h
      case isFalse => cases h
      rename_i hsd
      subst hsd
      simp only [Option.some.injEq, Prod.mk.injEq, true_and] at h
      obtain ⟨rfl, rfl⟩ := h
      rw [hs] at hd; cases hd
      obtain ⟨w', u, h1, h2⟩ := marked_sound (P := P) (key := key) hh (O hu) hs he hid
      exact wp_value rfl h1 h2 hn
    · obtain ⟨u, h1, h2, h3⟩ := convert'_sound (P := P) hh (O hu) h
      exact V1 rfl h1 h2 h3 hn
  case makeFunc f xs ys =>
    split at h
    case h_2 => cases h
    rename_i p q hp' hq'
    cases h
    refine V1 (u := .func f (xs.map a.eval) (ys.map a.eval)) rfl rfl ?_ rfl hn
    refine VV_mk1 rfl rfl ?_
    simp only [VR]
    refine ⟨xs.toList.map a.eval, ys.toList.map a.eval, ?_, opnds_sound hg ht _ _ hp', opnds_sound hg ht _ _ hq'⟩
    congr 2 <;> apply Array.ext' <;> simp
  case makeSlice t x y =>
    split at h
    case h_2 => cases h
    rename_i u hu
    split at h
    case h_2 => cases h
    rename_i r hr
    obtain ⟨w', u, L', h1, h2⟩ := makeSlice'_sound (P := P) hh hB hf (O hu) (O hr) h
    exact wp_value rfl h1 h2 hn
  case makeMap t r =>
    cases r with
    | some _ => cases h
    | none =>
      obtain ⟨w', u, L', h1, h2⟩ := makeMap'_sound (P := P) hh hB hf h
      exact wp_value rfl h1 h2 hn
  case lookup t x k ok =>
    split at h
    case h_2 => cases h
    rename_i u hu
    split at h
    case h_2 => cases h
    rename_i r hr
    obtain ⟨u, h1, h2, h3⟩ := lookup'_sound (P := P) hh (O hu) (O hr) h
    exact V1 rfl h1 h2 h3 hn
  case mapUpdate t x k y =>
    split at h
    case h_2 => cases h
    rename_i u hu
    split at h
    case h_2 => cases h
    rename_i r hr
    split at h
    case h_2 => cases h
    rename_i s hs
    obtain ⟨w', h1, rfl, h3⟩ := mapUpdate'_sound (P := P) (key := key) hh (O hu) (O hr) (O hs) h
    unfold Oper.wp
    have : (execOp a.eval { dst, op := .mapUpdate t x k y, type, pos, after, guard }).run P w = .ok .skip w' := by
      simp [execOp, h1]
    rw [this, Oper.upon_skip]
    exact hn _ _ _ _ h3
  case insert t x k y =>
    split at h
    case h_2 => cases h
    rename_i u hu
    split at h
    case h_2 => cases h
    rename_i r hr
    split at h
    case h_2 => cases h
    rename_i s hs
    obtain ⟨w', h1, rfl, h3⟩ := mapUpdate'_sound (P := P) (key := key) hh (O hu) (O hr) (O hs) h
    unfold Oper.wp
    have : (execOp a.eval { dst, op := .insert t x k y, type, pos, after, guard }).run P w = .ok .skip w' := by
      simp [execOp, h1]
    rw [this, Oper.upon_skip]
    exact hn _ _ _ _ h3
  case slice t x lo hi mx =>
    split at h
    case h_2 => cases h
    rename_i u hu
    split at h
    case h_2 => cases h
    rename_i l h' m hl hh' hm
    obtain ⟨u, h1, h2, h3⟩ := slice'_sound (P := P) hh (O hu) (optnd_sound hg ht hl) (optnd_sound hg ht hh') (optnd_sound hg ht hm) h
    exact V1 rfl h1 h2 h3 hn
  case fieldAddr s x f =>
    split at h
    case h_2 => cases h
    rename_i u hu
    obtain ⟨u, h1, h2, h3⟩ := fieldAddr'_sound (P := P) hh (O hu) h
    exact V1 rfl h1 h2 h3 hn
  case field t x f =>
    split at h
    case h_2 => cases h
    rename_i u hu
    obtain ⟨u, h1, h2, h3⟩ := field'_sound (P := P) (O hu) h
    exact V1 rfl h1 h2 h3 hn
  case indexAddr t x i =>
    split at h
    case h_2 => cases h
    rename_i u hu
    split at h
    case h_2 => cases h
    rename_i r hr
    obtain ⟨u, h1, h2, h3⟩ := indexAddr'_sound (P := P) hh (O hu) (O hr) h
    exact V1 rfl h1 h2 h3 hn
  case index t x i =>
    split at h
    case h_2 => cases h
    rename_i u hu
    split at h
    case h_2 => cases h
    rename_i r hr
    obtain ⟨u, h1, h2, h3⟩ := index'_sound (P := P) (O hu) (O hr) h
    exact V1 rfl h1 h2 h3 hn
  case extract x i =>
    split at h
    case h_2 => cases h
    rename_i u hu
    split at h
    case h_2 => cases h
    rename_i vs
    split at h
    case h_2 => cases h
    rename_i r hr
    cases h
    obtain ⟨u, h1, h2⟩ := extract_sound (P := P) (O hu) hr
    exact V1 rfl h1 h2 rfl hn

end
end Go.Proofs.Ytkmeimhapokdlaa.Ae
