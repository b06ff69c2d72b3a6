/- Calls whose arguments and results hold memory of their own. Lemmas alone. -/
import Derived.Test.YtkmeimhapokdlaaAe27
set_option linter.unusedVariables false
set_option linter.unusedSimpArgs false
namespace Go.Proofs.Ytkmeimhapokdlaa.Ae
open Go

/-- What is given back of the arguments' boxes. -/
def Md.backs : Md → Md
  | .bx m => m
  | .cons a b => .cons a.backs b.backs
  | .fn _ a b => .cons a.backs b.backs
  | _ => .nil

/-- The numbers of these boxes. -/
def Md.pins : Md → Nat → List Nat
  | .bx _, n => [n]
  | .cons a b, n => a.pins n ++ b.pins (n + a.cnt)
  | .fn _ a b, n => a.pins n ++ b.pins (n + a.cnt)
  | _, _ => []

def decB (hp : Hp) : (m : Md) → Nat → Option (m.backs.T × List (Option Nat) × List Nat)
  | .bx m, n => match hp n with
    | some (.box u) => decM hp m u
    | _ => none
  | .cons a b, n => match decB hp a n with
    | some (x, ps, rs) => match decB hp b (n + a.cnt) with
      | some (y, qs, ts) => some ((x, y), ps ++ qs, rs ++ ts)
      | none => none
    | none => none
  | .fn _ a b, n => match decB hp a n with
    | some (x, ps, rs) => match decB hp b (n + a.cnt) with
      | some (y, qs, ts) => some ((x, y), ps ++ qs, rs ++ ts)
      | none => none
    | none => none
  | .ro _, _ => some ((), [], [])
  | .ow _, _ => some ((), [], [])
  | .mp _ _, _ => some ((), [], [])
  | .nil, _ => some ((), [], [])

/-- The caller's boxes, as they are given back. -/
def effB : (m : Md) → m.backs.T → AV → Nat → Eff
  | .bx m, z, v, n => match v with
    | .ptr id _ _ => [(id, some (.box (encM m z n)))]
    | _ => []
  | .cons a b, z, v, n => match v with
    | .cons u t => effB a z.1 u n ++ effB b z.2 t (n + a.backs.cnt)
    | _ => []
  | .fn _ a b, z, v, n => match v with
    | .fn _ u t => effB a z.1 u n ++ effB b z.2 t (n + a.backs.cnt)
    | _ => []
  | .ro _, _, _, _ => []
  | .ow _, _, _, _ => []
  | .mp _ _, _, _, _ => []
  | .nil, _, _, _ => []

def outA (v : AV) : AV := match v with
  | .cons u .nil => u
  | v => .tup v

/-- A function whose arguments and results are held so: what it answers, and what becomes of the blocks. -/
def fnM (ma mo : Md) (f : ma.T → Bool × (mo.T × ma.backs.T)) : AV → Hp → Nat → Res := fun args hp key => match decM hp ma args with
  | some (x, ps, rs) => bif apartP ps rs && Nat.ble (mo.cnt + ma.backs.cnt) 64 then
      some ((f x).1, outA (encM mo (f x).2.1 key), effB ma (f x).2.2 args (key + mo.cnt) ++ (blkM mo (f x).2.1 key ++ (blkM ma.backs (f x).2.2 (key + mo.cnt) ++ kill (srcIds ps ++ (bif mo.flat && ma.backs.flat then [] else rs)))))
    else none
  | none => none

def finM (P : Program) (fn : Func) (ma mo : Md) (e : Ex) (σ : St) : Option (mo.T × ma.backs.T) := match e with
  | .exit _ => none
  | _ => match resV P σ.get σ.blk fn.results.toList with
    | some v => match decM σ.blk mo v with
      | some (y, ps, rs) => match decB σ.blk ma 0 with
        | some (z, qs, ts) => bif apartP ((ps ++ qs) ++ (ma.pins 0).map some) (rs ++ ts) then some (y, z) else none
        | none => none
      | none => none
    | none => none

def runM (c : Cx) (fn : Func) (code : Code) (ma mo : Md) (x : ma.T) : Option (mo.T × ma.backs.T) :=
  evK c code 1 { tm := tmList 0 (encM ma x 0), hp := blkM ma x 0, nx := ma.cnt } (finM c.P fn ma mo)

section
variable {F F' Fst : FS} {L L0 L1 L' : LM} {w w' : World} {P : Program} {hp hp' : Hp} {B0 : FS}

theorem CV_len : ∀ (v : AV) (vs : List Value), CV F L w v vs → vs.length = chainLen v
  | .nil, vs, h => by simp only [CV] at h; subst h; rfl
  | .cons a b, vs, h => by
    simp only [CV] at h
    obtain ⟨v, vs', rfl, _, h2⟩ := h
    simp only [List.length_cons, chainLen, CV_len b vs' h2]
  | .undef, _, h | .dead, _, h | .int _ _, _, h | .bool _, _, h | .str _, _, h | .nilp, _, h | .ptr _ _ _, _, h | .rptr _ _ _ _, _, h | .nils, _, h | .rs _ _ _ _, _, h | .hs _ _ _, _, h | .hw _, _, h | .nilm, _, h | .mapv _, _, h | .nilf, _, h
  | .fn _ _ _, _, h | .nili, _, h | .iface _ _, _, h | .arr _ _ _, _, h | .tup _, _, h => by simp only [CV] at h

theorem encM_len : ∀ (m : Md) (x : m.T) (n : Nat), m.chain = true → chainLen (encM m x n) = m.len
  | .nil, _, _, _ => rfl
  | .cons a b, x, n, h => by simp only [encM, chainLen, Md.len]; rw [encM_len b x.2 _ h]
  | .ro _, _, _, h | .ow _, _, _, h | .mp _ _, _, _, h | .bx _, _, _, h | .fn _ _ _, _, _, h => by cases h

theorem tmList_CV : ∀ (v : AV) (vs : List Value) (i : Nat), CV F L w v vs → ∀ t, (∃ k, t = i + k ∧ k < vs.length ∧ VV F L w ((lk (tmList i v) t).getD .dead) (vs.getD k undef)) ∨ (lk (tmList i v) t).getD .dead = .dead
  | .nil, _, _, _, t => .inr rfl
  | .cons a b, vs, i, h, t => by
    simp only [CV] at h
    obtain ⟨v, vs', rfl, h1, h2⟩ := h
    simp only [tmList, lk]
    cases hb : Nat.beq i t with
    | true =>
      refine .inl ⟨0, by rw [Nat.eq_of_beq_eq_true hb]; rfl, by simp, ?_⟩
      simp only [cond_true, Option.getD_some, List.getD_cons_zero]
      rcases h1 with ⟨rfl, rfl⟩ | rfl | h1
      · rfl
      · trivial
      · cases a <;> first | exact h1 | (simp [AV.isAgg, VR] at h1; done) | trivial
    | false =>
      rcases tmList_CV b vs' (i + 1) h2 t with ⟨k, e1, e2, e3⟩ | e
      · exact .inl ⟨k + 1, by omega, by simpa using e2, by simpa using e3⟩
      · exact .inr e
  | .undef, _, _, _, t | .dead, _, _, _, t | .int _ _, _, _, _, t | .bool _, _, _, _, t | .str _, _, _, _, t | .nilp, _, _, _, t | .ptr _ _ _, _, _, _, t | .rptr _ _ _ _, _, _, _, t | .nils, _, _, _, t | .rs _ _ _ _, _, _, _, t | .hs _ _ _, _, _, _, t | .hw _, _, _, _, t | .nilm, _, _, _, t | .mapv _, _, _, _, t | .nilf, _, _, _, t
  | .fn _ _ _, _, _, _, t | .nili, _, _, _, t | .iface _ _, _, _, _, t | .arr _ _ _, _, _, _, t | .tup _, _, _, _, t => .inr rfl

/-- Rows that are read, and blocks that are taken, are there. -/
theorem decM_live : ∀ (m : Md) (v : AV) (x : m.T) (ps : List (Option Nat)) (rs : List Nat), decM hp m v = some (x, ps, rs) → (∀ i ∈ rs, hp i ≠ none) ∧ ∀ i, some i ∈ ps → hp i ≠ none
  | .ro K, v, x, ps, rs, h => by
    simp only [decM] at h
    split at h
    case h_2 => cases h
    rename_i y hy
    simp only [Option.some.injEq, Prod.mk.injEq] at h
    obtain ⟨rfl, rfl, rfl⟩ := h
    exact ⟨dec_rows_live K v _ hy, fun i hi => by simp at hi⟩
  | .ow K, v, x, ps, rs, h => by
    cases v <;> simp only [decM, reduceCtorEq] at h
    · simp only [Option.some.injEq, Prod.mk.injEq] at h
      obtain ⟨rfl, rfl, rfl⟩ := h
      exact ⟨fun i hi => by simp at hi, fun i hi => by simp at hi⟩
    all_goals
      split at h
      case h_2 => cases h
      rename_i y hy
      simp only [Option.some.injEq, Prod.mk.injEq] at h
      obtain ⟨rfl, rfl, rfl⟩ := h
      refine ⟨fun i hi => by simp at hi, fun i hi => ?_⟩
      simp only [List.mem_singleton, Option.some.injEq] at hi
      subst hi
      exact dec_rows_live (.sl K) _ _ hy _ (by simp [AV.rows])
  | .mp Kk Kv, v, x, ps, rs, h => by
    simp only [decM] at h
    split at h
    case h_2 => cases h
    split at h
    case h_2 => cases h
    rename_i hid
    split at h
    case h_2 => cases h
    simp only [Option.some.injEq, Prod.mk.injEq] at h
    obtain ⟨rfl, rfl, rfl⟩ := h
    refine ⟨fun i hi => by simp at hi, fun i hi => ?_⟩
    simp only [List.mem_singleton, Option.some.injEq] at hi
    subst hi
    rw [hid]; simp
  | .bx m, v, x, ps, rs, h => by
    simp only [decM] at h
    split at h
    case h_2 => cases h
    split at h
    case h_2 => cases h
    rename_i hid
    split at h
    case h_2 => cases h
    rename_i hy
    simp only [Option.some.injEq, Prod.mk.injEq] at h
    obtain ⟨rfl, rfl, rfl⟩ := h
    have ih := decM_live m _ _ _ _ hy
    refine ⟨ih.1, fun i hi => ?_⟩
    rcases List.mem_cons.1 hi with hi | hi
    · cases hi; rw [hid]; simp
    · exact ih.2 i hi
  | .fn f a b, v, x, ps, rs, h => by
    simp only [decM] at h
    split at h
    case h_2 => cases h
    rename_i g u t
    cases hb : (Nat.beq f g && (a.chain && b.chain)) with
    | false => rw [hb] at h; cases h
    | true =>
      rw [hb] at h
      simp only [cond_true] at h
      split at h
      case h_2 => cases h
      rename_i hy
      split at h
      case h_2 => cases h
      rename_i hz
      simp only [Option.some.injEq, Prod.mk.injEq] at h
      obtain ⟨rfl, rfl, rfl⟩ := h
      have i1 := decM_live a _ _ _ _ hy
      have i2 := decM_live b _ _ _ _ hz
      exact ⟨fun i hi => (List.mem_append.1 hi).elim (i1.1 i) (i2.1 i), fun i hi => (List.mem_append.1 hi).elim (i1.2 i) (i2.2 i)⟩
  | .nil, v, x, ps, rs, h => by
    simp only [decM] at h
    split at h
    case h_2 => cases h
    simp only [Option.some.injEq, Prod.mk.injEq] at h
    obtain ⟨_, rfl, rfl⟩ := h
    exact ⟨fun i hi => by simp at hi, fun i hi => by simp at hi⟩
  | .cons a b, v, x, ps, rs, h => by
    simp only [decM] at h
    split at h
    case h_2 => cases h
    split at h
    case h_2 => cases h
    rename_i hy
    split at h
    case h_2 => cases h
    rename_i hz
    simp only [Option.some.injEq, Prod.mk.injEq] at h
    obtain ⟨rfl, rfl, rfl⟩ := h
    have i1 := decM_live a _ _ _ _ hy
    have i2 := decM_live b _ _ _ _ hz
    exact ⟨fun i hi => (List.mem_append.1 hi).elim (i1.1 i) (i2.1 i), fun i hi => (List.mem_append.1 hi).elim (i1.2 i) (i2.2 i)⟩

theorem blkM_dom : ∀ (m : Md) (x : m.T) (n j : Nat), lk (blkM m x n) j ≠ none → n ≤ j ∧ j < n + m.cnt
  | .ro _, _, _, _, h | .nil, _, _, _, h => absurd rfl h
  | .ow K, x, n, j, h | .mp _ _, x, n, j, h => by
    simp only [blkM, lk_one] at h
    split at h
    · rename_i e; subst e; simp [Md.cnt]
    · exact absurd rfl h
  | .bx m, x, n, j, h => by
    simp only [blkM, lk] at h
    cases hb : Nat.beq n j with
    | true => have := Nat.eq_of_beq_eq_true hb; simp only [Md.cnt]; omega
    | false => rw [hb] at h; have := blkM_dom m x (n + 1) j h; simp only [Md.cnt]; omega
  | .fn _ a b, x, n, j, h | .cons a b, x, n, j, h => by
    simp only [blkM] at h
    simp only [Md.cnt]
    cases he : lk (blkM a x.1 n) j with
    | some y => have := blkM_dom a x.1 n j (by rw [he]; simp); omega
    | none => rw [lk_app_none he] at h; have := blkM_dom b x.2 _ j h; omega

theorem pins_box : ∀ (m : Md) (x : m.T) (n j : Nat), j ∈ m.pins n → n ≤ j ∧ j < n + m.cnt ∧ ∃ u, lk (blkM m x n) j = some (some (.box u))
  | .ro _, _, _, _, h | .nil, _, _, _, h | .ow _, _, _, _, h | .mp _ _, _, _, _, h => by simp [Md.pins] at h
  | .bx m, x, n, j, h => by
    simp only [Md.pins, List.mem_singleton] at h
    subst h
    exact ⟨Nat.le_refl _, by simp [Md.cnt], encM m x (j + 1), by simp [blkM, lk]⟩
  | .fn _ a b, x, n, j, h | .cons a b, x, n, j, h => by
    simp only [Md.pins, List.mem_append] at h
    simp only [Md.cnt, blkM]
    rcases h with h | h
    · obtain ⟨h1, h2, u, h3⟩ := pins_box a x.1 n j h
      exact ⟨h1, by omega, u, lk_app_some h3⟩
    · obtain ⟨h1, h2, u, h3⟩ := pins_box b x.2 _ j h
      refine ⟨by omega, by omega, u, ?_⟩
      rw [lk_app_none, h3]
      cases he : lk (blkM a x.1 n) j with
      | none => rfl
      | some y => have := blkM_dom a x.1 n j (by rw [he]; simp); omega

theorem not_disj {l m : List Nat} (h : disj l m = true) {i : Nat} (h1 : i ∈ l) (h2 : i ∈ m) : False := by
  induction l with
  | nil => cases h1
  | cons a l ih =>
    simp only [disj, Bool.and_eq_true, Bool.not_eq_true', List.contains_eq_mem, decide_eq_false_iff_not] at h
    rcases List.mem_cons.1 h1 with rfl | h1
    · exact h.1 h2
    · exact ih h.2 h1

/-- The state at a call's beginning. -/
theorem start_HR (hh : HR F L hp w B0) {m : Md} {args : AV} {x : m.T} {ps : List (Option Nat)} {rs : List Nat} (hd : decM hp m args = some (x, ps, rs)) (hap : apartP ps rs = true)
    (ho : OwnM (fun b => F b ∨ rowF L rs b) L w hp ps 0 (blkM m x 0) L1) : HR (fun b => F b ∨ rowF L rs b) L1 (fun id => (lk (blkM m x 0) id).join) w (fun b => w.heap.size ≤ b ∨ rowF L (srcIds ps) b) := by
  simp only [apartP, Bool.and_eq_true] at hap
  obtain ⟨hnd, hdj⟩ := hap
  have hlive := decM_live m args x ps rs hd
  have get : ∀ j bk, (lk (blkM m x 0) j).join = some bk → lk (blkM m x 0) j = some (some bk) := by
    intro j bk h
    cases he : lk (blkM m x 0) j with
    | none => rw [he] at h; cases h
    | some y => rw [he] at h; simp only [Option.join_some] at h; rw [h]
  have rlt : ∀ b, rowF L rs b → b < w.heap.size := fun b hb => rowF_lt hh hlive.1 hb
  refine ⟨fun j bk h => ?_, fun j j' l l' b o o' hne h1 h2 h3 h4 h5 h6 => ?_, fun b hb => hb.elim (hh.fb b) (rlt b)⟩
  · obtain ⟨l, e1, e2, e3⟩ := ho.has j bk (get j bk h)
    refine ⟨l, e1, e2, fun b o hb => ?_⟩
    obtain ⟨i, li, o', q1, q2, q3, q4⟩ := e3 b o hb
    have hi : i ∈ srcIds ps := mem_srcIds.2 (List.mem_of_getElem? q1)
    cases hbk : hp i with
    | none => exact absurd hbk q4
    | some bki =>
      obtain ⟨l2, g1, _, g2⟩ := hh.blk i bki hbk
      rw [q2] at g1; cases g1
      refine ⟨.inr ⟨i, hi, li, o', q2, q3⟩, (g2 b o' q3).2.1, ?_⟩
      rintro (hF | ⟨r, hr, lr, or', k1, k2⟩)
      · exact (g2 b o' q3).2.2 hF
      · exact hh.inj i r li lr b o' or' (fun e => not_disj hdj hr (e ▸ hi)) q4 (hlive.1 r hr) q2 k1 q3 k2
  · cases hj : (lk (blkM m x 0) j).join with
    | none => exact h1 hj
    | some bk =>
      cases hj' : (lk (blkM m x 0) j').join with
      | none => exact h2 hj'
      | some bk' =>
        obtain ⟨l2, e1, _, e3⟩ := ho.has j bk (get j bk hj)
        obtain ⟨l2', e1', _, e3'⟩ := ho.has j' bk' (get j' bk' hj')
        rw [h3] at e1; cases e1
        rw [h4] at e1'; cases e1'
        obtain ⟨i, li, oi, q1, q2, q3, q4⟩ := e3 b o h5
        obtain ⟨i', li', oi', q1', q2', q3', q4'⟩ := e3' b o' h6
        have hne' : i ≠ i' := by
          rintro rfl
          have := srcIds_ne (nodup_iff.1 hnd) q1 q1'
          omega
        exact hh.inj i i' li li' b oi oi' hne' q4 q4' q2 q2' q3 q3'

/-- What comes of a call at each form that its arguments may have. -/
def StartAt (c : Cx) (fn : Func) (code : Code) (ma mo : Md) (x : ma.T) (r : mo.T × ma.backs.T) : Prop := ∀ (F : FS) (L : LM) (w : World) (vs : List Value), CV F L w (encM ma x 0) vs →
  ∃ v0, CV F L w v0 vs ∧ evK c code 1 { tm := tmList 0 v0, hp := blkM ma x 0, nx := ma.cnt } (finM c.P fn ma mo) = some r

theorem StartAt.of_run {c : Cx} {fn : Func} {code : Code} {ma mo : Md} {x : ma.T} {r : mo.T × ma.backs.T} (h : runM c fn code ma mo x = some r) : StartAt c fn code ma mo x r := fun F L w vs hv => ⟨encM ma x 0, hv, h⟩

/-- A call. -/
theorem callM_sound (c : Cx) (hS : SpecOK c.S c.P c.gl) (hm : c.P.follows .mixedOrders = true) (hgl : GlOk c.gl) {id : Nat} {fn : Func} {code : Code} (hfn : c.P.funcs[id]? = some fn) (hb : fn.body = some code) (hok : okC fn.ntmps code = true)
    {ma mo : Md} (hma : ma.chain = true) (hlen : ma.len ≤ fn.ntmps) (hpin : c.pin = ma.pins 0) {x : ma.T} {r : mo.T × ma.backs.T} (hst : StartAt c fn code ma mo x r) (hh : HR F L hp w B0) (hg : GS c.gl F L w)
    {args : AV} {ps : List (Option Nat)} {rs : List Nat} (hd : decM hp ma args = some (x, ps, rs)) (hap : apartP ps rs = true) {vs : List Value} (hcv : CV F L w args vs) :
    Calls c.P id vs.toArray w fun e w' => ∃ vs' F' L' hp' v' L1 ps' rs' qs ts, e = .returned (if h : vs'.toArray.size = 1 then vs'.toArray[0] else .tuple vs'.toArray) ∧
      HR F' L' hp' w' (fun b => w.heap.size ≤ b ∨ rowF L (srcIds ps) b) ∧ Grow (fun b => w.heap.size ≤ b ∨ rowF L (srcIds ps) b) (fun b => F b ∨ rowF L rs b) w F' w' ∧ CV F' L' w' v' vs' ∧
      decM hp' mo v' = some (r.1, ps', rs') ∧ decB hp' ma 0 = some (r.2, qs, ts) ∧ apartP ((ps' ++ qs) ++ (ma.pins 0).map some) (rs' ++ ts) = true ∧ OwnM (fun b => F b ∨ rowF L rs b) L w hp ps 0 (blkM ma x 0) L1 ∧ Pin (ma.pins 0) L1 L' := by
  obtain ⟨L1, r1, r2, r3⟩ := (repack hh ma).2 args x ps rs vs 0 (fun _ => none) (fun b => F b ∨ rowF L rs b) hma hd hcv (fun _ _ _ => rfl) (.inr ⟨fun _ h => .inl h, fun _ h => .inr h⟩)
  have hl : vs.length = ma.len := by rw [CV_len _ _ r2, encM_len ma x 0 hma]
  obtain ⟨v0, r2, hrun⟩ := hst _ _ _ _ r2
  refine calls_of_wp hfn hb ?_
  have hsz : (vs.toArray ++ Array.replicate (fn.ntmps - vs.toArray.size) undef).size = fn.ntmps := by simp; omega
  have hr := start_HR hh hd hap r3
  refine ev_sound (nt := fn.ntmps) (B0 := fun b => w.heap.size ≤ b ∨ rowF L (srcIds ps) b) c hS hm hgl code 1 _ (finM c.P fn ma mo) r _ (fun b => F b ∨ rowF L rs b) L1 _ w hok hrun ⟨hr, fun b hb => .inl hb, GS_any hgl (GS_mono (fun _ h => .inl h) (fun _ _ h => h) (WL.refl _ _) hg), fun t => ?_, rfl, hsz⟩ (fun j hj => ?_) fun e σ' F' L' a' w' hi hfr hgr hpn hk => ?_
  · show VV _ _ w ((lk (tmList 0 v0) t).getD .dead) _
    rcases tmList_CV v0 vs 0 r2 t with ⟨k, e1, e2, e3⟩ | e
    · rw [Nat.zero_add] at e1
      subst e1
      have : (vs.toArray ++ Array.replicate (fn.ntmps - vs.toArray.size) undef).getD t undef = vs.getD t undef := by
        rw [Array.getD_eq_getD_getElem?, Array.getElem?_append_left (by simpa using e2)]
        simp
      rw [this]
      exact e3
    · rw [e]; trivial
  · simp only at hj
    exact r1 j (.inr (by omega))
  · rw [hpin] at hpn
    have fin : (match resV c.P σ'.get σ'.blk fn.results.toList with
        | some v => match decM σ'.blk mo v with
          | some (y, ps, rs) => match decB σ'.blk ma 0 with
            | some (z, qs, ts) => bif apartP ((ps ++ qs) ++ (ma.pins 0).map some) (rs ++ ts) then some (y, z) else none
            | none => none
          | none => none
        | none => none) = some r → a'.defers = [] ∧ ∃ v, (results fn a'.tmps).run c.P w' = .ok v w' ∧ ∃ vs' F' L' hp' v' L1 ps' rs' qs ts, Ending.returned v = .returned (if h : vs'.toArray.size = 1 then vs'.toArray[0] else .tuple vs'.toArray) ∧
          HR F' L' hp' w' (fun b => w.heap.size ≤ b ∨ rowF L (srcIds ps) b) ∧ Grow (fun b => w.heap.size ≤ b ∨ rowF L (srcIds ps) b) (fun b => F b ∨ rowF L rs b) w F' w' ∧ CV F' L' w' v' vs' ∧
          decM hp' mo v' = some (r.1, ps', rs') ∧ decB hp' ma 0 = some (r.2, qs, ts) ∧ apartP ((ps' ++ qs) ++ (ma.pins 0).map some) (rs' ++ ts) = true ∧ OwnM (fun b => F b ∨ rowF L rs b) L w hp ps 0 (blkM ma x 0) L1 ∧ Pin (ma.pins 0) L1 L' := by
      intro hk
      split at hk
      case h_2 => cases hk
      rename_i rv hrv
      split at hk
      case h_2 => cases hk
      rename_i y ps' rs' hy
      split at hk
      case h_2 => cases hk
      rename_i z qs ts hz
      cases hq : apartP ((ps' ++ qs) ++ (ma.pins 0).map some) (rs' ++ ts) with
      | false => rw [hq] at hk; cases hk
      | true =>
        rw [hq] at hk
        simp only [cond_true, Option.some.injEq] at hk
        subst hk
        obtain ⟨vs', h1, h2⟩ := resV_sound hi.hr hi.ts _ _ hrv
        exact ⟨hi.df, _, run_results h1, vs', F', L', σ'.blk, rv, L1, ps', rs', qs, ts, rfl, hi.hr, hgr, h2, hy, hz, hq, r3, hpn⟩
    cases e with
    | normal => exact fin hk
    | ret => exact fin hk
    | exit id => cases hk

end
end Go.Proofs.Ytkmeimhapokdlaa.Ae
