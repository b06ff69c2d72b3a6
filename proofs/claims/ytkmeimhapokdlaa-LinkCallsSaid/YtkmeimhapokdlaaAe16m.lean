/- Maps: making, looking up, writing. Lemmas alone. -/
import Derived.Test.YtkmeimhapokdlaaAe16
import Derived.MapKept
set_option linter.unusedVariables false
set_option linter.unusedSimpArgs false
namespace Go.Proofs.Ytkmeimhapokdlaa.Ae
open Go

section
variable {F : FS} {L : LM} {w w' : World} {P : Program} {hp : Hp} {B0 : FS} {key : Nat}

theorem enc_agg (K : Kd) (x : K.T) : (enc K x).isAgg = K.agg := by cases K <;> rfl
theorem enc_plain (K : Kd) (x : K.T) : (enc K x).plain = true := by cases K <;> rfl

theorem KV_VV {K : Kd} {x : K.T} {v : Value} (h : KV F w K x v) : VV F L w (enc K x) v := by
  obtain ⟨h1, h2, h3⟩ := h
  have hv := VR_enc (L := L) K x _ h1
  rw [VV_plain (enc_plain K x), enc_agg]
  cases hk : K.agg
  · rw [h3 hk] at hv; exact hv
  · obtain ⟨c, rfl⟩ := h2 hk
    exact ⟨c.toList, by simp, hv⟩

/-- Data read off a value without own rows. -/
theorem dec_KV (hf : ∀ b, F b → b < w.heap.size) {K : Kd} {v : AV} {x : K.T} {u : Value} (hd : dec (fun _ => none) K v = some x) (h : VV F L w v u) : KV F w K x u := by
  have hag : v.isAgg = K.agg ∧ v.plain = true := by
    cases K <;> cases v <;> first | exact ⟨rfl, rfl⟩ | (simp [dec] at hd)
  obtain ⟨c1, c2, c3⟩ := VV_cells hag.2 h
  rw [hag.1] at c2 c3
  exact ⟨dec_none_RK hf hd c1, c2, c3⟩

/-- The first entry with a key. -/
def midx (Kk Kv : Kd) : List (Kk.T × Kv.T) → Kk.T → Option Nat
  | [], _ => none
  | e :: l, k => bif keq Kk k e.1 then some 0 else (midx Kk Kv l k).map (· + 1)

theorem midx_get {Kk Kv : Kd} {k : Kk.T} : ∀ (es : List (Kk.T × Kv.T)), mget Kk Kv es k = ((midx Kk Kv es k).bind fun i => es[i]?).map (·.2)
  | [] => rfl
  | e :: l => by
    simp only [mget, midx]
    cases h : keq Kk k e.1 with
    | true => simp
    | false =>
      simp only [cond_false, midx_get l]
      cases midx Kk Kv l k <;> simp

theorem midx_put {Kk Kv : Kd} {k : Kk.T} {v : Kv.T} : ∀ (es : List (Kk.T × Kv.T)), mput Kk Kv es k v = match midx Kk Kv es k with | some i => es.set i (k, v) | none => es ++ [(k, v)]
  | [] => rfl
  | e :: l => by
    simp only [mput, midx]
    cases h : keq Kk k e.1 with
    | true => simp
    | false =>
      simp only [cond_false, midx_put l]
      cases midx Kk Kv l k <;> simp

theorem MR_get {Kk Kv : Kd} : ∀ {es : List (Kk.T × Kv.T)} {l : List MapEntry}, MR F w Kk Kv es l → ∀ (i : Nat) x, es[i]? = some x → ∃ e, l[i]? = some e ∧ KV F w Kk x.1 e.key ∧ KV F w Kv x.2 e.val
  | [], [], _, i, x, h => by simp at h
  | y :: es, e :: l, ⟨h1, h2, h3⟩, 0, x, h => by simp at h; subst h; exact ⟨e, rfl, h1, h2⟩
  | y :: es, e :: l, ⟨h1, h2, h3⟩, i + 1, x, h => by simpa using MR_get h3 i x (by simpa using h)
  | [], _ :: _, h, _, _, _ => h.elim
  | _ :: _, [], h, _, _, _ => h.elim

theorem MR_set {Kk Kv : Kd} : ∀ {es : List (Kk.T × Kv.T)} {l : List MapEntry}, MR F w Kk Kv es l → ∀ (i : Nat) x e, KV F w Kk x.1 e.key → KV F w Kv x.2 e.val → MR F w Kk Kv (es.set i x) (l.set i e)
  | [], [], _, _, _, _, _, _ => trivial
  | y :: es, e :: l, ⟨h1, h2, h3⟩, 0, x, e', k1, k2 => ⟨k1, k2, h3⟩
  | y :: es, e :: l, ⟨h1, h2, h3⟩, i + 1, x, e', k1, k2 => ⟨h1, h2, MR_set h3 i x e' k1 k2⟩
  | [], _ :: _, h, _, _, _, _, _ => h.elim
  | _ :: _, [], h, _, _, _, _, _ => h.elim

theorem MR_push {Kk Kv : Kd} {x : Kk.T × Kv.T} {e : MapEntry} (k1 : KV F w Kk x.1 e.key) (k2 : KV F w Kv x.2 e.val) : ∀ {es : List (Kk.T × Kv.T)} {l : List MapEntry}, MR F w Kk Kv es l → MR F w Kk Kv (es ++ [x]) (l ++ [e])
  | [], [], _ => ⟨k1, k2, trivial⟩
  | y :: es, e :: l, ⟨h1, h2, h3⟩ => ⟨h1, h2, MR_push k1 k2 h3⟩
  | [], _ :: _, h => h.elim
  | _ :: _, [], h => h.elim

theorem keq_eq : ∀ (K : Kd) (a b : K.T), keq K a b = true → a = b
  | .int _, a, b, h => by simpa [keq] using h
  | .bool, a, b, h => by simpa [keq] using h
  | .str, a, b, h => by simpa [keq, Go.MapKept.bytes_beq] using h
  | .nil, a, b, h => rfl
  | .cons A B, a, b, h => by
    simp only [keq, Bool.and_eq_true] at h
    exact Prod.ext (keq_eq A _ _ h.1) (keq_eq B _ _ h.2)
  | .arr _ (.int _), a, b, h => by simpa [keq] using h
  | .arr _ .bool, a, b, h => by simpa [keq] using h
  | .arr _ .str, _, _, h | .arr _ (.arr _ _), _, _, h | .arr _ (.sl _), _, _, h | .arr _ .nil, _, _, h | .arr _ (.cons _ _), _, _, h | .sl _, _, _, h => by simp [keq] at h

/-- Cells of data without slices are what the data says. -/
theorem RK_det : ∀ (K : Kd), keyKd K = true → ∀ (x : K.T) (cs cs' : List Value), RK F w K x cs → RK F w K x cs' → cs = cs'
  | .int _, _, _, _, _, h, h' => h.1.trans h'.1.symm
  | .bool, _, _, _, _, h, h' => Eq.trans (b := _) h (Eq.symm h')
  | .str, _, _, _, _, h, h' => Eq.trans (b := _) h (Eq.symm h')
  | .nil, _, _, _, _, h, h' => Eq.trans (b := _) h (Eq.symm h')
  | .cons A B, hk, x, cs, cs', ⟨a, b, e, h1, h2⟩, ⟨a', b', e', h1', h2'⟩ => by
    simp only [keyKd, Bool.and_eq_true] at hk
    rw [e, e', RK_det A hk.1 _ _ _ h1 h1', RK_det B hk.2 _ _ _ h2 h2']
  | .arr n (.int k), _, xs, cs, cs', h, h' => by
    refine List.ext_getElem? fun i => ?_
    by_cases hi : i < n
    · have l1 : i < xs.length := by rw [h.1.1]; exact hi
      have q1 := h.2.2 i _ _ (List.getElem?_eq_getElem l1) (List.getElem?_eq_getElem (by rw [h.2.1]; exact hi))
      have q2 := h'.2.2 i _ _ (List.getElem?_eq_getElem l1) (List.getElem?_eq_getElem (by rw [h'.2.1]; exact hi))
      have e1 := q1.1
      have e2 := q2.1
      simp only [List.cons.injEq, and_true] at e1 e2
      rw [List.getElem?_eq_getElem (by rw [h.2.1]; exact hi), List.getElem?_eq_getElem (by rw [h'.2.1]; exact hi), e1, e2]
    · rw [List.getElem?_eq_none (by rw [h.2.1]; omega), List.getElem?_eq_none (by rw [h'.2.1]; omega)]
  | .arr n .bool, _, xs, cs, cs', h, h' => by
    refine List.ext_getElem? fun i => ?_
    by_cases hi : i < n
    · have l1 : i < xs.length := by rw [h.1.1]; exact hi
      have e1 : [cs[i]'(by rw [h.2.1]; exact hi)] = [Value.bool xs[i]] := h.2.2 i _ _ (List.getElem?_eq_getElem l1) (List.getElem?_eq_getElem (by rw [h.2.1]; exact hi))
      have e2 : [cs'[i]'(by rw [h'.2.1]; exact hi)] = [Value.bool xs[i]] := h'.2.2 i _ _ (List.getElem?_eq_getElem l1) (List.getElem?_eq_getElem (by rw [h'.2.1]; exact hi))
      simp only [List.cons.injEq, and_true] at e1 e2
      rw [List.getElem?_eq_getElem (by rw [h.2.1]; exact hi), List.getElem?_eq_getElem (by rw [h'.2.1]; exact hi), e1, e2]
    · rw [List.getElem?_eq_none (by rw [h.2.1]; omega), List.getElem?_eq_none (by rw [h'.2.1]; omega)]
  | .arr _ .str, hk, _, _, _, _, _ | .arr _ (.arr _ _), hk, _, _, _, _, _ | .arr _ (.sl _), hk, _, _, _, _, _ | .arr _ .nil, hk, _, _, _, _, _ | .arr _ (.cons _ _), hk, _, _, _, _, _ | .sl _, hk, _, _, _, _, _ => by simp [keyKd] at hk

/-- Cells that are the same bits as themselves. -/
def bitly (v : Value) : Prop := ∀ n, Instr.sameBits n v v = true

theorem bitly_int (k : IntKind) (a : Int) : bitly (.int k a) := fun n => by cases n <;> simp [Instr.sameBits]
theorem bitly_bool (b : Bool) : bitly (.bool b) := fun n => by cases n <;> simp [Instr.sameBits]
theorem bitly_str (s : ByteArray) : bitly (.string s) := fun n => by cases n <;> simp [Instr.sameBits, Go.MapKept.bytes_beq]

theorem RK_bits : ∀ (K : Kd), keyKd K = true → ∀ (x : K.T) (cs : List Value), RK F w K x cs → ∀ c ∈ cs, bitly c
  | .int k, _, x, cs, h, c, hc => by rw [h.1] at hc; simp at hc; subst hc; exact bitly_int _ _
  | .bool, _, x, cs, h, c, hc => by rw [show cs = [.bool x] from h] at hc; simp at hc; subst hc; exact bitly_bool _
  | .str, _, x, cs, h, c, hc => by rw [show cs = [.string x] from h] at hc; simp at hc; subst hc; exact bitly_str _
  | .nil, _, x, cs, h, c, hc => by rw [show cs = [] from h] at hc; simp at hc
  | .cons A B, hk, x, cs, ⟨a, b, e, h1, h2⟩, c, hc => by
    simp only [keyKd, Bool.and_eq_true] at hk
    rw [e] at hc
    rcases List.mem_append.1 hc with hc | hc
    · exact RK_bits A hk.1 _ _ h1 c hc
    · exact RK_bits B hk.2 _ _ h2 c hc
  | .arr n (.int k), _, xs, cs, h, c, hc => by
    obtain ⟨i, hi, rfl⟩ := List.getElem_of_mem hc
    have q := h.2.2 i _ _ (List.getElem?_eq_getElem (by rw [h.1.1, ← h.2.1]; exact hi)) (List.getElem?_eq_getElem hi)
    have e := q.1
    simp only [List.cons.injEq, and_true] at e
    rw [e]; exact bitly_int _ _
  | .arr n .bool, _, xs, cs, h, c, hc => by
    obtain ⟨i, hi, rfl⟩ := List.getElem_of_mem hc
    have e : [cs[i]] = [Value.bool (xs[i]'(by rw [h.1.1, ← h.2.1]; exact hi))] := h.2.2 i _ _ (List.getElem?_eq_getElem (by rw [h.1.1, ← h.2.1]; exact hi)) (List.getElem?_eq_getElem hi)
    simp only [List.cons.injEq, and_true] at e
    rw [e]; exact bitly_bool _
  | .arr _ .str, hk, _, _, _, _, _ | .arr _ (.arr _ _), hk, _, _, _, _, _ | .arr _ (.sl _), hk, _, _, _, _, _ | .arr _ .nil, hk, _, _, _, _, _ | .arr _ (.cons _ _), hk, _, _, _, _, _ | .sl _, hk, _, _, _, _, _ => by simp [keyKd] at hk

theorem KV_same {K : Kd} (hk : keyKd K = true) {k k' : K.T} {v v' : Value} (h : KV F w K k v) (h' : KV F w K k' v') (he : keq K k k' = true) : v' = v ∧ Instr.sameBits 10000 v v = true := by
  obtain rfl := keq_eq K k k' he
  have hc := RK_det K hk _ _ _ h.1 h'.1
  have hb := RK_bits K hk _ _ h.1
  cases ha : K.agg
  · have e1 := h.2.2 ha
    have e2 := h'.2.2 ha
    rw [e1, e2] at hc
    simp only [List.cons.injEq, and_true] at hc
    refine ⟨hc.symm, hb v (by rw [e1]; simp) _⟩
  · obtain ⟨c, rfl⟩ := h.2.1 ha
    obtain ⟨c', rfl⟩ := h'.2.1 ha
    have e : c = c' := Array.toList_inj.1 hc
    subst e
    refine ⟨rfl, ?_⟩
    simp only [Instr.sameBits, beq_self_eq_true, Bool.true_and, List.all_eq_true]
    rintro ⟨p, q⟩ hm
    have : p = q ∧ p ∈ c.toList := by
      generalize c.toList = l at hm
      induction l with
      | nil => simp at hm
      | cons a l ih =>
        simp only [List.zip_cons_cons, List.mem_cons, Prod.mk.injEq] at hm
        rcases hm with ⟨rfl, rfl⟩ | hm
        · exact ⟨rfl, by simp⟩
        · exact ⟨(ih hm).1, List.mem_cons_of_mem _ (ih hm).2⟩
    obtain ⟨rfl, hm'⟩ := this
    exact hb p hm' _

/-- What a key's kind gives: keys are held against each other, and a new one takes the place of an equal one. -/
structure KeyLaw' (P : Program) (F : FS) (w : World) (kt : TypeId) (Kk : Kd) : Prop where
  check : ∀ em k v, KV F w Kk k v → (Instr.checkKey em 10000 kt v).run P w = .ok () w
  find : ∀ (Kv : Kd) (k : Kk.T) (v : Value), KV F w Kk k v → ∀ (es : List (Kk.T × Kv.T)) (l : List MapEntry), MR F w Kk Kv es l → (Instr.findKey kt v l).run P w = .ok ((midx Kk Kv es k).map fun i => (i, ((l[i]?).map (·.val)).getD undef)) w

theorem findNow_go {Kk Kv : Kd} {d : TypeDesc} {k : Kk.T} {v : Value} (hs : ∀ k' v', KV F w Kk k' v' → Instr.sameNow d v v' = some (keq Kk k k')) : ∀ (es : List (Kk.T × Kv.T)) (l : List MapEntry) (n : Nat), MR F w Kk Kv es l →
    Instr.findNow d v l n = some ((midx Kk Kv es k).map fun i => (n + i, ((l[i]?).map (·.val)).getD undef))
  | [], [], n, _ => rfl
  | x :: es, e :: l, n, ⟨h1, h2, h3⟩ => by
    simp only [Instr.findNow, hs _ _ h1, midx]
    cases keq Kk k x.1 with
    | true => simp
    | false =>
      simp only [cond_false]
      rw [findNow_go hs es l (n + 1) h3]
      cases midx Kk Kv es k with
      | none => rfl
      | some i => simp; omega
  | [], _ :: _, _, h => h.elim
  | _ :: _, [], _, h => h.elim

theorem keyLaw_plain {kt : TypeId} {Kk : Kd} {d : TypeDesc} (hu : P.underlying kt = some d)
    (hk : ∀ k v, KV F w Kk k v → Go.MapKept.IsKey d v) (hs : ∀ k v, KV F w Kk k v → ∀ k' v', KV F w Kk k' v' → Instr.sameNow d v v' = some (keq Kk k k')) : KeyLaw' P F w kt Kk where
  check := fun em k v h => Go.MapKept.run_checkKey hu (hk k v h) em 9999
  find := fun Kv k v h es l hm => by
    refine Go.MapKept.run_findKey hu ?_
    rw [findNow_go (hs k v h) es l 0 hm]
    simp

theorem KV_int {k : IntKind} {n : Int} {v : Value} (h : KV F w (.int k) n v) : v = .int k n := by
  have h1 := h.1.1
  rw [h.2.2 rfl] at h1
  simpa using h1

theorem KV_bool {b : Bool} {v : Value} (h : KV F w .bool b v) : v = .bool b := by
  have h1 : v.cells.toList = [.bool b] := h.1
  rw [h.2.2 rfl] at h1
  simpa using h1

theorem KV_str {s : ByteArray} {v : Value} (h : KV F w .str s v) : v = .string s := by
  have h1 : v.cells.toList = [.string s] := h.1
  rw [h.2.2 rfl] at h1
  simpa using h1

/-- Keys that are compared part by part. -/
theorem aeq_enc : ∀ (K : Kd), keyKd K = true → ∀ x y : K.T, aeq (enc K x) (enc K y) = some (keq K x y)
  | .int _, _, x, y => by simp [enc, aeq, keq]
  | .bool, _, x, y => by simp [enc, aeq, keq]
  | .str, _, x, y => by simp [enc, aeq, keq]
  | .nil, _, x, y => by simp [enc, aeq, keq]
  | .cons A B, hk, x, y => by
    simp only [keyKd, Bool.and_eq_true] at hk
    simp only [enc, aeq, keq, aeq_enc A hk.1, aeq_enc B hk.2]
  | .arr n (.int k), _, x, y => by simp [enc, aeq, keq, Kd.castL]
  | .arr n .bool, _, x, y => by simp [enc, aeq, keq, Kd.castL]
  | .arr _ .str, hk, _, _ | .arr _ (.arr _ _), hk, _, _ | .arr _ (.sl _), hk, _, _ | .arr _ .nil, hk, _, _ | .arr _ (.cons _ _), hk, _, _ | .sl _, hk, _, _ => by simp [keyKd] at hk

theorem enc_size : ∀ (K : Kd) (x y : K.T), (enc K x).size = (enc K y).size
  | .int _, _, _ | .bool, _, _ | .str, _, _ | .nil, _, _ | .arr _ _, _, _ | .sl _, _, _ => rfl
  | .cons A B, x, y => by simp only [enc, AV.size]; rw [enc_size A x.1 y.1, enc_size B x.2 y.2]

theorem eqTy_enc : ∀ (d : Nat) (t : TypeId) (K : Kd) (x y : K.T), eqTy P d t (enc K x) = eqTy P d t (enc K y)
  | 0, _, _, _, _ => rfl
  | d + 1, t, K, x, y => by
    cases hu : P.underlying t with
    | none => simp [eqTy, hu]
    | some k =>
      cases k
      case struct fs =>
        simp only [eqTy, hu]
        congr 1
        have : ∀ (fs : List Field) (o : Nat) (K : Kd) (x y : K.T), eqTy.eqFs P (fun t v => eqTy P d t v) o fs (enc K x) = eqTy.eqFs P (fun t v => eqTy P d t v) o fs (enc K y) := by
          intro fs
          induction fs with
          | nil => intro o K x y; cases K <;> simp [enc, eqTy.eqFs]
          | cons f fs ih =>
            intro o K x y
            cases K <;> simp only [enc, eqTy.eqFs]
            rename_i A B
            rw [enc_size A x.1 y.1, eqTy_enc d f.type A x.1 y.1, ih _ B x.2 y.2]
        exact this fs.toList 0 K x y
      case array n e =>
        cases K <;> simp only [eqTy, hu, enc]
        rename_i K
        cases P.underlying e with
        | none => rfl
        | some k => cases k <;> cases K <;> rfl
      all_goals (cases K <;> simp [eqTy, hu, enc])

theorem run_checkKey_items {e : TypeId} {K : Kd} (hsc : (∃ k, P.underlying e = some (.int k) ∧ K = .int k) ∨ (P.underlying e = some .bool ∧ K = .bool)) (em : Bool) (n : Nat) (hc : P.cellsOf e = 1) {m : Nat} {xs : List K.T} {cs : List Value} (h : RK F w (.arr m K) xs cs) :
    ∀ is : List Nat, (∀ i ∈ is, i < m) → ((forIn is PUnit.unit fun i _ => do
      Instr.checkKey em (n + 1) e (← part e cs.toArray (i * (← sizeOf e)))
      pure (ForInStep.yield PUnit.unit)) : Sem PUnit).run P w = .ok PUnit.unit w
  | [], _ => by simp
  | i :: is, hi => by
    have hlt : i < cs.length := by rw [h.2.1]; exact hi i (by simp)
    obtain ⟨inf, hinf⟩ : ∃ i, P.info? e = some i := by
      rcases hsc with ⟨k, hue, _⟩ | ⟨hue, _⟩ <;> exact info_of_underlying hue
    have hpx : (part e cs.toArray (i * P.cellsOf e)).run P w = .ok cs[i] w := by
      rw [hc, Nat.mul_one]
      rcases hsc with ⟨k, hu, _⟩ | ⟨hu, _⟩ <;> simp [part, run_isAgg hu, aggD, hlt]
    have hck : (Instr.checkKey em (n + 1) e cs[i]).run P w = .ok () w := by
      have q := h.2.2 i _ _ (List.getElem?_eq_getElem (by rw [h.1.1, ← h.2.1]; exact hlt)) (List.getElem?_eq_getElem hlt)
      rcases hsc with ⟨k, hu, rfl⟩ | ⟨hu, rfl⟩
      · have q1 := q.1
        simp only [List.cons.injEq, and_true] at q1
        rw [q1]
        simp [Instr.checkKey, run_underlying hu]
      · have q1 : [cs[i]] = [Value.bool _] := q
        simp only [List.cons.injEq, and_true] at q1
        rw [q1]
        simp [Instr.checkKey, run_underlying hu]
    simp only [List.forIn_cons, Sem.run_bind, run_sizeOf w hinf, Result.andThen_ok, hpx, hck, Sem.run_pure]
    exact run_checkKey_items hsc em n hc h is fun j hj => hi j (by simp [hj])

theorem checkKey_sound (em : Bool) : ∀ (d : Nat) (t : TypeId) (x : AV) (a : Value), eqTy P d t x = true → VV F L w x a → ∀ n, d < n → (Instr.checkKey em n t a).run P w = .ok () w
  | 0, _, _, _, h, _, _, _ => by simp [eqTy] at h
  | d + 1, t, x, a, hx, ha, n, hn => by
    obtain ⟨n, rfl⟩ : ∃ m, n = m + 1 := ⟨n - 1, by omega⟩
    cases hu : P.underlying t with
    | none => simp [eqTy, hu] at hx
    | some k =>
      cases k
      case int k =>
        cases x <;> simp only [eqTy, hu, Bool.false_eq_true] at hx
        obtain rfl := (VV_int ha).1
        simp [Instr.checkKey, run_underlying hu]
      case bool =>
        cases x <;> simp only [eqTy, hu, Bool.false_eq_true] at hx
        obtain rfl := VV_bool ha
        simp [Instr.checkKey, run_underlying hu]
      case string =>
        cases x <;> simp only [eqTy, hu, Bool.false_eq_true] at hx
        obtain rfl := VV_str ha
        simp [Instr.checkKey, run_underlying hu]
      case array m e =>
        cases x <;> simp only [eqTy, hu, Bool.false_eq_true] at hx
        rename_i n1 K1 xs
        simp only [Bool.and_eq_true, beq_iff_eq] at hx
        obtain ⟨⟨rfl, hk1⟩, hc⟩ := hx
        simp only [VV, AV.isAgg, cond_true, VR] at ha
        obtain ⟨cx, rfl, rx⟩ := ha
        have hsc : (∃ k, P.underlying e = some (.int k) ∧ K1 = .int k) ∨ (P.underlying e = some .bool ∧ K1 = .bool) := by
          cases hue : P.underlying e with
          | none => simp [hue] at hk1
          | some ke =>
            cases ke <;> simp only [hue, Bool.false_eq_true] at hk1 <;> cases K1 <;> simp only [Bool.false_eq_true] at hk1
            · exact .inr ⟨rfl, rfl⟩
            · exact .inl ⟨_, rfl, by rw [eq_of_beq hk1]⟩
        obtain ⟨n, rfl⟩ : ∃ q, n = q + 1 := ⟨n - 1, by omega⟩
        rw [Instr.checkKey]
        simp only [Sem.run_bind, run_underlying hu, Result.andThen_ok]
        simp only [Std.Legacy.Range.forIn_eq_forIn_range', Std.Legacy.Range.size, Nat.sub_zero, Nat.add_one_sub_one, Nat.div_one]
        have := run_checkKey_items (F := F) hsc em n hc rx (List.range' 0 m) (fun i hi => by rw [List.mem_range'_1] at hi; omega)
        simp at this
        simp [this]
      case struct fs =>
        simp only [eqTy, hu, Bool.and_eq_true, Bool.not_eq_true'] at hx
        obtain ⟨hst, hx⟩ := hx
        have hxa : x.isAgg = true ∧ x.plain = true := by
          cases x <;> first | exact ⟨rfl, rfl⟩ | (cases hf : fs.toList <;> simp [hf, eqTy.eqFs] at hx)
        rw [VV_plain hxa.2, hxa.1, cond_true] at ha
        obtain ⟨cx, rfl, rx⟩ := ha
        rw [Instr.checkKey]
        simp only [Sem.run_bind, run_underlying hu, Result.andThen_ok]
        rw [← Array.forIn_toList]
        have key : ∀ (fs : List Field) (x : AV) (pre cx : List Value), eqTy.eqFs P (fun t v => eqTy P d t v) pre.length fs x = true → VR F L w x cx →
            ((forIn fs PUnit.unit fun f _ => do
              if f.name ≠ "_" then Instr.checkKey em n f.type (← part f.type (pre ++ cx).toArray f.offset)
              pure (ForInStep.yield PUnit.unit)) : Sem PUnit).run P w = .ok PUnit.unit w := by
          intro fs
          induction fs with
          | nil => intro x pre cx _ _; simp
          | cons f fs ih =>
            intro x pre cx h1 h4
            cases x <;> simp only [eqTy.eqFs, Bool.false_eq_true] at h1
            rename_i x1 x2
            simp only [Bool.and_eq_true, bne_iff_ne, ne_eq, beq_iff_eq] at h1
            obtain ⟨⟨⟨⟨n1, n2⟩, n3⟩, n4⟩, n5⟩ := h1
            simp only [VR] at h4
            obtain ⟨c1, c2, rfl, v1, v2⟩ := h4
            obtain ⟨k1, u1, g1, p1⟩ := eqTy_agg n4
            obtain ⟨va, ra, ea⟩ := run_part_at (P := P) (pre := pre) (post := c2) u1 g1 n3 v1
            have hq := checkKey_sound em d f.type x1 va n4 ea n (by omega)
            have hz := VR_size x1 c1 v1
            have ih' := ih x2 (pre ++ c1) c2 (by rw [List.length_append, hz]; exact n5) v2
            simp only [List.forIn_cons, ne_eq, n1, not_false_eq_true, if_true, Sem.run_bind, n2, ra, Result.andThen_ok, hq, Sem.run_pure]
            simpa using ih'
        have := key fs.toList x [] cx hx rx
        simp at this
        simp [this]
      all_goals simp [eqTy, hu] at hx

theorem findAsking_go {Kk Kv : Kd} {kt : TypeId} {k : Kk.T} {v : Value} (hs : ∀ k' v', KV F w Kk k' v' → (Op.equal kt v v').run P w = .ok (keq Kk k k') w) : ∀ (es : List (Kk.T × Kv.T)) (l : List MapEntry) (n : Nat), MR F w Kk Kv es l →
    (Instr.findAsking kt v l n).run P w = .ok ((midx Kk Kv es k).map fun i => (n + i, ((l[i]?).map (·.val)).getD undef)) w
  | [], [], n, _ => by simp [Instr.findAsking, midx]
  | x :: es, e :: l, n, ⟨h1, h2, h3⟩ => by
    simp only [Instr.findAsking, Sem.run_bind, hs _ _ h1, Result.andThen_ok, midx]
    cases keq Kk k x.1 with
    | true => simp
    | false =>
      simp only [cond_false, Bool.false_eq_true, if_false]
      rw [findAsking_go hs es l (n + 1) h3]
      cases midx Kk Kv es k with
      | none => rfl
      | some i => simp; omega
  | [], _ :: _, _, h => h.elim
  | _ :: _, [], _, h => h.elim

theorem keyLaw_agg {kt : TypeId} {Kk : Kd} {d : TypeDesc} (hu : P.underlying kt = some d) (hd : (∃ fs, d = .struct fs) ∨ ∃ n e, d = .array n e) (hk : keyKd Kk = true) (ht : eqTy P deep kt (enc Kk Kk.z) = true) : KeyLaw' P F w kt Kk where
  check := fun em k v h => checkKey_sound (L := fun _ => none) em deep kt (enc Kk k) v (by rw [eqTy_enc deep kt Kk k Kk.z]; exact ht) (KV_VV h) 10000 (by decide)
  find := fun Kv k v h es l hm => by
    have heq : ∀ k' v', KV F w Kk k' v' → (Op.equal kt v v').run P w = .ok (keq Kk k k') w := fun k' v' h' =>
      equalIn_sound (L := fun _ => none) deep kt (enc Kk k) (enc Kk k') v v' _ (by rw [eqTy_enc deep kt Kk k Kk.z]; exact ht) (by rw [eqTy_enc deep kt Kk k' Kk.z]; exact ht) (aeq_enc Kk hk k k') (KV_VV h) (KV_VV h') Op.maxDepth (by decide)
    cases l with
    | nil =>
      cases es with
      | nil => simp [Instr.findKey, run_underlying hu, Instr.findNow, midx]
      | cons _ _ => exact hm.elim
    | cons e l =>
      have hn : Instr.findNow d v (e :: l) 0 = none := by
        rcases hd with ⟨fs, rfl⟩ | ⟨n, e', rfl⟩ <;> simp [Instr.findNow, Instr.sameNow]
      have := findAsking_go heq es (e :: l) 0 hm
      simp only [Instr.findKey, Sem.run_bind, run_underlying hu, Result.andThen_ok, hn, this, Nat.zero_add]

theorem keyLaw_of {kt : TypeId} {Kk : Kd} (h : keyOk P kt Kk = true) : KeyLaw' P F w kt Kk ∧ keyKd Kk = true := by
  unfold keyOk at h
  split at h
  · rename_i k k' hu
    obtain rfl := of_decide_eq_true h
    exact ⟨keyLaw_plain hu (fun n v hv => by rw [KV_int hv]; rfl) (fun n v hv n' v' hv' => by rw [KV_int hv, KV_int hv']; simp [Instr.sameNow, keq]), rfl⟩
  · rename_i hu
    exact ⟨keyLaw_plain hu (fun n v hv => by rw [KV_bool hv]; trivial) (fun n v hv n' v' hv' => by rw [KV_bool hv, KV_bool hv']; simp [Instr.sameNow, keq]), rfl⟩
  · rename_i hu
    exact ⟨keyLaw_plain hu (fun n v hv => by rw [KV_str hv]; trivial) (fun n v hv n' v' hv' => by rw [KV_str hv, KV_str hv']; simp [Instr.sameNow, keq]), rfl⟩
  · rename_i fs K hu
    simp only [Bool.and_eq_true] at h
    exact ⟨keyLaw_agg hu (.inl ⟨_, rfl⟩) h.1 h.2, h.1⟩
  · rename_i n e K hu
    simp only [Bool.and_eq_true] at h
    exact ⟨keyLaw_agg hu (.inr ⟨_, _, rfl⟩) h.1 h.2, h.1⟩
  · cases h

theorem mapOk_of {kt et : TypeId} {Kk Kv : Kd} (hf : ∀ b, F b → b < w.heap.size) (h : mapOk P kt et Kk Kv = true) : KeyLaw' P F w kt Kk ∧ keyKd Kk = true ∧ ∃ z, (zeroValue et).run P w = .ok z w ∧ KV F w Kv Kv.z z := by
  simp only [mapOk, Bool.and_eq_true] at h
  obtain ⟨h1, h2⟩ := h
  refine ⟨(keyLaw_of h1).1, (keyLaw_of (F := F) (w := w) h1).2, ?_⟩
  split at h2
  case h_2 => cases h2
  rename_i zv hz
  split at h2
  case h_2 => cases h2
  rename_i x hx
  obtain ⟨z, q1, q2, _, _⟩ := zero?_sound (F := F) (L := fun _ => none) (w := w) hz
  have hzr : x = Kv.z := by
    unfold zero? at hz
    split at hz
    case h_2 => cases hz
    rename_i v' hv'
    have : v' = zv := by
      repeat' split at hz
      all_goals first | (cases hz; done) | (cases hz; rfl)
    subst this
    exact zav_Zr _ _ _ hv' _ _ hx
  subst hzr
  exact ⟨z, q1, dec_KV hf hx q2⟩

/-- The map's block, as the heap has it. -/
theorem map_block (hh : HR F L hp w B0) {id : Nat} {xv : Value} {Kk Kv : Kd} {es : List (Kk.T × Kv.T)} (hx : VV F L w (.mapv id) xv) (hid : hp id = some (.map Kk Kv es)) :
    ∃ l b ents clock, L id = some l ∧ l.at_ = some (b, 0) ∧ xv = .map (some b) ∧ w.heap[b]? = some (.map ents clock) ∧ MR F w Kk Kv es ents.toList ∧ B0 b ∧ b < w.heap.size ∧ ¬ F b := by
  have hx' := VV_one rfl rfl hx
  simp only [VR, List.cons.injEq, and_true] at hx'
  obtain ⟨l, b, o, e1, e2, e3⟩ := hx'
  obtain ⟨l', q1, q2, q3⟩ := hh.blk id _ hid
  rw [e1] at q1; cases q1
  obtain ⟨b', ents, clock, g1, g2, g3⟩ := q2
  rw [e2] at g1; cases g1
  exact ⟨l, b, ents, clock, e1, e2, e3, g2, g3, q3 b 0 e2⟩

theorem MR_len {Kk Kv : Kd} : ∀ {es : List (Kk.T × Kv.T)} {l : List MapEntry}, MR F w Kk Kv es l → l.length = es.length
  | [], [], _ => rfl
  | _ :: _, _ :: _, ⟨_, _, h⟩ => by simp [MR_len h]
  | [], _ :: _, h => h.elim
  | _ :: _, [], h => h.elim

theorem midx_lt {Kk Kv : Kd} {k : Kk.T} : ∀ (es : List (Kk.T × Kv.T)) (i : Nat), midx Kk Kv es k = some i → ∃ x, es[i]? = some x ∧ keq Kk k x.1 = true
  | [], i, h => by simp [midx] at h
  | e :: l, i, h => by
    simp only [midx] at h
    cases hk : keq Kk k e.1 with
    | true => rw [hk] at h; simp at h; subst h; exact ⟨e, rfl, hk⟩
    | false =>
      rw [hk] at h
      simp only [cond_false, Option.map_eq_some_iff] at h
      obtain ⟨j, hj, rfl⟩ := h
      simpa using midx_lt l j hj

theorem lookup'_sound (hh : HR F L hp w B0) {t : TypeId} {x k v : AV} {ok : Bool} {xv kv : Value} {Δ : Eff} (hx : VV F L w x xv) (hk : VV F L w k kv) (h : lookup' P hp t x k ok = some (true, v, Δ)) :
    ∃ u, (Instr.lookup t xv kv ok).run P w = .ok u w ∧ VV F L w v u ∧ Δ = [] := by
  unfold lookup' at h
  split at h
  case h_2 => cases h
  rename_i kt et id hu
  split at h
  case h_2 => cases h
  rename_i Kk Kv es hid
  split at h
  case isFalse => cases h
  rename_i hok
  split at h
  case h_2 => cases h
  rename_i kd hkd
  simp only [Option.some.injEq, Prod.mk.injEq, true_and] at h
  obtain ⟨rfl, rfl⟩ := h
  obtain ⟨l, b, ents, clock, e1, e2, rfl, e3, e4, e5⟩ := map_block hh hx hid
  obtain ⟨klaw, kkd, z, hz, hzk⟩ := mapOk_of hh.fb hok
  have hkk := dec_KV hh.fb hkd hk
  have hfind := klaw.find Kv kd kv hkk es ents.toList e4
  have hchk := klaw.check ents.isEmpty kd kv hkk
  have hval : ∃ u, (Instr.lookup t (.map (some b)) kv ok).run P w = .ok (if ok then .tuple #[u, .bool (mget Kk Kv es kd).isSome] else u) w ∧ KV F w Kv ((mget Kk Kv es kd).getD Kv.z) u := by
    rw [midx_get]
    cases hm : midx Kk Kv es kd with
    | none =>
      rw [hm] at hfind
      refine ⟨z, ?_, by simpa using hzk⟩
      simp only [Instr.lookup, Sem.run_bind, run_underlying hu, Result.andThen_ok, Go.MapKept.run_getObj_map e3, Sem.run_pure, hchk, hfind, Option.map_none, hz]
      cases ok <;> simp
    | some i =>
      obtain ⟨y, hy, _⟩ := midx_lt es i hm
      obtain ⟨en, g1, g2, g3⟩ := MR_get e4 i y hy
      rw [hm] at hfind
      refine ⟨en.val, ?_, by simpa [hy] using g3⟩
      simp only [Instr.lookup, Sem.run_bind, run_underlying hu, Result.andThen_ok, Go.MapKept.run_getObj_map e3, Sem.run_pure, hchk, hfind, Option.map_some, g1, Option.getD_some]
      cases ok <;> simp [hy]
  obtain ⟨u, h1, h2⟩ := hval
  refine ⟨_, h1, ?_, rfl⟩
  unfold lookV
  cases ok
  · simp only [Bool.false_eq_true, if_false, cond_false]
    exact KV_VV h2
  · simp only [if_true, cond_true]
    have hv := KV_VV (L := L) h2
    rw [VV_plain (enc_plain _ _)] at hv
    refine ⟨[u, .bool (mget Kk Kv es kd).isSome], rfl, ?_⟩
    simp only [CV]
    exact ⟨u, _, rfl, .inr (.inr hv), _, [], rfl, .inr (.inr (by simp [AV.isAgg, VR])), rfl⟩

theorem makeMap'_sound (hh : HR F L hp w B0) (hB : ∀ b, w.heap.size ≤ b → B0 b) (hf : Fresh L key) {t : TypeId} {v : AV} {Δ : Eff} (h : makeMap' P key t = some (true, v, Δ)) :
    ∃ w' u L', (Instr.makeMap t none).run P w = .ok u w' ∧ Post F L w B0 hp key v Δ F L' w' u := by
  unfold makeMap' at h
  split at h
  case h_2 => cases h
  split at h
  case h_2 => cases h
  rename_i Kk Kv _ _
  split at h
  case isFalse => cases h
  simp only [Option.some.injEq, Prod.mk.injEq, true_and] at h
  obtain ⟨rfl, rfl⟩ := h
  have hw : (w.alloc (.map #[] 0)).heap = w.heap.push (.map #[] 0) := rfl
  have h0 : (fun b => F b ∨ rowF L [] b) = F := by funext b; simp [rowF]
  have := Post.make (F := F) (L := L) (hp := hp) (B0 := B0) (key := key) hh hB hf (ids := []) (by simp) hw ⟨rfl, rfl, rfl⟩ (bk := .map Kk Kv []) (l := ⟨some (w.heap.size, 0), .leaf, 1⟩) rfl (v := .mapv key) (v' := .map (some w.heap.size)) ?_ ?_
  · rw [h0] at this
    exact ⟨_, _, _, rfl, this⟩
  · exact ⟨w.heap.size, #[], 0, rfl, by rw [hw]; simp, trivial⟩
  · refine VV_mk1 rfl rfl ?_
    simp only [VR]
    exact ⟨_, w.heap.size, 0, updL_new, rfl, rfl⟩

theorem csize_set_map {r : Nat} {es es' : Array MapEntry} {c c' : Nat} (hb : w.heap[r]? = some (.map es c)) (hw : w'.heap = w.heap.setIfInBounds r (.map es' c')) (b : Nat) : csize w' b = csize w b := by
  unfold csize
  by_cases e : b = r
  · subst e
    have hlt := (Array.getElem?_eq_some_iff.1 hb).1
    rw [hw, hb]; simp [hlt]
  · rw [hw]; simp [Ne.symm e]

theorem mapUpdate'_sound (hh : HR F L hp w B0) {t : TypeId} {x k v r : AV} {xv kv vv : Value} {Δ : Eff} (hx : VV F L w x xv) (hk : VV F L w k kv) (hv : VV F L w v vv) (h : mapUpdate' P hp t x k v = some (true, r, Δ)) :
    ∃ w', (Instr.mapUpdate t xv kv vv).run P w = .ok () w' ∧ r = .undef ∧ Post F L w B0 hp key .undef Δ F L w' Go.undef := by
  unfold mapUpdate' at h
  split at h
  case h_2 => cases h
  rename_i kt et id hu
  split at h
  case h_2 => cases h
  rename_i Kk Kv es hid
  split at h
  case isFalse => cases h
  rename_i hok
  split at h
  case h_2 => cases h
  rename_i kd vd hkd hvd
  simp only [Option.some.injEq, Prod.mk.injEq, true_and] at h
  obtain ⟨rfl, rfl⟩ := h
  obtain ⟨l, b, ents, clock, e1, e2, rfl, e3, e4, e5, e6, e7⟩ := map_block hh hx hid
  obtain ⟨klaw, kkd, z, hz, hzk⟩ := mapOk_of hh.fb hok
  have hkk := dec_KV hh.fb hkd hk
  have hvk := dec_KV hh.fb hvd hv
  have hfind := klaw.find Kv kd kv hkk es ents.toList e4
  have hchk := klaw.check false kd kv hkk
  have hrun : ∃ ents' clock', (Instr.mapUpdate t (.map (some b)) kv vv).run P w = .ok () { w with heap := w.heap.setIfInBounds b (.map ents' clock') } ∧ MR F w Kk Kv (mput Kk Kv es kd vd) ents'.toList := by
    rw [midx_put]
    cases hm : midx Kk Kv es kd with
    | none =>
      rw [hm] at hfind
      refine ⟨ents.push { key := kv, val := vv, born := clock }, clock + 1, ?_, ?_⟩
      · simp only [Instr.mapUpdate, Sem.run_bind, run_underlying hu, Result.andThen_ok, Go.MapKept.run_getObj_map e3, hchk, hfind, Option.map_none]
        exact Go.MapKept.run_setObj_map _ e3
      · simp only [Array.toList_push]
        exact MR_push hkk hvk e4
    | some i =>
      obtain ⟨y, hy, hky⟩ := midx_lt es i hm
      obtain ⟨en, g1, g2, g3⟩ := MR_get e4 i y hy
      rw [hm] at hfind
      obtain ⟨rfl, hbits⟩ := KV_same kkd hkk g2 hky
      have g1' : ents[i]? = some en := by simpa using g1
      have hstay : (Instr.keyThatStays en.key en.key).run P w = .ok en.key w := by simp [Instr.keyThatStays, hbits]
      refine ⟨ents.modify i fun e => { e with key := en.key, val := vv }, clock, ?_, ?_⟩
      · simp only [Instr.mapUpdate, Sem.run_bind, run_underlying hu, Result.andThen_ok, Go.MapKept.run_getObj_map e3, hchk, hfind, Option.map_some, g1', Option.getD_some, hstay]
        exact Go.MapKept.run_setObj_map _ e3
      · have : (ents.modify i fun e => { e with key := en.key, val := vv }).toList = ents.toList.set i { en with key := en.key, val := vv } := by
          rw [Array.toList_modify]
          refine List.ext_getElem? fun j => ?_
          rw [List.getElem?_modify, List.getElem?_set]
          by_cases hj : i = j
          · subst hj
            have hlt := (List.getElem?_eq_some_iff.1 g1).1
            rw [if_pos rfl, if_pos hlt, g1]
            show some (if i = i then _ else _) = _
            rw [if_pos rfl]
          · rw [if_neg hj]
            cases ents.toList[j]? with
            | none => rfl
            | some a => show some (if i = j then _ else _) = _; rw [if_neg hj]
        rw [this]
        exact MR_set e4 i (kd, vd) _ hkk hvk
  obtain ⟨ents', clock', h1, h2⟩ := hrun
  refine ⟨_, h1, rfl, ?_⟩
  have hset := Go.MapKept.heap_set (o' := .map ents' clock') e3
  have hcs : ∀ b', csize { w with heap := w.heap.setIfInBounds b (.map ents' clock') } b' = csize w b' := fun b' => csize_set_map e3 rfl b'
  have wl : WL F w { w with heap := w.heap.setIfInBounds b (.map ents' clock') } := ⟨by simp, fun b' => by rw [hcs]; exact Nat.le_refl _, fun b' hb' => hset.2 b' fun e => e7 (e ▸ hb')⟩
  refine { val := by simp only [VV], fle := fun _ h => h, lle := fun _ _ h => h, lnew := fun _ _ h => .inl h, sz := by simp, csz := fun b' => by rw [hcs]; exact Nat.le_refl _, fb := fun b' hb' => by simpa using hh.fb b' hb', fnew := fun _ h => .inl h, frame := ?_, hr := ?_, inj := ?_, dom := ?_, env := ⟨rfl, rfl, rfl⟩ }
  · intro b' _ hn
    refine hset.2 b' fun e => ?_
    subst e
    exact hn id l 0 (by rw [lk_one, if_pos rfl]; simp) (by rw [hid]; simp) e1 e2
  · intro i bk hbk
    rw [lk_one] at hbk
    split at hbk
    · rename_i e
      subst e
      cases hbk
      refine ⟨l, e1, ⟨b, ents', clock', e2, hset.1, MR_mono (fun _ h => h) wl _ _ h2⟩, fun b' o' hbo => ?_⟩
      rw [e2] at hbo; cases hbo
      exact ⟨e5, by simpa using e6, e7, .inr ⟨i, l, 0, by rw [lk_one, if_pos rfl]; simp, by rw [hid]; simp, e1, e2⟩⟩
    · cases hbk
  · intro i i' bk1 bk2 l1 l2 b1 o1 o2 hne h1 h2
    rw [lk_one] at h1 h2
    split at h1
    · split at h2
      · omega
      · cases h2
    · cases h1
  · intro i h
    rw [lk_one] at h
    split at h
    · rename_i e; subst e; exact .inl (by rw [hid]; simp)
    · exact absurd rfl h

/-- A row's block with a mark behind its cells. -/
def marked (w : World) (b : Nat) (n : Nat) : World := w.freeze ⟨b, n, none⟩ 1

theorem marked_heap {b n : Nat} {c : Array Value} {e : TypeId} {lo hi : Nat} (h : w.heap[b]? = some (.cells c e (lo, hi))) : (marked w b n).heap[b]? = some (.cells c e (if lo == hi then (n, n + 1) else (min lo n, max hi (n + 1)))) := by
  unfold marked World.freeze
  rw [if_neg (by decide)]
  simp only [Array.getElem?_modify, if_true, h, Option.map_some]

theorem marked_ne {b n b' : Nat} (h : b' ≠ b) : (marked w b n).heap[b']? = w.heap[b']? := by
  unfold marked World.freeze
  rw [if_neg (by decide)]
  simp only [Array.getElem?_modify]
  rw [if_neg (fun e => h e.symm)]

theorem marked_sound (hh : HR F L hp w B0) {src e : TypeId} {id : Nat} {xv : Value} {x0 : Int} {xs : List Int} (hx : VV F L w (.hw id) xv) (hs : P.underlying src = some (.slice e)) (he : P.underlying e = some (.int .u8)) (hid : hp id = some (.row (.int .u8) (x0 :: xs))) :
    ∃ w' u, (Go.convert src src xv).run P w = .ok u w' ∧ Post F L w B0 hp key (.hw id) [(id, some (.row (.int .u8) (x0 :: xs)))] F L w' u := by
  have hx' := VV_one rfl rfl hx
  simp only [VR, List.cons.injEq, and_true] at hx'
  obtain ⟨l, a, c, h1, rfl, h2, h3, h4⟩ := hx'
  obtain ⟨l', e1, ⟨q1, q2, q3, q4⟩, q5⟩ := hh.blk id _ hid
  rw [h1] at e1; cases e1
  have hn : l.n = xs.length + 1 := by rw [q1]; rfl
  obtain ⟨b, o, g1, g2, g3⟩ := h4.resolve_left (by omega)
  subst g2
  obtain ⟨hfr, hrows⟩ := q4 b o g1
  obtain ⟨k1, k2, k3⟩ := q5 b o g1
  have hfr' := hfr
  obtain ⟨cs, et, lo, hi, f1, f0, f2⟩ := hfr'
  have hsh : w.shape? b = some (et, cs.size) := by unfold World.shape?; rw [f1]
  have hrun : (Go.convert src src (.slice (some ⟨b, o, none⟩) l.n c)).run P w = .ok (.slice (some ⟨b, o, none⟩) l.n c) (marked w b cs.size) := by
    simp [Go.convert, run_underlying hs, run_underlying he, markStringish, hsh, marked]
  have hm := marked_heap (n := cs.size) f1
  have hcell : ∀ b' j, (marked w b cs.size).cell? ⟨b', j, none⟩ = w.cell? ⟨b', j, none⟩ := by
    intro b' j
    unfold World.cell?
    by_cases hb : b' = b
    · subst hb; rw [hm, f1]
    · rw [marked_ne hb]
  have hcs : ∀ b', csize (marked w b cs.size) b' = csize w b' := by
    intro b'
    unfold csize
    by_cases hb : b' = b
    · subst hb; rw [hm, f1]
    · rw [marked_ne hb]
  have hsz : (marked w b cs.size).heap.size = w.heap.size := by
    unfold marked World.freeze
    rw [if_neg (by decide)]
    simp
  have hfree : free (marked w b cs.size) b := by
    by_cases hne : lo = hi
    · have hm' := hm
      rw [if_pos (by simp [hne])] at hm'
      exact ⟨cs, et, _, _, hm', by omega, fun j hj => by omega⟩
    · have hm' := hm
      rw [if_neg (by simp [hne])] at hm'
      refine ⟨cs, et, _, _, hm', by omega, fun j hj => ?_⟩
      have := f2 j hj
      have := f2 lo
      omega
  have wl : WL F w (marked w b cs.size) := ⟨by rw [hsz]; exact Nat.le_refl _, fun b' => by rw [hcs]; exact Nat.le_refl _, fun b' hb' => marked_ne fun e => k3 (e ▸ hb')⟩
  have hrow : Rows F (marked w b cs.size) (.int .u8) (x0 :: xs) b o := fun i x hx => by
    obtain ⟨cs', r1, r2⟩ := hrows i x hx
    exact ⟨cs', fun j v hj => by rw [hcell]; exact r1 j v hj, RK_mono (fun _ h => h) wl _ _ _ r2⟩
  refine ⟨_, _, hrun, { val := VV_mono (fun _ h => h) (fun _ _ h => h) wl hx, fle := fun _ h => h, lle := fun _ _ h => h, lnew := fun _ _ h => .inl h, sz := by rw [hsz]; exact Nat.le_refl _, csz := fun b' => by rw [hcs]; exact Nat.le_refl _, fb := fun b' hb' => by rw [hsz]; exact hh.fb b' hb', fnew := fun _ h => .inl h, frame := ?_, hr := ?_, inj := ?_, dom := ?_, env := ⟨rfl, rfl, rfl⟩ }⟩
  · intro b' _ hno
    refine marked_ne fun e => ?_
    subst e
    exact hno id l o (by rw [lk_one, if_pos rfl]; simp) (by rw [hid]; simp) h1 g1
  · intro i bk hbk
    rw [lk_one] at hbk
    split at hbk
    · rename_i e
      subst e
      cases hbk
      refine ⟨l, h1, ⟨q1, q2, q3, fun b' o' hbo => ?_⟩, fun b' o' hbo => ?_⟩
      · rw [g1] at hbo; cases hbo
        exact ⟨hfree, hrow⟩
      · rw [g1] at hbo; cases hbo
        exact ⟨k1, by rw [hsz]; exact k2, k3, .inr ⟨i, l, o, by rw [lk_one, if_pos rfl]; simp, by rw [hid]; simp, h1, g1⟩⟩
    · cases hbk
  · intro i i' bk1 bk2 l1 l2 b1 o1 o2 hne h1 h2
    rw [lk_one] at h1 h2
    split at h1
    · split at h2
      · omega
      · cases h2
    · cases h1
  · intro i h
    rw [lk_one] at h
    split at h
    · rename_i e; subst e; exact .inl (by rw [hid]; simp)
    · exact absurd rfl h

end
end Go.Proofs.Ytkmeimhapokdlaa.Ae
