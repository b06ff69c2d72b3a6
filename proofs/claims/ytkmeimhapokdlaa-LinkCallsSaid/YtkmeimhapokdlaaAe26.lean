/- Values whose memory goes over from one holder to another: rows, maps and boxes of their own. Definitions, and how such a value is numbered anew. Lemmas alone. -/
import Derived.Test.YtkmeimhapokdlaaAe24
set_option linter.unusedVariables false
set_option linter.unusedSimpArgs false
namespace Go.Proofs.Ytkmeimhapokdlaa.Ae
open Go

/-- How a value is held: read-only data, an own slice, an own map, a pointer to an own box, a function value. -/
inductive Md where
  | ro (K : Kd) | ow (K : Kd) | mp (Kk Kv : Kd) | bx (m : Md) | fn (f : FuncId) (a b : Md) | nil | cons (a b : Md)

@[reducible] def Md.T : Md → Type
  | .ro K => K.T | .ow K => List K.T | .mp Kk Kv => List (Kk.T × Kv.T) | .bx m => m.T | .fn _ a b => a.T × b.T | .nil => Unit | .cons a b => a.T × b.T

def Md.z : (m : Md) → m.T
  | .ro K => K.z | .ow _ => [] | .mp _ _ => [] | .bx m => m.z | .fn _ a b => (a.z, b.z) | .nil => () | .cons a b => (a.z, b.z)

/-- How many blocks of its own. -/
def Md.cnt : Md → Nat
  | .ro _ | .nil => 0 | .ow _ | .mp _ _ => 1 | .bx m => m.cnt + 1 | .fn _ a b | .cons a b => a.cnt + b.cnt

def Md.chain : Md → Bool
  | .nil => true
  | .cons _ b => b.chain
  | _ => false

def Md.len : Md → Nat
  | .cons _ b => b.len + 1
  | _ => 0

/-- The value, its blocks numbered from n on. -/
def encM : (m : Md) → m.T → Nat → AV
  | .ro K, x, _ => enc K x
  | .ow _, _, n => .hw n
  | .mp _ _, _, n => .mapv n
  | .bx _, _, n => .ptr n 0 []
  | .fn f a b, x, n => .fn (.func f) (encM a x.1 n) (encM b x.2 (n + a.cnt))
  | .nil, _, _ => .nil
  | .cons a b, x, n => .cons (encM a x.1 n) (encM b x.2 (n + a.cnt))

def blkM : (m : Md) → m.T → Nat → Eff
  | .ro _, _, _ => []
  | .ow K, xs, n => [(n, some (.row K xs))]
  | .mp Kk Kv, es, n => [(n, some (.map Kk Kv es))]
  | .bx m, x, n => (n, some (.box (encM m x (n + 1)))) :: blkM m x (n + 1)
  | .fn _ a b, x, n => blkM a x.1 n ++ blkM b x.2 (n + a.cnt)
  | .nil, _, _ => []
  | .cons a b, x, n => blkM a x.1 n ++ blkM b x.2 (n + a.cnt)

def castM (Kk Kv Kk' Kv' : Kd) (es : List (Kk.T × Kv.T)) : Option (List (Kk'.T × Kv'.T)) := if h : Kk = Kk' ∧ Kv = Kv' then some (h.1 ▸ h.2 ▸ es) else none

theorem castM_some {Kk Kv Kk' Kv' : Kd} {es : List (Kk.T × Kv.T)} {es' : List (Kk'.T × Kv'.T)} (h : castM Kk Kv Kk' Kv' es = some es') : ∃ (e : Kk = Kk') (e' : Kv = Kv'), es' = e ▸ e' ▸ es := by
  unfold castM at h
  split at h
  · rename_i e
    obtain ⟨e1, e2⟩ := e
    subst e1 e2
    exact ⟨rfl, rfl, (Option.some.inj h).symm⟩
  · cases h

/-- The data, the blocks that it is taken from (none: an empty slice without one), and the rows that are read alone. -/
def decM (hp : Hp) : (m : Md) → AV → Option (m.T × List (Option Nat) × List Nat)
  | .ro K, v => match dec hp K v with
    | some x => some (x, [], v.rows)
    | none => none
  | .ow K, v => match v with
    | .nils => some ([], [none], [])
    | .hw id => match dec hp (.sl K) (.hw id) with
      | some x => some (x, [some id], [])
      | none => none
    | .hs id off len => match dec hp (.sl K) (.hs id off len) with
      | some x => some (x, [some id], [])
      | none => none
    | _ => none
  | .mp Kk Kv, v => match v with
    | .mapv id => match hp id with
      | some (.map Kk' Kv' es) => match castM Kk' Kv' Kk Kv es with
        | some x => some (x, [some id], [])
        | none => none
      | _ => none
    | _ => none
  | .bx m, v => match v with
    | .ptr id 0 [] => match hp id with
      | some (.box u) => match decM hp m u with
        | some (x, ps, rs) => some (x, some id :: ps, rs)
        | none => none
      | _ => none
    | _ => none
  | .fn f a b, v => match v with
    | .fn (.func g) u w => bif Nat.beq f g && (a.chain && b.chain) then match decM hp a u with
        | some (x, ps, rs) => match decM hp b w with
          | some (y, qs, ts) => some ((x, y), ps ++ qs, rs ++ ts)
          | none => none
        | none => none
      else none
    | _ => none
  | .nil, v => match v with
    | .nil => some ((), [], [])
    | _ => none
  | .cons a b, v => match v with
    | .cons u w => match decM hp a u with
        | some (x, ps, rs) => match decM hp b w with
          | some (y, qs, ts) => some ((x, y), ps ++ qs, rs ++ ts)
          | none => none
        | none => none
    | _ => none

/-- No slice to read-only data in it. -/
def Md.flat : Md → Bool
  | .ro K | .ow K => K.flat
  | .mp Kk Kv => Kk.flat && Kv.flat
  | .bx m => m.flat
  | .fn _ a b | .cons a b => a.flat && b.flat
  | .nil => true

/-- The numbers of the blocks. -/
def srcIds : List (Option Nat) → List Nat
  | [] => []
  | some i :: l => i :: srcIds l
  | none :: l => srcIds l

/-- Taken once, and not read besides. -/
def apartP (ps : List (Option Nat)) (rs : List Nat) : Bool := nodup (srcIds ps) && disj rs (srcIds ps)

section
variable {F F' Fst : FS} {L L0 L1 : LM} {w w' : World} {P : Program} {hp : Hp} {B0 : FS}

theorem mem_srcIds {i : Nat} : ∀ {ps : List (Option Nat)}, i ∈ srcIds ps ↔ some i ∈ ps
  | [] => by simp [srcIds]
  | some j :: l => by simp [srcIds, mem_srcIds (ps := l)]
  | none :: l => by simp [srcIds, mem_srcIds (ps := l)]

theorem srcIds_app : ∀ (ps qs : List (Option Nat)), srcIds (ps ++ qs) = srcIds ps ++ srcIds qs
  | [], qs => rfl
  | some j :: l, qs => by simp [srcIds, srcIds_app l qs]
  | none :: l, qs => by simp [srcIds, srcIds_app l qs]

theorem nodup_iff : ∀ {l : List Nat}, nodup l = true ↔ l.Nodup
  | [] => by simp [nodup]
  | a :: l => by simp [nodup, nodup_iff (l := l)]

/-- At different places, different blocks. -/
theorem srcIds_ne : ∀ {ps : List (Option Nat)}, (srcIds ps).Nodup → ∀ {i j : Nat} {a : Nat}, ps[i]? = some (some a) → ps[j]? = some (some a) → i = j
  | [], _, i, j, a, h, _ => by simp at h
  | p :: l, hn, i, j, a, h, h' => by
    have hl : (srcIds l).Nodup := by
      cases p <;> simp [srcIds] at hn
      · exact hn
      · exact hn.2
    have hnot : p = some a → ∀ k : Nat, l[k]? ≠ some (some a) := by
      rintro rfl k hk
      simp only [srcIds, List.nodup_cons] at hn
      exact hn.1 (mem_srcIds.2 (List.mem_of_getElem? hk))
    cases i with
    | zero =>
      cases j with
      | zero => rfl
      | succ j => exact absurd (by simpa using h') (hnot (by simpa using h) j)
    | succ i =>
      cases j with
      | zero => exact absurd (by simpa using h) (hnot (by simpa using h') i)
      | succ j => exact congrArg (· + 1) (srcIds_ne (a := a) hl (by simpa using h) (by simpa using h'))

theorem dec_sh : ∀ (K : Kd) (v : AV) (x : K.T), dec hp K v = some x → v.sh = K.sh
  | .int _, v, x, h | .bool, v, x, h | .str, v, x, h => by cases v <;> simp only [dec, reduceCtorEq] at h <;> rfl
  | .sl e, v, x, h => by cases v <;> simp only [dec, reduceCtorEq] at h <;> rfl
  | .arr n e, v, x, h => by
    cases v <;> simp only [dec, reduceCtorEq] at h
    split at h
    · rename_i e; simp [AV.sh, Kd.sh, e]
    · cases h
  | .nil, v, x, h => by cases v <;> simp only [dec, reduceCtorEq] at h; rfl
  | .cons a b, v, x, h => by
    cases v <;> simp only [dec, reduceCtorEq] at h
    split at h
    case h_2 => cases h
    rename_i y hy
    split at h
    case h_2 => cases h
    rename_i z hz
    simp only [AV.sh, Kd.sh, dec_sh a _ _ hy, dec_sh b _ _ hz]

theorem decM_sh : ∀ (m : Md) (v : AV) (x : m.T) (ps : List (Option Nat)) (rs : List Nat), decM hp m v = some (x, ps, rs) → ∀ n, (encM m x n).sh = v.sh ∧ (encM m x n).isAgg = v.isAgg ∧ v.plain = true ∧ (encM m x n).plain = true
  | .ro K, v, x, ps, rs, h, n => by
    simp only [decM] at h
    split at h
    case h_2 => cases h
    rename_i y hy
    simp only [Option.some.injEq, Prod.mk.injEq] at h
    obtain ⟨rfl, rfl, rfl⟩ := h
    have := dec_agg hy
    exact ⟨by rw [encM, enc_sh, dec_sh K v _ hy], by rw [encM, enc_agg, this.1], this.2, by rw [encM, enc_plain]⟩
  | .ow K, v, x, ps, rs, h, n => by
    cases v <;> simp only [decM, reduceCtorEq] at h <;> exact ⟨rfl, rfl, rfl, rfl⟩
  | .mp Kk Kv, v, x, ps, rs, h, n => by
    cases v <;> simp only [decM, reduceCtorEq] at h <;> exact ⟨rfl, rfl, rfl, rfl⟩
  | .bx m, v, x, ps, rs, h, n => by
    cases v <;> simp only [decM, reduceCtorEq] at h <;> exact ⟨rfl, rfl, rfl, rfl⟩
  | .fn f a b, v, x, ps, rs, h, n => by
    cases v <;> simp only [decM, reduceCtorEq] at h <;> exact ⟨rfl, rfl, rfl, rfl⟩
  | .nil, v, x, ps, rs, h, n => by
    cases v <;> simp only [decM, reduceCtorEq] at h <;> exact ⟨rfl, rfl, rfl, rfl⟩
  | .cons a b, v, x, ps, rs, h, n => by
    cases v <;> simp only [decM, reduceCtorEq] at h
    split at h
    case h_2 => cases h
    rename_i y ps1 rs1 hy
    split at h
    case h_2 => cases h
    rename_i z ps2 rs2 hz
    simp only [Option.some.injEq, Prod.mk.injEq] at h
    obtain ⟨rfl, rfl, rfl⟩ := h
    exact ⟨by simp only [encM, AV.sh, (decM_sh a _ _ _ _ hy n).1, (decM_sh b _ _ _ _ hz (n + a.cnt)).1], rfl, rfl, rfl⟩

theorem decM_cnt : ∀ (m : Md) (v : AV) (x : m.T) (ps : List (Option Nat)) (rs : List Nat), decM hp m v = some (x, ps, rs) → ps.length = m.cnt
  | .ro K, v, x, ps, rs, h => by
    simp only [decM] at h
    split at h
    case h_2 => cases h
    simp only [Option.some.injEq, Prod.mk.injEq] at h
    obtain ⟨rfl, rfl, rfl⟩ := h
    rfl
  | .ow K, v, x, ps, rs, h => by
    simp only [decM] at h
    repeat' split at h
    all_goals first | (cases h; done) | (simp only [Option.some.injEq, Prod.mk.injEq] at h; obtain ⟨rfl, rfl, rfl⟩ := h; rfl)
  | .mp Kk Kv, v, x, ps, rs, h => by
    simp only [decM] at h
    repeat' split at h
    all_goals first | (cases h; done) | (simp only [Option.some.injEq, Prod.mk.injEq] at h; obtain ⟨rfl, rfl, rfl⟩ := h; rfl)
  | .bx m, v, x, ps, rs, h => by
    simp only [decM] at h
    split at h
    case h_2 => cases h
    split at h
    case h_2 => cases h
    split at h
    case h_2 => cases h
    rename_i hy
    simp only [Option.some.injEq, Prod.mk.injEq] at h
    obtain ⟨rfl, rfl, rfl⟩ := h
    simp only [List.length_cons, decM_cnt m _ _ _ _ hy, Md.cnt]
  | .fn f a b, v, x, ps, rs, h => by
    simp only [decM] at h
    split at h
    case h_2 => cases h
    rename_i g u w
    cases hb : (Nat.beq f g && (a.chain && b.chain)) with
    | false => rw [hb] at h; cases h
    | true =>
      rw [hb] at h
      simp only [cond_true] at h
      split at h
      case h_2 => cases h
      rename_i hy
      split at h
      case h_2 => cases h
      rename_i hz
      simp only [Option.some.injEq, Prod.mk.injEq] at h
      obtain ⟨rfl, rfl, rfl⟩ := h
      simp only [List.length_append, decM_cnt a _ _ _ _ hy, decM_cnt b _ _ _ _ hz, Md.cnt]
  | .nil, v, x, ps, rs, h => by
    simp only [decM] at h
    split at h
    case h_2 => cases h
    simp only [Option.some.injEq, Prod.mk.injEq] at h
    obtain ⟨_, rfl, rfl⟩ := h
    rfl
  | .cons a b, v, x, ps, rs, h => by
    simp only [decM] at h
    split at h
    case h_2 => cases h
    split at h
    case h_2 => cases h
    rename_i hy
    split at h
    case h_2 => cases h
    rename_i hz
    simp only [Option.some.injEq, Prod.mk.injEq] at h
    obtain ⟨rfl, rfl, rfl⟩ := h
    simp only [List.length_append, decM_cnt a _ _ _ _ hy, decM_cnt b _ _ _ _ hz, Md.cnt]

/-- The blocks of a value that was numbered anew: where they lie, and which blocks they were. -/
structure OwnM (Fst : FS) (L : LM) (w : World) (hp : Hp) (ps : List (Option Nat)) (n : Nat) (E : Eff) (L1 : LM) : Prop where
  dom : ∀ j, lk E j ≠ none → n ≤ j ∧ j < n + ps.length
  live : ∀ j, lk E j ≠ some none
  has : ∀ j bk, lk E j = some (some bk) → ∃ l, L1 j = some l ∧ BR Fst L1 w l bk ∧ ∀ b o, l.at_ = some (b, o) → ∃ i li o', ps[j - n]? = some (some i) ∧ L i = some li ∧ li.at_ = some (b, o') ∧ hp i ≠ none
  box : ∀ j u, lk E j = some (some (.box u)) → ∃ i, ps[j - n]? = some (some i) ∧ L1 j = L i

theorem OwnM.nil {n : Nat} : OwnM Fst L w hp [] n [] L1 :=
  ⟨fun j h => absurd rfl h, fun j h => (by cases h), fun j bk h => (by cases h), fun j u h => (by cases h)⟩

theorem lk_app_none {α : Type} {a b : List (Nat × α)} {t : Nat} (h : lk a t = none) : lk (a ++ b) t = lk b t := by rw [lk_app, h]
theorem lk_app_some {α : Type} {a b : List (Nat × α)} {t : Nat} {x : α} (h : lk a t = some x) : lk (a ++ b) t = some x := by rw [lk_app, h]

theorem OwnM.app {ps qs : List (Option Nat)} {n : Nat} {E E' : Eff} {L2 : LM} (h : OwnM Fst L w hp ps n E L1) (h' : OwnM Fst L w hp qs (n + ps.length) E' L2) (hL : ∀ id l, L1 id = some l → L2 id = some l) : OwnM Fst L w hp (ps ++ qs) n (E ++ E') L2 := by
  have wl := WL.refl Fst w
  refine ⟨fun j hj => ?_, fun j hj => ?_, fun j bk hj => ?_, fun j u hj => ?_⟩
  · rw [List.length_append]
    cases he : lk E j with
    | some x => have := h.dom j (by rw [he]; simp); omega
    | none => rw [lk_app_none he] at hj; have := h'.dom j hj; omega
  · cases he : lk E j with
    | some x => rw [lk_app_some he] at hj; exact h.live j (by rw [he]; exact hj)
    | none => rw [lk_app_none he] at hj; exact h'.live j hj
  · cases he : lk E j with
    | some x =>
      rw [lk_app_some he] at hj
      obtain ⟨l, e1, e2, e3⟩ := h.has j bk (by rw [he]; exact hj)
      refine ⟨l, hL _ _ e1, BR_mono (fun _ h => h) hL wl (fun _ _ _ => rfl) e2, fun b o hb => ?_⟩
      obtain ⟨i, li, o', q1, q2⟩ := e3 b o hb
      exact ⟨i, li, o', by rw [List.getElem?_append_left (List.getElem?_eq_some_iff.1 q1).1]; exact q1, q2⟩
    | none =>
      rw [lk_app_none he] at hj
      obtain ⟨l, e1, e2, e3⟩ := h'.has j bk hj
      have hd := h'.dom j (by rw [hj]; simp)
      refine ⟨l, e1, e2, fun b o hb => ?_⟩
      obtain ⟨i, li, o', q1, q2⟩ := e3 b o hb
      refine ⟨i, li, o', ?_, q2⟩
      rw [List.getElem?_append_right (by omega), show j - n - ps.length = j - (n + ps.length) by omega]; exact q1
  · cases he : lk E j with
    | some x =>
      rw [lk_app_some he] at hj
      obtain ⟨i, q1, q2⟩ := h.box j u (by rw [he]; exact hj)
      obtain ⟨l, e1, _⟩ := h.has j _ (by rw [he]; exact hj)
      exact ⟨i, by rw [List.getElem?_append_left (List.getElem?_eq_some_iff.1 q1).1]; exact q1, by rw [← q2, e1, hL _ _ e1]⟩
    | none =>
      rw [lk_app_none he] at hj
      obtain ⟨i, q1, q2⟩ := h'.box j u hj
      have hd := h'.dom j (by rw [hj]; simp)
      refine ⟨i, ?_, q2⟩
      rw [List.getElem?_append_right (by omega), show j - n - ps.length = j - (n + ps.length) by omega]; exact q1

/-- One block more, ahead. -/
theorem OwnM.one {p : Option Nat} {n : Nat} {bk : Bk} {l : Loc} (hl : L1 n = some l) (hb : BR Fst L1 w l bk) (hat : ∀ b o, l.at_ = some (b, o) → ∃ i li o', p = some i ∧ L i = some li ∧ li.at_ = some (b, o') ∧ hp i ≠ none)
    (hbox : ∀ u, bk = .box u → ∃ i, p = some i ∧ L1 n = L i) : OwnM Fst L w hp [p] n [(n, some bk)] L1 := by
  refine ⟨fun j h => ?_, fun j h => ?_, fun j bk' h => ?_, fun j u h => ?_⟩
  all_goals
    rw [lk_one] at h
    split at h
  · rename_i e; subst e; simp
  · exact absurd rfl h
  · cases h
  · cases h
  · rename_i e
    subst e
    cases h
    exact ⟨l, hl, hb, fun b o ho => by simpa using hat b o ho⟩
  · cases h
  · rename_i e
    subst e
    cases h
    simpa using hbox u rfl
  · cases h

/-- Data that holds on to no block is data anywhere; other data where its blocks are kept. -/
theorem RK_to {K : Kd} (h : K.flat = true ∨ ∀ b, F b → Fst b) (x : K.T) (cs : List Value) (hr : RK F w K x cs) : RK Fst w K x cs := by
  rcases h with h | h
  · exact RK_flat K h x cs hr
  · exact RK_mono h (WL.refl _ _) K x cs hr

theorem Rows_to {K : Kd} (h : K.flat = true ∨ ∀ b, F b → Fst b) {xs : List K.T} {b o : Nat} (hr : Rows F w K xs b o) : Rows Fst w K xs b o := fun i x hx => by
  obtain ⟨cs, h1, h2⟩ := hr i x hx
  exact ⟨cs, h1, RK_to h x cs h2⟩

theorem MR_to {Kk Kv : Kd} (h : (Kk.flat = true ∧ Kv.flat = true) ∨ ∀ b, F b → Fst b) : ∀ (es : List (Kk.T × Kv.T)) (l : List MapEntry), MR F w Kk Kv es l → MR Fst w Kk Kv es l
  | [], [], _ => trivial
  | x :: es, e :: l, ⟨h1, h2, h3⟩ => ⟨⟨RK_to (h.imp (·.1) fun h => h) _ _ h1.1, h1.2⟩, ⟨RK_to (h.imp (·.2) fun h => h) _ _ h2.1, h2.2⟩, MR_to h es l h3⟩
  | [], _ :: _, h => h.elim
  | _ :: _, [], h => h.elim

/-- A slice of a row of one's own, as a row of its own. -/
theorem cut_row {K : Kd} {id off len n : Nat} {xs : List K.T} {cs : List Value} (hh : HR F L hp w B0) (h : VR F L w (.hs id off len) cs) (hid : hp id = some (.row K xs)) (hF : K.flat = true ∨ ∀ b, F b → Fst b) :
    ∃ l, (∀ L1 : LM, L1 n = some l → VR Fst L1 w (.hw n) cs) ∧ (∀ L1 : LM, BR Fst L1 w l (.row K ((xs.drop off).take len))) ∧ ∀ b o, l.at_ = some (b, o) → ∃ li o', L id = some li ∧ li.at_ = some (b, o') ∧ hp id ≠ none := by
  simp only [VR] at h
  obtain ⟨l, a, c, h1, rfl, h2, h3, h4, h5⟩ := h
  obtain ⟨l', e1, ⟨q1, q2, q3, q4⟩, _⟩ := hh.blk id _ hid
  rw [h1] at e1; cases e1
  have hlen : ((xs.drop off).take len).length = len := by rw [List.length_take, List.length_drop]; omega
  have hsz : l.sh.size = K.size := by rw [q2, Kd.sh_size]
  refine ⟨⟨l.at_.map fun p => (p.1, p.2 + off * K.size), K.sh, len⟩, fun L1 hl => ?_, fun L1 => ⟨hlen.symm, rfl, fun hn => ?_, fun b o hb => ?_⟩, fun b o hb => ?_⟩
  · simp only [VR]
    refine ⟨_, a, c, hl, rfl, h2, h3, h5.imp (fun h => h) ?_⟩
    rintro ⟨b, o, g1, g2, g3⟩
    refine ⟨b, o + off * K.size, by simp [g1], by rw [g2, hsz], ?_⟩
    simp only [Kd.sh_size]
    rw [hsz, Nat.add_mul] at g3; omega
  · simp only [Option.map_eq_none_iff] at hn
    rw [q3 hn]; simp
  · simp only [Option.map_eq_some_iff, Prod.mk.injEq] at hb
    obtain ⟨⟨b', o'⟩, g1, rfl, rfl⟩ := hb
    obtain ⟨r1, r2⟩ := q4 b' o' g1
    refine ⟨r1, fun i x hx => ?_⟩
    have hi : i < len := by have := (List.getElem?_eq_some_iff.1 hx).1; omega
    rw [List.getElem?_take, if_pos hi, List.getElem?_drop] at hx
    obtain ⟨cs', s1, s2⟩ := r2 (off + i) x hx
    refine ⟨cs', ?_, RK_to hF x cs' s2⟩
    rw [Nat.add_mul, ← Nat.add_assoc] at s1; exact s1
  · simp only [Option.map_eq_some_iff, Prod.mk.injEq] at hb
    obtain ⟨⟨b', o'⟩, g1, rfl, rfl⟩ := hb
    exact ⟨l, o', h1, g1, by rw [hid]; simp⟩

def setL (L : LM) (n : Nat) (l : Loc) : LM := fun j => if j = n then some l else L j

theorem setL_at {l : Loc} {n : Nat} : setL L n l n = some l := by simp [setL]
theorem setL_ne {l : Loc} {n j : Nat} (h : j ≠ n) : setL L n l j = L j := by simp [setL, h]

theorem rowF_app {a b : List Nat} {x : Nat} : rowF L (a ++ b) x ↔ rowF L a x ∨ rowF L b x := by
  constructor
  · rintro ⟨i, hi, r⟩
    rcases List.mem_append.1 hi with h | h
    · exact .inl ⟨i, h, r⟩
    · exact .inr ⟨i, h, r⟩
  · rintro (⟨i, hi, r⟩ | ⟨i, hi, r⟩)
    · exact ⟨i, by simp [hi], r⟩
    · exact ⟨i, by simp [hi], r⟩

end
end Go.Proofs.Ytkmeimhapokdlaa.Ae
