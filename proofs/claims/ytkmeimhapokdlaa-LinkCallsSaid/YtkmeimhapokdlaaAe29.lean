/- What a call leaves to its caller. Lemmas alone. -/
import Derived.Test.YtkmeimhapokdlaaAe28
set_option linter.unusedVariables false
set_option linter.unusedSimpArgs false
namespace Go.Proofs.Ytkmeimhapokdlaa.Ae
open Go

section
variable {F F' Fst : FS} {L L0 L1 L' : LM} {w w' : World} {P : Program} {hp hp' : Hp} {B0 : FS}

structure EffOK (Fst : FS) (L' L3 : LM) (w' : World) (hp' : Hp) (pins : List Nat) (n0 : Nat) (ps : List (Option Nat)) (E : Eff) : Prop where
  live : ∀ i, lk E i ≠ some none
  has : ∀ i bk, lk E i = some (some bk) → ∃ j l, j ∈ pins ∧ n0 ≤ j ∧ ps[j - n0]? = some (some i) ∧ L' j = some l ∧ BR Fst L3 w' l bk ∧ hp' j ≠ none

def RepB (F' : FS) (L' : LM) (hp' : Hp) (w' : World) (hp : Hp) (m : Md) : Prop := ∀ (n0 : Nat) (z : m.backs.T) (qs : List (Option Nat)) (ts : List Nat) (v : AV) (x : m.T) (ps : List (Option Nat)) (rs : List Nat) (n : Nat) (L0 : LM) (Fst : FS),
  decB hp' m n0 = some (z, qs, ts) → decM hp m v = some (x, ps, rs) → (∀ j, n ≤ j → j < n + m.backs.cnt → L0 j = none) → (m.backs.flat = true ∨ ((∀ b, F' b → Fst b) ∧ ∀ b, rowF L' ts b → Fst b)) →
  ∃ L3, (∀ j, (j < n ∨ n + m.backs.cnt ≤ j) → L3 j = L0 j) ∧ qs.length = m.backs.cnt ∧ OwnM Fst L' w' hp' qs n (blkM m.backs z n) L3 ∧ EffOK Fst L' L3 w' hp' (m.pins n0) n0 ps (effB m z v n)

theorem RepB_pair {a b : Md} (ha : RepB F' L' hp' w' hp a) (hb : RepB F' L' hp' w' hp b) (n0 : Nat) (z1 : a.backs.T) (z2 : b.backs.T) (qs1 qs2 : List (Option Nat)) (ts1 ts2 : List Nat) (u t : AV) (x : a.T) (y : b.T) (ps1 ps2 : List (Option Nat)) (rs1 rs2 : List Nat) (n : Nat) (L0 : LM) (Fst : FS)
    (h1 : decB hp' a n0 = some (z1, qs1, ts1)) (h2 : decB hp' b (n0 + a.cnt) = some (z2, qs2, ts2)) (d1 : decM hp a u = some (x, ps1, rs1)) (d2 : decM hp b t = some (y, ps2, rs2)) (h0 : ∀ j, n ≤ j → j < n + (a.backs.cnt + b.backs.cnt) → L0 j = none)
    (hF : (a.backs.flat && b.backs.flat) = true ∨ ((∀ b, F' b → Fst b) ∧ ∀ b, rowF L' (ts1 ++ ts2) b → Fst b)) :
    ∃ L3, (∀ j, (j < n ∨ n + (a.backs.cnt + b.backs.cnt) ≤ j) → L3 j = L0 j) ∧ (qs1 ++ qs2).length = a.backs.cnt + b.backs.cnt ∧ OwnM Fst L' w' hp' (qs1 ++ qs2) n (blkM a.backs z1 n ++ blkM b.backs z2 (n + a.backs.cnt)) L3 ∧
      EffOK Fst L' L3 w' hp' (a.pins n0 ++ b.pins (n0 + a.cnt)) n0 (ps1 ++ ps2) (effB a z1 u n ++ effB b z2 t (n + a.backs.cnt)) := by
  obtain ⟨L1, r1, r2, r3, r4⟩ := ha n0 z1 qs1 ts1 u x ps1 rs1 n L0 Fst h1 d1 (fun j hj hj' => h0 j hj (by omega)) (hF.imp (fun h => (by simp only [Bool.and_eq_true] at h; exact h.1)) fun h => ⟨h.1, fun b hb => h.2 b (rowF_app.2 (.inl hb))⟩)
  have hfr : ∀ j, n + a.backs.cnt ≤ j → j < n + a.backs.cnt + b.backs.cnt → L1 j = none := fun j hj hj' => by rw [r1 j (.inr (by omega))]; exact h0 j (by omega) (by omega)
  obtain ⟨L2, s1, s2, s3, s4⟩ := hb (n0 + a.cnt) z2 qs2 ts2 t y ps2 rs2 (n + a.backs.cnt) L1 Fst h2 d2 hfr (hF.imp (fun h => (by simp only [Bool.and_eq_true] at h; exact h.2)) fun h => ⟨h.1, fun b hb => h.2 b (rowF_app.2 (.inr hb))⟩)
  have hL := ext_L s1 hfr
  refine ⟨L2, fun j hj => by rw [s1 j (by omega), r1 j (by omega)], by rw [List.length_append, r2, s2], OwnM.app r3 (by rw [r2]; exact s3) hL, fun i hi => ?_, fun i bk hi => ?_⟩
  · cases he : lk (effB a z1 u n) i with
    | some q => rw [lk_app_some he] at hi; exact r4.live i (by rw [he]; exact hi)
    | none => rw [lk_app_none he] at hi; exact s4.live i hi
  · have e := decM_cnt a u x ps1 rs1 d1
    cases he : lk (effB a z1 u n) i with
    | some q =>
      rw [lk_app_some he] at hi
      obtain ⟨j, l, g1, g2, g3, g4, g5, g6⟩ := r4.has i bk (by rw [he]; exact hi)
      exact ⟨j, l, List.mem_append_left _ g1, g2, by rw [List.getElem?_append_left (List.getElem?_eq_some_iff.1 g3).1]; exact g3, g4, BR_mono (fun _ h => h) hL (WL.refl _ _) (fun _ _ _ => rfl) g5, g6⟩
    | none =>
      rw [lk_app_none he] at hi
      obtain ⟨j, l, g1, g2, g3, g4, g5, g6⟩ := s4.has i bk hi
      refine ⟨j, l, List.mem_append_right _ g1, by omega, ?_, g4, g5, g6⟩
      rw [List.getElem?_append_right (by omega), e, show j - n0 - a.cnt = j - (n0 + a.cnt) by omega]; exact g3

theorem repackB (hh : HR F' L' hp' w' B0) : ∀ m : Md, RepB F' L' hp' w' hp m
  | .ro K => fun n0 z qs ts v x ps rs n L0 Fst h d h0 hF => by
    simp only [decB, Option.some.injEq, Prod.mk.injEq] at h
    obtain ⟨_, rfl, rfl⟩ := h
    exact ⟨L0, fun _ _ => rfl, rfl, OwnM.nil, fun i h => (by cases h), fun i bk h => (by cases h)⟩
  | .ow K => fun n0 z qs ts v x ps rs n L0 Fst h d h0 hF => by
    simp only [decB, Option.some.injEq, Prod.mk.injEq] at h
    obtain ⟨_, rfl, rfl⟩ := h
    exact ⟨L0, fun _ _ => rfl, rfl, OwnM.nil, fun i h => (by cases h), fun i bk h => (by cases h)⟩
  | .mp Kk Kv => fun n0 z qs ts v x ps rs n L0 Fst h d h0 hF => by
    simp only [decB, Option.some.injEq, Prod.mk.injEq] at h
    obtain ⟨_, rfl, rfl⟩ := h
    exact ⟨L0, fun _ _ => rfl, rfl, OwnM.nil, fun i h => (by cases h), fun i bk h => (by cases h)⟩
  | .nil => fun n0 z qs ts v x ps rs n L0 Fst h d h0 hF => by
    simp only [decB, Option.some.injEq, Prod.mk.injEq] at h
    obtain ⟨_, rfl, rfl⟩ := h
    exact ⟨L0, fun _ _ => rfl, rfl, OwnM.nil, fun i h => (by cases h), fun i bk h => (by cases h)⟩
  | .bx m => fun n0 z qs ts v x ps rs n L0 Fst h d h0 hF => by
    obtain ⟨u, hid, h⟩ : ∃ u, hp' n0 = some (.box u) ∧ decM hp' m u = some (z, qs, ts) := by
      unfold decB at h
      cases hx : hp' n0 with
      | none => rw [hx] at h; cases h
      | some bk =>
        rw [hx] at h
        cases bk with
        | box u => exact ⟨u, rfl, h⟩
        | _ => cases h
    obtain ⟨l, e1, ⟨q1, q2, b', o', cs', g1, g2, g3, g4⟩, _⟩ := hh.blk n0 _ hid
    obtain ⟨L3, r1, r2, r3⟩ := (repack hh m).1 u z qs ts cs' n L0 Fst h g3 h0 hF
    refine ⟨L3, r1, decM_cnt m u z qs ts h, r3, ?_⟩
    simp only [decM] at d
    split at d
    case h_2 => cases d
    rename_i id
    split at d
    case h_2 => cases d
    split at d
    case h_2 => cases d
    simp only [Option.some.injEq, Prod.mk.injEq] at d
    obtain ⟨rfl, rfl, rfl⟩ := d
    refine ⟨fun i hi => ?_, fun i bk hi => ?_⟩
    · simp only [effB, lk_one] at hi
      split at hi <;> cases hi
    · simp only [effB, lk_one] at hi
      split at hi
      · rename_i e
        subst e
        cases hi
        refine ⟨n0, l, by simp [Md.pins], Nat.le_refl _, by simp, e1, ⟨q1, ?_, b', o', cs', g1, g2, r2, g4⟩, by rw [hid]; simp⟩
        rw [q2, (decM_sh m u z qs ts h n).1]
      · cases hi
  | .cons a b => fun n0 z qs ts v x ps rs n L0 Fst h d h0 hF => by
    simp only [decB] at h
    split at h
    case h_2 => cases h
    rename_i z1 qs1 ts1 h1
    split at h
    case h_2 => cases h
    rename_i z2 qs2 ts2 h2
    simp only [Option.some.injEq, Prod.mk.injEq] at h
    obtain ⟨rfl, rfl, rfl⟩ := h
    simp only [decM] at d
    split at d
    case h_2 => cases d
    rename_i u t
    split at d
    case h_2 => cases d
    rename_i d1
    split at d
    case h_2 => cases d
    rename_i d2
    simp only [Option.some.injEq, Prod.mk.injEq] at d
    obtain ⟨rfl, rfl, rfl⟩ := d
    exact RepB_pair (repackB hh a) (repackB hh b) n0 z1 z2 qs1 qs2 ts1 ts2 u t _ _ _ _ _ _ n L0 Fst h1 h2 d1 d2 h0 hF
  | .fn f a b => fun n0 z qs ts v x ps rs n L0 Fst h d h0 hF => by
    simp only [decB] at h
    split at h
    case h_2 => cases h
    rename_i z1 qs1 ts1 h1
    split at h
    case h_2 => cases h
    rename_i z2 qs2 ts2 h2
    simp only [Option.some.injEq, Prod.mk.injEq] at h
    obtain ⟨rfl, rfl, rfl⟩ := h
    simp only [decM] at d
    split at d
    case h_2 => cases d
    rename_i g u t
    cases hb : (Nat.beq f g && (a.chain && b.chain)) with
    | false => rw [hb] at d; cases d
    | true =>
      rw [hb] at d
      simp only [cond_true] at d
      split at d
      case h_2 => cases d
      rename_i d1
      split at d
      case h_2 => cases d
      rename_i d2
      simp only [Option.some.injEq, Prod.mk.injEq] at d
      obtain ⟨rfl, rfl, rfl⟩ := d
      exact RepB_pair (repackB hh a) (repackB hh b) n0 z1 z2 qs1 qs2 ts1 ts2 u t _ _ _ _ _ _ n L0 Fst h1 h2 d1 d2 h0 hF

theorem decB_live : ∀ (m : Md) (n : Nat) (z : m.backs.T) (qs : List (Option Nat)) (ts : List Nat), decB hp m n = some (z, qs, ts) → (∀ i ∈ ts, hp i ≠ none) ∧ ∀ i, some i ∈ qs → hp i ≠ none
  | .ro _, n, z, qs, ts, h | .ow _, n, z, qs, ts, h | .mp _ _, n, z, qs, ts, h | .nil, n, z, qs, ts, h => by
    simp only [decB, Option.some.injEq, Prod.mk.injEq] at h
    obtain ⟨_, rfl, rfl⟩ := h
    exact ⟨fun i hi => by simp at hi, fun i hi => by simp at hi⟩
  | .bx m, n, z, qs, ts, h => by
    unfold decB at h
    cases hx : hp n with
    | none => rw [hx] at h; cases h
    | some bk =>
      rw [hx] at h
      cases bk with
      | box u => exact decM_live m _ _ _ _ h
      | _ => cases h
  | .cons a b, n, z, qs, ts, h | .fn _ a b, n, z, qs, ts, h => by
    simp only [decB] at h
    split at h
    case h_2 => cases h
    rename_i h1
    split at h
    case h_2 => cases h
    rename_i h2
    simp only [Option.some.injEq, Prod.mk.injEq] at h
    obtain ⟨rfl, rfl, rfl⟩ := h
    have i1 := decB_live a _ _ _ _ h1
    have i2 := decB_live b _ _ _ _ h2
    exact ⟨fun i hi => (List.mem_append.1 hi).elim (i1.1 i) (i2.1 i), fun i hi => (List.mem_append.1 hi).elim (i1.2 i) (i2.2 i)⟩

theorem outA_sound : ∀ (v : AV) (vs : List Value), CV F L w v vs → VV F L w (outA v) (if h : vs.toArray.size = 1 then vs.toArray[0] else .tuple vs.toArray)
  | .nil, vs, h => by
    have h' : vs = [] := by simpa only [CV] using h
    subst h'
    exact ⟨[], rfl, h⟩
  | .cons a .nil, vs, h => by
    simp only [CV] at h
    obtain ⟨v, vs', rfl, h1, rfl⟩ := h
    show VV F L w a v
    rcases h1 with ⟨rfl, rfl⟩ | rfl | h1
    · rfl
    · trivial
    · cases a <;> first | exact h1 | (simp [AV.isAgg, VR] at h1; done) | trivial
  | .cons a (.cons b c), vs, h => by
    have hl := CV_len _ _ h
    simp only [chainLen] at hl
    rw [dif_neg (by simp; omega)]
    exact ⟨vs, rfl, h⟩
  | .cons a .undef, _, h | .cons a .dead, _, h | .cons a (.int _ _), _, h | .cons a (.bool _), _, h | .cons a (.str _), _, h | .cons a .nilp, _, h | .cons a (.ptr _ _ _), _, h | .cons a (.rptr _ _ _ _), _, h | .cons a .nils, _, h | .cons a (.rs _ _ _ _), _, h | .cons a (.hs _ _ _), _, h | .cons a (.hw _), _, h | .cons a .nilm, _, h | .cons a (.mapv _), _, h | .cons a .nilf, _, h
  | .cons a (.fn _ _ _), _, h | .cons a .nili, _, h | .cons a (.iface _ _), _, h | .cons a (.arr _ _ _), _, h | .cons a (.tup _), _, h => by simp only [CV] at h; obtain ⟨_, _, _, _, h⟩ := h; exact h.elim
  | .undef, _, h | .dead, _, h | .int _ _, _, h | .bool _, _, h | .str _, _, h | .nilp, _, h | .ptr _ _ _, _, h | .rptr _ _ _ _, _, h | .nils, _, h | .rs _ _ _ _, _, h | .hs _ _ _, _, h | .hw _, _, h | .nilm, _, h | .mapv _, _, h | .nilf, _, h
  | .fn _ _ _, _, h | .nili, _, h | .iface _ _, _, h | .arr _ _ _, _, h | .tup _, _, h => by simp only [CV] at h

theorem lk_kill {K : List Nat} {i : Nat} : (i ∈ K → lk (kill K) i = some none) ∧ (i ∉ K → lk (kill K) i = none) := by
  refine ⟨fun h => ?_, fun h => ?_⟩
  · have := lk_kill_mem (r := []) h; rwa [List.append_nil] at this
  · have := lk_kill_not (r := []) h; rw [List.append_nil] at this; rw [this]; rfl

theorem srcIds_map : ∀ (l : List Nat), srcIds (l.map some) = l
  | [] => rfl
  | a :: l => by simp [srcIds, srcIds_map l]

theorem fnM_start (c : Cx) (hS : SpecOK c.S c.P c.gl) (hm : c.P.follows .mixedOrders = true) (hgl : GlOk c.gl) {id : Nat} {fn : Func} {code : Code} (hfn : c.P.funcs[id]? = some fn) (hname : (fn.name == "runtime.NumGoroutine") = false) (hb : fn.body = some code) (hok : okC fn.ntmps code = true)
    {ma mo : Md} (hch : (ma.chain && mo.chain) = true) (hlen : Nat.ble ma.len fn.ntmps = true) (hpin : c.pin = ma.pins 0) {f : ma.T → Bool × (mo.T × ma.backs.T)} (hrun : ∀ x, (f x).1 = true → ∃ fuel, StartAt { c with fuel := fuel } fn code ma mo x (f x).2) : FnOK c.P c.gl id (fnM ma mo f) := by
  refine ⟨fun args hp key r hr => ⟨fn, code, hfn, hname, hb⟩, fun args hp key v Δ hr F L w B0 vs hh hB hf hg hcv => ?_⟩
  simp only [Bool.and_eq_true] at hch
  unfold fnM at hr
  split at hr
  case h_2 => cases hr
  rename_i x ps rs hd
  cases hq : (apartP ps rs && Nat.ble (mo.cnt + ma.backs.cnt) 64) with
  | false => rw [hq] at hr; cases hr
  | true =>
  rw [hq] at hr
  simp only [cond_true, Option.some.injEq, Prod.mk.injEq] at hr
  obtain ⟨hx1, rfl, rfl⟩ := hr
  simp only [Bool.and_eq_true] at hq
  obtain ⟨hap, hcnt⟩ := hq
  have hcnt := Nat.le_of_ble_eq_true hcnt
  obtain ⟨fuel, hrun⟩ := hrun x hx1
  refine Calls.mono (callM_sound { c with fuel := fuel } hS hm hgl hfn hb hok hch.1 (Nat.le_of_ble_eq_true hlen) hpin hrun hh hg hd hap hcv) ?_
  rintro e w' ⟨vs', F', L', hp', v', L1, ps', rs', qs, ts, rfl, hh', hgr, hcv', hy, hz, hap', ho, hpn⟩
  generalize (f x).2.1 = y at *
  generalize (f x).2.2 = z at *
  have hap0 := hap
  simp only [apartP, Bool.and_eq_true] at hap hap'
  obtain ⟨hnd, hdj⟩ := hap
  obtain ⟨hnd', hdj'⟩ := hap'
  have hnd' := nodup_iff.1 hnd'
  have hl1 := decM_live ma args x ps rs hd
  have hl2 := decM_live mo v' y ps' rs' hy
  have hl3 := decB_live ma 0 z qs ts hz
  have hcy := decM_cnt mo v' y ps' rs' hy
  -- ids that were there are not new
  have notnew : ∀ i, hp i ≠ none → ∃ l, L i = some l ∧ ¬ (key ≤ i ∧ i < key + 64) := by
    intro i hi
    cases hbk : hp i with
    | none => exact absurd hbk hi
    | some bk =>
      obtain ⟨l, e1, _⟩ := hh.blk i bk hbk
      exact ⟨l, e1, fun h => by rw [hf i h.1 h.2] at e1; cases e1⟩
  have srcLive : ∀ i ∈ srcIds ps, hp i ≠ none := fun i hi => hl1.2 i (mem_srcIds.1 hi)
  have A_B0 : ∀ b, (w.heap.size ≤ b ∨ rowF L (srcIds ps) b) → B0 b := by
    rintro b (h | ⟨i, hi, l, o, h1, h2⟩)
    · exact hB b h
    · cases hbk : hp i with
      | none => exact absurd hbk (srcLive i hi)
      | some bk =>
        obtain ⟨l', e1, _, e2⟩ := hh.blk i bk hbk
        rw [h1] at e1; cases e1
        exact (e2 b o h2).1
  have main : ∀ (Fst : FS) (X : List Nat), ((mo.flat = true ∧ ma.backs.flat = true) ∨ ((∀ b, F' b → Fst b) ∧ ∀ b, rowF L' (rs' ++ ts) b → Fst b)) → (∀ i ∈ X, i ∈ rs) → (∀ b, F b → Fst b) → (∀ b, Fst b → F b ∨ F' b ∨ rowF L' (rs' ++ ts) b) →
      ((∀ b, Fst b → F b) ∨ X = rs) → (∀ b, Fst b → b < w'.heap.size) →
      ∃ v1 F'' L'', Ending.returned (if h : vs'.toArray.size = 1 then vs'.toArray[0] else .tuple vs'.toArray) = .returned v1 ∧ Post F L w B0 hp key (outA (encM mo y key)) (effB ma z args (key + mo.cnt) ++ (blkM mo y key ++ (blkM ma.backs z (key + mo.cnt) ++ kill (srcIds ps ++ X)))) F'' L'' w' v1 := by
    intro Fst X hFst hX hF1 hF2 hF3 hF4
    obtain ⟨L2, r1, r2, r3⟩ := (repack hh' mo).2 v' y ps' rs' vs' key L Fst hch.2 hy hcv' (fun j hj hj' => hf j hj (by omega)) (hFst.imp (·.1) fun h => ⟨h.1, fun b hb => h.2 b (rowF_app.2 (.inl hb))⟩)
    have hfr2 : ∀ j, key + mo.cnt ≤ j → j < key + mo.cnt + ma.backs.cnt → L2 j = none := fun j hj hj' => by rw [r1 j (.inr hj)]; exact hf j (by omega) (by omega)
    obtain ⟨L3, s1, s2, s3, s4⟩ := repackB hh' ma 0 z qs ts args x ps rs (key + mo.cnt) L2 Fst hz hd hfr2 (hFst.imp (·.2) fun h => ⟨h.1, fun b hb => h.2 b (rowF_app.2 (.inr hb))⟩)
    have hL23 := ext_L s1 hfr2
    have own : OwnM Fst L' w' hp' (ps' ++ qs) key (blkM mo y key ++ blkM ma.backs z (key + mo.cnt)) L3 := OwnM.app r3 (by rw [hcy]; exact s3) hL23
    have hlenq : (ps' ++ qs).length = mo.cnt + ma.backs.cnt := by rw [List.length_append, hcy, s2]
    have out3 : ∀ i, ¬ (key ≤ i ∧ i < key + 64) → L3 i = L i := fun i hi => by rw [s1 i (by omega), r1 i (by omega)]
    have lle : ∀ i l, L i = some l → L3 i = some l := by
      intro i l hl
      rw [out3 i (fun h => by rw [hf i h.1 h.2] at hl; cases hl)]; exact hl
    rw [← List.append_assoc (blkM mo y key)]
    -- a given-back box and its block
    have back : ∀ i bk, lk (effB ma z args (key + mo.cnt)) i = some (some bk) → ∃ j l, j ∈ ma.pins 0 ∧ ps[j]? = some (some i) ∧ L' j = some l ∧ L i = some l ∧ BR Fst L3 w' l bk ∧ hp' j ≠ none := by
      intro i bk h
      obtain ⟨j, l, g1, _, g3, g4, g5, g6⟩ := s4.has i bk h
      rw [Nat.sub_zero] at g3
      obtain ⟨_, _, u, hu⟩ := pins_box ma x 0 j g1
      obtain ⟨i', k1, k2⟩ := ho.box j u hu
      rw [Nat.sub_zero, g3] at k1
      obtain rfl : i = i' := by simpa using k1
      obtain ⟨l1, e1, _⟩ := ho.has j _ hu
      have := hpn j g1 l1 e1
      rw [g4] at this
      obtain rfl : l = l1 := by simpa using this
      exact ⟨j, l, g1, g3, g4, by rw [← k2, e1], g5, g6⟩
    have effDom : ∀ i, lk (effB ma z args (key + mo.cnt)) i ≠ none → i ∈ srcIds ps := by
      intro i h
      cases he : lk (effB ma z args (key + mo.cnt)) i with
      | none => exact absurd he h
      | some q =>
        cases q with
        | none => exact absurd he (s4.live i)
        | some bk =>
          obtain ⟨j, l, _, g3, _⟩ := back i bk he
          exact mem_srcIds.2 (List.mem_of_getElem? g3)
    have ownDom : ∀ i, lk (blkM mo y key ++ blkM ma.backs z (key + mo.cnt)) i ≠ none → key ≤ i ∧ i < key + 64 := fun i h => by have := own.dom i h; omega
    -- where a live block comes from
    have src : ∀ i bk, lk (effB ma z args (key + mo.cnt) ++ ((blkM mo y key ++ blkM ma.backs z (key + mo.cnt)) ++ kill (srcIds ps ++ X))) i = some (some bk) →
        ∃ l, L3 i = some l ∧ BR Fst L3 w' l bk ∧ ∀ b o, l.at_ = some (b, o) → ∃ j li o', L' j = some li ∧ li.at_ = some (b, o') ∧ hp' j ≠ none ∧ ((j ∈ ma.pins 0 ∧ ps[j]? = some (some i)) ∨ (key ≤ i ∧ (ps' ++ qs)[i - key]? = some (some j))) := by
      intro i bk h
      cases he : lk (effB ma z args (key + mo.cnt)) i with
      | some q =>
        rw [lk_app_some he] at h
        simp only [Option.some.injEq] at h
        subst h
        obtain ⟨j, l, g1, g3, g4, g5, g6, g7⟩ := back i bk he
        exact ⟨l, lle i l g5, g6, fun b o hbo => ⟨j, l, o, g4, hbo, g7, .inl ⟨g1, g3⟩⟩⟩
      | none =>
        rw [lk_app_none he] at h
        cases he2 : lk (blkM mo y key ++ blkM ma.backs z (key + mo.cnt)) i with
        | some q =>
          rw [lk_app_some he2] at h
          simp only [Option.some.injEq] at h
          subst h
          obtain ⟨l, g1, g2, g3⟩ := own.has i bk he2
          have hk := ownDom i (by rw [he2]; simp)
          refine ⟨l, g1, g2, fun b o hbo => ?_⟩
          obtain ⟨j, li, o', k1, k2, k3, k4⟩ := g3 b o hbo
          exact ⟨j, li, o', k2, k3, k4, .inr ⟨hk.1, k1⟩⟩
        | none =>
          rw [lk_app_none he2] at h
          by_cases hm : i ∈ srcIds ps ++ X
          · rw [lk_kill.1 hm] at h; cases h
          · rw [lk_kill.2 hm] at h; cases h
    have inS : ∀ i j, ((j ∈ ma.pins 0 ∧ ps[j]? = some (some i)) ∨ (key ≤ i ∧ (ps' ++ qs)[i - key]? = some (some j))) → j ∈ srcIds ((ps' ++ qs) ++ (ma.pins 0).map some) := by
      rintro i j (⟨h, _⟩ | ⟨_, h⟩)
      · exact mem_srcIds.2 (by simp [h])
      · exact mem_srcIds.2 (List.mem_append_left _ (List.mem_of_getElem? h))
    have notF : ∀ j li b o, L' j = some li → li.at_ = some (b, o) → hp' j ≠ none → j ∈ srcIds ((ps' ++ qs) ++ (ma.pins 0).map some) → (w.heap.size ≤ b ∨ rowF L (srcIds ps) b) ∧ b < w'.heap.size ∧ ¬ F' b ∧ ¬ rowF L' (rs' ++ ts) b := by
      intro j li b o h1 h2 h3 h4
      cases hbk : hp' j with
      | none => exact absurd hbk h3
      | some bk =>
        obtain ⟨l', e1, _, e2⟩ := hh'.blk j bk hbk
        rw [h1] at e1; cases e1
        obtain ⟨k1, k2, k3⟩ := e2 b o h2
        refine ⟨k1, k2, k3, ?_⟩
        rintro ⟨r, hr, lr, or', m1, m2⟩
        have hrl : hp' r ≠ none := (List.mem_append.1 hr).elim (hl2.1 r) (hl3.1 r)
        exact hh'.inj j r li lr b o or' (fun e => not_disj hdj' hr (e ▸ h4)) h3 hrl h1 m1 h2 m2
    have ctx : ∀ b, (w.heap.size ≤ b ∨ rowF L (srcIds ps) b) → w.heap.size ≤ b ∨ ∃ i l o, lk (effB ma z args (key + mo.cnt) ++ ((blkM mo y key ++ blkM ma.backs z (key + mo.cnt)) ++ kill (srcIds ps ++ X))) i ≠ none ∧ hp i ≠ none ∧ L i = some l ∧ l.at_ = some (b, o) := by
      rintro b (h | ⟨i, hi, l, o, h1, h2⟩)
      · exact .inl h
      · refine .inr ⟨i, l, o, ?_, srcLive i hi, h1, h2⟩
        cases he : lk (effB ma z args (key + mo.cnt)) i with
        | some q => rw [lk_app_some he]; simp
        | none =>
          rw [lk_app_none he]
          obtain ⟨_, _, hno⟩ := notnew i (srcLive i hi)
          have he2 : lk (blkM mo y key ++ blkM ma.backs z (key + mo.cnt)) i = none := by
            cases h' : lk (blkM mo y key ++ blkM ma.backs z (key + mo.cnt)) i with
            | none => rfl
            | some q => exact absurd (ownDom i (by rw [h']; simp)) hno
          rw [lk_app_none he2, lk_kill.1 (List.mem_append_left _ hi)]; simp
    refine ⟨_, Fst, L3, rfl, ?_⟩
    refine { val := outA_sound _ _ (CV_mono (fun _ h => h) hL23 (WL.refl _ _) _ _ r2), fle := hF1, lle := lle, lnew := ?_, sz := hgr.sz, csz := hgr.csz, fb := hF4, fnew := ?_, frame := ?_, hr := ?_, inj := ?_, dom := ?_, env := hgr.env }
    · intro i l h
      by_cases hk : key ≤ i ∧ i < key + 64
      · exact .inr hk
      · rw [out3 i hk] at h; exact .inl h
    · intro b hb
      rcases hF3 with hF3 | hF3
      · exact .inl (hF3 b hb)
      subst hF3
      have killed : ∀ i, i ∈ srcIds ps ++ X → lk (effB ma z args (key + mo.cnt)) i = none → lk (effB ma z args (key + mo.cnt) ++ ((blkM mo y key ++ blkM ma.backs z (key + mo.cnt)) ++ kill (srcIds ps ++ X))) i = some none := by
        intro i hi he
        have hlive : hp i ≠ none := (List.mem_append.1 hi).elim (srcLive i) (hl1.1 i)
        obtain ⟨_, _, hno⟩ := notnew i hlive
        have he2 : lk (blkM mo y key ++ blkM ma.backs z (key + mo.cnt)) i = none := by
          cases h' : lk (blkM mo y key ++ blkM ma.backs z (key + mo.cnt)) i with
          | none => rfl
          | some q => exact absurd (ownDom i (by rw [h']; simp)) hno
        rw [lk_app_none he, lk_app_none he2, lk_kill.1 hi]
      -- a passed block that is kept from writing was not given back
      have passed : ∀ i l o, i ∈ srcIds ps → L i = some l → l.at_ = some (b, o) → lk (effB ma z args (key + mo.cnt)) i = none := by
        intro i l o hi h1 h2
        cases he : lk (effB ma z args (key + mo.cnt)) i with
        | none => rfl
        | some q =>
          cases q with
          | none => exact absurd he (s4.live i)
          | some bk =>
            obtain ⟨j, l', g1, g3, g4, g5, g6, g7⟩ := back i bk he
            rw [h1] at g5; cases g5
            obtain ⟨_, _, n1, n2⟩ := notF j l b o g4 h2 g7 (mem_srcIds.2 (by simp [g1]))
            rcases hF2 b hb with h | h | h
            · exact absurd (hgr.fle b (.inl h)) n1
            · exact absurd h n1
            · exact absurd h n2
      have ofA : (w.heap.size ≤ b ∨ rowF L (srcIds ps) b) → F b ∨ w.heap.size ≤ b ∨ ∃ id l o, lk (effB ma z args (key + mo.cnt) ++ ((blkM mo y key ++ blkM ma.backs z (key + mo.cnt)) ++ kill (srcIds ps ++ X))) id = some none ∧ L id = some l ∧ l.at_ = some (b, o) := by
        rintro (h | ⟨i, hi, l, o, h1, h2⟩)
        · exact .inr (.inl h)
        · exact .inr (.inr ⟨i, l, o, killed i (List.mem_append_left _ hi) (passed i l o hi h1 h2), h1, h2⟩)
      rcases hF2 b hb with h | h | h
      · exact .inl h
      · rcases hgr.fnew b h with (h | ⟨r, hr, l, o, h1, h2⟩) | h
        · exact .inl h
        · refine .inr (.inr ⟨r, l, o, killed r (List.mem_append_right _ hr) ?_, h1, h2⟩)
          cases he : lk (effB ma z args (key + mo.cnt)) r with
          | none => rfl
          | some q => exact (not_disj hdj hr (effDom r (by rw [he]; simp))).elim
        · exact ofA h
      · obtain ⟨r, hr, l, o, h1, h2⟩ := h
        have hrl : hp' r ≠ none := (List.mem_append.1 hr).elim (hl2.1 r) (hl3.1 r)
        cases hbk : hp' r with
        | none => exact absurd hbk hrl
        | some bk =>
          obtain ⟨l', e1, _, e2⟩ := hh'.blk r bk hbk
          rw [h1] at e1; cases e1
          exact ofA (e2 b o h2).1
    · intro b hb hn
      refine hgr.frame b fun hA => ?_
      rcases ctx b hA with h | ⟨i, l, o, h1, h2, h3, h4⟩
      · omega
      · exact hn i l o h1 h2 h3 h4
    · intro i bk h
      obtain ⟨l, e1, e2, e3⟩ := src i bk h
      refine ⟨l, e1, e2, fun b o hbo => ?_⟩
      obtain ⟨j, li, o', g1, g2, g3, g4⟩ := e3 b o hbo
      obtain ⟨k1, k2, k3, k4⟩ := notF j li b o' g1 g2 g3 (inS i j g4)
      refine ⟨A_B0 b k1, k2, fun hFb => ?_, ctx b k1⟩
      rcases hF2 b hFb with h | h | h
      · exact k3 (hgr.fle b (.inl h))
      · exact k3 h
      · exact k4 h
    · intro i i' bk bk' l l' b o o' hne h1 h2 h3 h4 h5 h6
      obtain ⟨l1, e1, _, e3⟩ := src i bk h1
      obtain ⟨l2, e1', _, e3'⟩ := src i' bk' h2
      rw [h3] at e1; cases e1
      rw [h4] at e1'; cases e1'
      obtain ⟨j, li, oj, g1, g2, g3, g4⟩ := e3 b o h5
      obtain ⟨j', li', oj', g1', g2', g3', g4'⟩ := e3' b o' h6
      refine hh'.inj j j' li li' b oj oj' (fun e => ?_) g3 g3' g1 g1' g2 g2'
      subst e
      rw [srcIds_app, srcIds_map] at hnd'
      obtain ⟨nd1, nd2, nd3⟩ := List.nodup_append.1 hnd'
      rcases g4 with ⟨a1, a2⟩ | ⟨a1, a2⟩ <;> rcases g4' with ⟨b1, b2⟩ | ⟨b1, b2⟩
      · rw [a2] at b2; simp only [Option.some.injEq] at b2; exact hne b2
      · exact nd3 j (mem_srcIds.2 (List.mem_of_getElem? b2)) j a1 rfl
      · exact nd3 j (mem_srcIds.2 (List.mem_of_getElem? a2)) j b1 rfl
      · have := srcIds_ne nd1 a2 b2; omega
    · intro i h
      cases he : lk (effB ma z args (key + mo.cnt)) i with
      | some q => exact .inl (srcLive i (effDom i (by rw [he]; simp)))
      | none =>
        rw [lk_app_none he] at h
        cases he2 : lk (blkM mo y key ++ blkM ma.backs z (key + mo.cnt)) i with
        | some q => exact .inr (ownDom i (by rw [he2]; simp))
        | none =>
          rw [lk_app_none he2] at h
          by_cases hm : i ∈ srcIds ps ++ X
          · exact .inl ((List.mem_append.1 hm).elim (srcLive i) fun h => hl1.1 i (hX i h))
          · rw [lk_kill.2 hm] at h; exact absurd rfl h
  cases hfl : (mo.flat && ma.backs.flat) with
  | true =>
    simp only [Bool.and_eq_true] at hfl
    exact main F [] (.inl hfl) (fun i hi => by cases hi) (fun _ h => h) (fun _ h => .inl h) (.inl fun _ h => h) (fun b hb => Nat.lt_of_lt_of_le (hh.fb b hb) hgr.sz)
  | false =>
    refine main (fun b => F' b ∨ rowF L' (rs' ++ ts) b) rs (.inr ⟨fun _ h => .inl h, fun _ h => .inr h⟩) (fun i hi => hi) (fun b h => .inl (hgr.fle b (.inl h))) (fun b h => h.elim (fun h => .inr (.inl h)) fun h => .inr (.inr h)) (.inr rfl) ?_
    rintro b (h | h)
    · exact hh'.fb b h
    · exact rowF_lt hh' (fun i hi => (List.mem_append.1 hi).elim (hl2.1 i) (hl3.1 i)) h

theorem fnM_sound (c : Cx) (hS : SpecOK c.S c.P c.gl) (hm : c.P.follows .mixedOrders = true) (hgl : GlOk c.gl) {id : Nat} {fn : Func} {code : Code} (hfn : c.P.funcs[id]? = some fn) (hname : (fn.name == "runtime.NumGoroutine") = false) (hb : fn.body = some code) (hok : okC fn.ntmps code = true)
    {ma mo : Md} (hch : (ma.chain && mo.chain) = true) (hlen : Nat.ble ma.len fn.ntmps = true) (hpin : c.pin = ma.pins 0) {f : ma.T → Bool × (mo.T × ma.backs.T)} (hrun : ∀ x, (f x).1 = true → ∃ fuel, runM { c with fuel := fuel } fn code ma mo x = some (f x).2) : FnOK c.P c.gl id (fnM ma mo f) :=
  fnM_start c hS hm hgl hfn hname hb hok hch hlen hpin fun x hx => by
    obtain ⟨fuel, h⟩ := hrun x hx
    exact ⟨fuel, StartAt.of_run h⟩

/-- A slice that is asked for nil: it is nil, or it is not. -/
theorem rs_split {K : Kd} {xs : List K.T} {nn full : Bool} {v : Value} (h : VR F L w (.rs K xs nn full) [v]) : (VR F L w .nils [v] ∧ xs = []) ∨ VR F L w (.rs K xs true full) [v] := by
  simp only [VR] at h
  obtain ⟨a, c, h1, h2, h3, h4, h5, h6⟩ := h
  cases a with
  | none =>
    left
    have hc := h3.2 rfl
    have hx : xs = [] := by apply List.eq_nil_of_length_eq_zero; omega
    subst hx hc
    exact ⟨by simp only [VR]; simpa using h1, rfl⟩
  | some a =>
    right
    simp only [VR]
    exact ⟨some a, c, h1, h2, h3, h4, fun _ => rfl, h6⟩

/-- One slice as an argument, asked for nil. -/
theorem StartAt.nil1 {c : Cx} {fn : Func} {code : Code} {K : Kd} {mo : Md} {xs : List K.T} {r : mo.T × (Md.cons (.ro (.sl K)) .nil).backs.T}
    (h0 : xs = [] → evK c code 1 { tm := [(0, .nils)], hp := [], nx := 0 } (finM c.P fn (.cons (.ro (.sl K)) .nil) mo) = some r)
    (h1 : evK c code 1 { tm := [(0, .rs K xs true false)], hp := [], nx := 0 } (finM c.P fn (.cons (.ro (.sl K)) .nil) mo) = some r) : StartAt c fn code (.cons (.ro (.sl K)) .nil) mo (xs, ()) r := by
  intro F L w vs hv
  simp only [encM, enc, CV] at hv
  obtain ⟨v, vs', rfl, hv1, rfl⟩ := hv
  have hv2 : VR F L w (.rs K xs false false) [v] := by
    rcases hv1 with ⟨h, _⟩ | h | h
    · cases h
    · cases h
    · exact h
  rcases rs_split hv2 with ⟨h, hx⟩ | h
  · exact ⟨.cons .nils .nil, by simp only [CV]; exact ⟨v, [], rfl, .inr (.inr h), rfl⟩, h0 hx⟩
  · exact ⟨.cons (.rs K xs true false) .nil, by simp only [CV]; exact ⟨v, [], rfl, .inr (.inr h), rfl⟩, h1⟩

end
end Go.Proofs.Ytkmeimhapokdlaa.Ae
