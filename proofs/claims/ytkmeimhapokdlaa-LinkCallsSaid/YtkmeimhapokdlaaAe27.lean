/- A value numbered anew. Lemmas alone. -/
import Derived.Test.YtkmeimhapokdlaaAe26
set_option linter.unusedVariables false
set_option linter.unusedSimpArgs false
namespace Go.Proofs.Ytkmeimhapokdlaa.Ae
open Go

section
variable {F F' Fst : FS} {L L0 L1 : LM} {w w' : World} {P : Program} {hp : Hp} {B0 : FS}

def RepV (F : FS) (L : LM) (hp : Hp) (w : World) (m : Md) : Prop := ∀ (v : AV) (x : m.T) (ps : List (Option Nat)) (rs : List Nat) (cs : List Value) (n : Nat) (L0 : LM) (Fst : FS), decM hp m v = some (x, ps, rs) → VR F L w v cs →
  (∀ j, n ≤ j → j < n + m.cnt → L0 j = none) → (m.flat = true ∨ ((∀ b, F b → Fst b) ∧ ∀ b, rowF L rs b → Fst b)) →
  ∃ L1, (∀ j, (j < n ∨ n + m.cnt ≤ j) → L1 j = L0 j) ∧ VR Fst L1 w (encM m x n) cs ∧ OwnM Fst L w hp ps n (blkM m x n) L1

def RepC (F : FS) (L : LM) (hp : Hp) (w : World) (m : Md) : Prop := ∀ (v : AV) (x : m.T) (ps : List (Option Nat)) (rs : List Nat) (vs : List Value) (n : Nat) (L0 : LM) (Fst : FS), m.chain = true → decM hp m v = some (x, ps, rs) → CV F L w v vs →
  (∀ j, n ≤ j → j < n + m.cnt → L0 j = none) → (m.flat = true ∨ ((∀ b, F b → Fst b) ∧ ∀ b, rowF L rs b → Fst b)) →
  ∃ L1, (∀ j, (j < n ∨ n + m.cnt ≤ j) → L1 j = L0 j) ∧ CV Fst L1 w (encM m x n) vs ∧ OwnM Fst L w hp ps n (blkM m x n) L1

theorem ext_L {n k : Nat} (h : ∀ j, (j < n ∨ n + k ≤ j) → L1 j = L0 j) (h0 : ∀ j, n ≤ j → j < n + k → L0 j = none) : ∀ id l, L0 id = some l → L1 id = some l := by
  intro id l hl
  rw [h id ?_]
  · exact hl
  · apply Classical.byContradiction
    intro hn
    rw [h0 id (by omega) (by omega)] at hl
    cases hl

theorem repack (hh : HR F L hp w B0) : ∀ m : Md, RepV F L hp w m ∧ RepC F L hp w m
  | .ro K => by
    refine ⟨fun v x ps rs cs n L0 Fst hd hv h0 hF => ?_, fun _ _ _ _ _ _ _ _ hc => (by cases hc)⟩
    simp only [decM] at hd
    split at hd
    case h_2 => cases hd
    rename_i y hy
    simp only [Option.some.injEq, Prod.mk.injEq] at hd
    obtain ⟨rfl, rfl, rfl⟩ := hd
    have := dec_RK hh K v y cs hy hv
    exact ⟨L0, fun _ _ => rfl, VR_enc K y cs (RK_to (hF.imp (fun h => h) fun h b hb => hb.elim (h.1 b) (h.2 b)) y cs this), OwnM.nil⟩
  | .nil => by
    refine ⟨fun v x ps rs cs n L0 Fst hd hv h0 hF => ?_, fun v x ps rs vs n L0 Fst _ hd hv h0 hF => ?_⟩
    all_goals
      simp only [decM] at hd
      split at hd
      case h_2 => cases hd
      simp only [Option.some.injEq, Prod.mk.injEq] at hd
      obtain ⟨_, rfl, rfl⟩ := hd
    · simp only [VR] at hv
      exact ⟨L0, fun _ _ => rfl, by simp only [encM, VR]; exact hv, OwnM.nil⟩
    · simp only [CV] at hv
      exact ⟨L0, fun _ _ => rfl, by simp only [encM, CV]; exact hv, OwnM.nil⟩
  | .ow K => by
    refine ⟨fun v x ps rs cs n L0 Fst hd hv h0 hF => ?_, fun _ _ _ _ _ _ _ _ hc => (by cases hc)⟩
    have fresh : ∀ (l : Loc) j, (j < n ∨ n + (Md.ow K).cnt ≤ j) → setL L0 n l j = L0 j := fun l j hj => setL_ne (by simp only [Md.cnt] at hj; omega)
    simp only [decM] at hd
    split at hd
    · simp only [Option.some.injEq, Prod.mk.injEq] at hd
      obtain ⟨rfl, rfl, rfl⟩ := hd
      simp only [VR] at hv
      subst hv
      refine ⟨setL L0 n ⟨none, K.sh, 0⟩, fresh _, ?_, ?_⟩
      · simp only [encM, VR]
        exact ⟨_, none, 0, setL_at, rfl, Nat.le_refl _, by decide, .inl rfl⟩
      · exact OwnM.one (l := ⟨none, K.sh, 0⟩) setL_at ⟨rfl, rfl, fun _ => rfl, fun b o h => (by cases h)⟩ (fun b o h => (by cases h)) (fun u h => (by cases h))
    · rename_i id
      split at hd
      case h_2 => cases hd
      rename_i y hy
      simp only [Option.some.injEq, Prod.mk.injEq] at hd
      obtain ⟨rfl, rfl, rfl⟩ := hd
      simp only [dec] at hy
      split at hy
      case h_2 => cases hy
      rename_i K' xs hid
      obtain ⟨rfl, rfl⟩ := castL_some hy
      simp only [VR] at hv
      obtain ⟨l, a, c, h1, rfl, h2, h3, h4⟩ := hv
      obtain ⟨l', e1, e2, _⟩ := hh.blk id _ hid
      rw [h1] at e1; cases e1
      refine ⟨setL L0 n l, fresh _, ?_, ?_⟩
      · simp only [encM, VR]
        exact ⟨l, a, c, setL_at, rfl, h2, h3, h4⟩
      · refine OwnM.one (l := l) setL_at ?_ (fun b o h => ⟨id, l, o, rfl, h1, h, by rw [hid]; simp⟩) (fun u h => (by cases h))
        obtain ⟨q1, q2, q3, q4⟩ := e2
        exact ⟨q1, q2, q3, fun b o hb => ⟨(q4 b o hb).1, Rows_to (hF.imp (fun h => h) (·.1)) (q4 b o hb).2⟩⟩
    · rename_i id off len
      split at hd
      case h_2 => cases hd
      rename_i y hy
      simp only [Option.some.injEq, Prod.mk.injEq] at hd
      obtain ⟨rfl, rfl, rfl⟩ := hd
      simp only [dec] at hy
      split at hy
      case h_2 => cases hy
      rename_i K' xs hid
      obtain ⟨rfl, rfl⟩ := castL_some hy
      obtain ⟨l, q1, q2, q3⟩ := cut_row (n := n) hh hv hid (hF.imp (fun h => h) (·.1))
      refine ⟨setL L0 n l, fresh _, q1 _ setL_at, OwnM.one (l := l) setL_at (q2 _) (fun b o h => ?_) (fun u h => (by cases h))⟩
      obtain ⟨li, o', r⟩ := q3 b o h
      exact ⟨id, li, o', rfl, r⟩
    · cases hd
  | .mp Kk Kv => by
    refine ⟨fun v x ps rs cs n L0 Fst hd hv h0 hF => ?_, fun _ _ _ _ _ _ _ _ hc => (by cases hc)⟩
    have fresh : ∀ (l : Loc) j, (j < n ∨ n + (Md.mp Kk Kv).cnt ≤ j) → setL L0 n l j = L0 j := fun l j hj => setL_ne (by simp only [Md.cnt] at hj; omega)
    simp only [decM] at hd
    split at hd
    case h_2 => cases hd
    rename_i id
    split at hd
    case h_2 => cases hd
    rename_i Kk' Kv' es hid
    split at hd
    case h_2 => cases hd
    rename_i y hy
    simp only [Option.some.injEq, Prod.mk.injEq] at hd
    obtain ⟨rfl, rfl, rfl⟩ := hd
    obtain ⟨rfl, rfl, rfl⟩ := castM_some hy
    simp only [VR] at hv
    obtain ⟨l, b, o, h1, h2, rfl⟩ := hv
    obtain ⟨l', e1, e2, _⟩ := hh.blk id _ hid
    rw [h1] at e1; cases e1
    refine ⟨setL L0 n l, fresh _, ?_, OwnM.one (l := l) setL_at ?_ (fun b o h => ⟨id, l, o, rfl, h1, h, by rw [hid]; simp⟩) (fun u h => (by cases h))⟩
    · simp only [encM, VR]
      exact ⟨l, b, o, setL_at, h2, rfl⟩
    · obtain ⟨b', ents, clock, g1, g2, g3⟩ := e2
      exact ⟨b', ents, clock, g1, g2, MR_to (hF.imp (fun h => by simpa [Md.flat] using h) (·.1)) _ _ g3⟩
  | .bx m => by
    refine ⟨fun v x ps rs cs n L0 Fst hd hv h0 hF => ?_, fun _ _ _ _ _ _ _ _ hc => (by cases hc)⟩
    simp only [decM] at hd
    split at hd
    case h_2 => cases hd
    rename_i id
    split at hd
    case h_2 => cases hd
    rename_i u hid
    split at hd
    case h_2 => cases hd
    rename_i y ps1 rs1 hy
    simp only [Option.some.injEq, Prod.mk.injEq] at hd
    obtain ⟨rfl, rfl, rfl⟩ := hd
    simp only [VR] at hv
    obtain ⟨l, b, o, d, s, h1, h2, h3, h4, h5⟩ := hv
    obtain ⟨l', e1, e2, _⟩ := hh.blk id _ hid
    rw [h1] at e1; cases e1
    obtain ⟨q1, q2, b', o', cs', g1, g2, g3, g4⟩ := e2
    simp only [Md.cnt] at h0
    obtain ⟨L1, r1, r2, r3⟩ := (repack hh m).1 u y ps1 rs1 cs' (n + 1) (setL L0 n l) Fst hy g3 (fun j hj hj' => by rw [setL_ne (by omega)]; exact h0 j (by omega) (by omega)) hF
    have hn : L1 n = some l := by rw [r1 n (.inl (by omega)), setL_at]
    refine ⟨L1, fun j hj => ?_, ?_, ?_⟩
    · simp only [Md.cnt] at hj
      rw [r1 j (by omega), setL_ne (by omega)]
    · simp only [encM, VR]
      exact ⟨l, b, o, d, s, hn, h2, h3, h4, h5⟩
    · have hone : OwnM Fst L w hp [some id] n [(n, some (.box (encM m y (n + 1))))] L1 := by
        refine OwnM.one (l := l) hn ⟨q1, ?_, b', o', cs', g1, g2, r2, g4⟩ (fun b o h => ⟨id, l, o, rfl, h1, h, by rw [hid]; simp⟩) (fun u h => ⟨id, rfl, by rw [hn, h1]⟩)
        rw [q2, (decM_sh m _ _ _ _ hy (n + 1)).1]
      exact OwnM.app hone r3 (fun _ _ h => h)
  | .fn f a b => by
    refine ⟨fun v x ps rs cs n L0 Fst hd hv h0 hF => ?_, fun _ _ _ _ _ _ _ _ hc => (by cases hc)⟩
    simp only [decM] at hd
    split at hd
    case h_2 => cases hd
    rename_i g u t
    cases hb : (Nat.beq f g && (a.chain && b.chain)) with
    | false => rw [hb] at hd; cases hd
    | true =>
      rw [hb] at hd
      simp only [cond_true] at hd
      simp only [Bool.and_eq_true] at hb
      obtain ⟨hfg, ha, hbc⟩ := hb
      have hfg := Nat.eq_of_beq_eq_true hfg
      subst hfg
      split at hd
      case h_2 => cases hd
      rename_i y ps1 rs1 hy
      split at hd
      case h_2 => cases hd
      rename_i z ps2 rs2 hz
      simp only [Option.some.injEq, Prod.mk.injEq] at hd
      obtain ⟨rfl, rfl, rfl⟩ := hd
      have hFa : a.flat = true ∨ ((∀ b, F b → Fst b) ∧ ∀ b, rowF L rs1 b → Fst b) := hF.imp (fun h => (by simp only [Md.flat, Bool.and_eq_true] at h; exact h.1)) fun h => ⟨h.1, fun b hb => h.2 b (rowF_app.2 (.inl hb))⟩
      have hFb : b.flat = true ∨ ((∀ b, F b → Fst b) ∧ ∀ b, rowF L rs2 b → Fst b) := hF.imp (fun h => (by simp only [Md.flat, Bool.and_eq_true] at h; exact h.2)) fun h => ⟨h.1, fun b hb => h.2 b (rowF_app.2 (.inr hb))⟩
      simp only [VR] at hv
      obtain ⟨xs, ys, h1, h2, h3⟩ := hv
      simp only [Md.cnt] at h0
      obtain ⟨L1, r1, r2, r3⟩ := (repack hh a).2 u y ps1 rs1 xs n L0 Fst ha hy h2 (fun j hj hj' => h0 j hj (by omega)) hFa
      obtain ⟨L2, s1, s2, s3⟩ := (repack hh b).2 t z ps2 rs2 ys (n + a.cnt) L1 Fst hbc hz h3 (fun j hj hj' => by rw [r1 j (.inr (by omega))]; exact h0 j (by omega) (by omega)) hFb
      have hL := ext_L s1 (fun j hj hj' => by rw [r1 j (.inr (by omega))]; exact h0 j (by omega) (by omega))
      refine ⟨L2, fun j hj => ?_, ?_, ?_⟩
      · simp only [Md.cnt] at hj
        rw [s1 j (by omega), r1 j (by omega)]
      · simp only [encM, VR]
        exact ⟨xs, ys, h1, CV_mono (fun _ h => h) hL (WL.refl _ _) _ _ r2, s2⟩
      · have e := decM_cnt a _ _ _ _ hy
        exact OwnM.app r3 (by rw [e]; exact s3) hL
  | .cons a b => by
    have both : ∀ (u t : AV) (y : a.T) (z : b.T) (ps1 ps2 : List (Option Nat)) (rs1 rs2 : List Nat) (n : Nat) (L0 : LM) (Fst : FS) (R S : LM → Prop), decM hp a u = some (y, ps1, rs1) → decM hp b t = some (z, ps2, rs2) →
        (∀ j, n ≤ j → j < n + (a.cnt + b.cnt) → L0 j = none) →
        (∃ L1 : LM, (∀ j, (j < n ∨ n + a.cnt ≤ j) → L1 j = L0 j) ∧ R L1 ∧ OwnM Fst L w hp ps1 n (blkM a y n) L1) →
        (∀ L1 : LM, (∀ j, n + a.cnt ≤ j → j < n + a.cnt + b.cnt → L1 j = none) → ∃ L2 : LM, (∀ j, (j < n + a.cnt ∨ n + a.cnt + b.cnt ≤ j) → L2 j = L1 j) ∧ S L2 ∧ OwnM Fst L w hp ps2 (n + a.cnt) (blkM b z (n + a.cnt)) L2) →
        (∀ L1 L2 : LM, (∀ id l, L1 id = some l → L2 id = some l) → R L1 → R L2) →
        ∃ L2 : LM, (∀ j, (j < n ∨ n + (a.cnt + b.cnt) ≤ j) → L2 j = L0 j) ∧ R L2 ∧ S L2 ∧ OwnM Fst L w hp (ps1 ++ ps2) n (blkM a y n ++ blkM b z (n + a.cnt)) L2 := by
      intro u t y z ps1 ps2 rs1 rs2 n L0 Fst R S hy hz h0 h1 h2 hR
      obtain ⟨L1, r1, r2, r3⟩ := h1
      have hfr : ∀ j, n + a.cnt ≤ j → j < n + a.cnt + b.cnt → L1 j = none := fun j hj hj' => by rw [r1 j (.inr (by omega))]; exact h0 j (by omega) (by omega)
      obtain ⟨L2, s1, s2, s3⟩ := h2 L1 hfr
      have hL := ext_L s1 hfr
      have e := decM_cnt a _ _ _ _ hy
      exact ⟨L2, fun j hj => by rw [s1 j (by omega), r1 j (by omega)], hR L1 L2 hL r2, s2, OwnM.app r3 (by rw [e]; exact s3) hL⟩
    refine ⟨fun v x ps rs cs n L0 Fst hd hv h0 hF => ?_, fun v x ps rs vs n L0 Fst hc hd hv h0 hF => ?_⟩
    all_goals
      simp only [decM] at hd
      split at hd
      case h_2 => cases hd
      rename_i u t
      split at hd
      case h_2 => cases hd
      rename_i y ps1 rs1 hy
      split at hd
      case h_2 => cases hd
      rename_i z ps2 rs2 hz
      simp only [Option.some.injEq, Prod.mk.injEq] at hd
      obtain ⟨rfl, rfl, rfl⟩ := hd
      simp only [Md.cnt] at h0 ⊢
      have hFa : a.flat = true ∨ ((∀ b, F b → Fst b) ∧ ∀ b, rowF L rs1 b → Fst b) := hF.imp (fun h => (by simp only [Md.flat, Bool.and_eq_true] at h; exact h.1)) fun h => ⟨h.1, fun b hb => h.2 b (rowF_app.2 (.inl hb))⟩
      have hFb : b.flat = true ∨ ((∀ b, F b → Fst b) ∧ ∀ b, rowF L rs2 b → Fst b) := hF.imp (fun h => (by simp only [Md.flat, Bool.and_eq_true] at h; exact h.2)) fun h => ⟨h.1, fun b hb => h.2 b (rowF_app.2 (.inr hb))⟩
    · simp only [VR] at hv
      obtain ⟨c1, c2, rfl, h1, h2⟩ := hv
      obtain ⟨L2, g1, g2, g3, g4⟩ := both u t y z ps1 ps2 rs1 rs2 n L0 Fst (fun L1 : LM => VR Fst L1 w (encM a y n) c1) (fun L1 : LM => VR Fst L1 w (encM b z (n + a.cnt)) c2) hy hz h0
        ((repack hh a).1 u y ps1 rs1 c1 n L0 Fst hy h1 (fun j hj hj' => h0 j hj (by omega)) hFa)
        (fun L1 hfr => (repack hh b).1 t z ps2 rs2 c2 (n + a.cnt) L1 Fst hz h2 hfr hFb)
        (fun L1 L2 hL h => VR_mono (fun _ h => h) hL (WL.refl _ _) _ _ h)
      exact ⟨L2, g1, by simp only [encM, VR]; exact ⟨c1, c2, rfl, g2, g3⟩, g4⟩
    · simp only [CV] at hv
      obtain ⟨v1, vs', rfl, h1, h2⟩ := hv
      obtain ⟨_, hag, hpl, hpl'⟩ := decM_sh a u y ps1 rs1 hy n
      have hhead : bif u.isAgg then ∃ c : List Value, v1 = .agg c.toArray ∧ VR F L w u c else VR F L w u [v1] := by
        rcases h1 with ⟨rfl, _⟩ | rfl | h1
        · cases hpl
        · cases hpl
        · exact h1
      have hhead' : ∃ L1, (∀ j, (j < n ∨ n + a.cnt ≤ j) → L1 j = L0 j) ∧ (bif (encM a y n).isAgg then ∃ c : List Value, v1 = .agg c.toArray ∧ VR Fst L1 w (encM a y n) c else VR Fst L1 w (encM a y n) [v1]) ∧ OwnM Fst L w hp ps1 n (blkM a y n) L1 := by
        rw [hag]
        cases hq : u.isAgg with
        | false =>
          rw [hq] at hhead
          exact (repack hh a).1 u y ps1 rs1 [v1] n L0 Fst hy hhead (fun j hj hj' => h0 j hj (by omega)) hFa
        | true =>
          rw [hq] at hhead
          obtain ⟨c, rfl, hc'⟩ := hhead
          obtain ⟨L1, r1, r2, r3⟩ := (repack hh a).1 u y ps1 rs1 c n L0 Fst hy hc' (fun j hj hj' => h0 j hj (by omega)) hFa
          exact ⟨L1, r1, ⟨c, rfl, r2⟩, r3⟩
      obtain ⟨L2, g1, g2, g3, g4⟩ := both u t y z ps1 ps2 rs1 rs2 n L0 Fst (fun L1 : LM => bif (encM a y n).isAgg then ∃ c : List Value, v1 = .agg c.toArray ∧ VR Fst L1 w (encM a y n) c else VR Fst L1 w (encM a y n) [v1]) (fun L1 : LM => CV Fst L1 w (encM b z (n + a.cnt)) vs') hy hz h0
        hhead'
        (fun L1 hfr => (repack hh b).2 t z ps2 rs2 vs' (n + a.cnt) L1 Fst hc hz h2 hfr hFb)
        (fun L1 L2 hL h => by
          cases hq : (encM a y n).isAgg with
          | false => rw [hq] at h; exact VR_mono (fun _ h => h) hL (WL.refl _ _) _ _ h
          | true =>
            rw [hq] at h
            obtain ⟨c, e, hc'⟩ := h
            exact ⟨c, e, VR_mono (fun _ h => h) hL (WL.refl _ _) _ _ hc'⟩)
      exact ⟨L2, g1, by simp only [encM, CV]; exact ⟨v1, vs', rfl, .inr (.inr g2), g3⟩, g4⟩

end
end Go.Proofs.Ytkmeimhapokdlaa.Ae
