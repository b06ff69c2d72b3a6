/- DetectLate: the printed function of the law answers true for every most, beat and list of acts within the row's own bounds; no further condition. -/
import Derived.Test.YtloohkifibfdiaaPDetectLatex3
namespace Go.Proofs.Ytloohkifibfdiaa.Pure
open Go.RowKit Go.Proofs.Ytloohkifibfdiaa.PDetectLate Go.Proofs.YtloohkifibfdiaaW.PrintWords Go.Proofs.YtloohkifibfdiaaW.PrintLast

theorem ok_true {t m b s : Int} (h1 : 2 ≤ m) (h2 : m ≤ 1024) (h3 : 1 ≤ b) (h4 : b < m) (h5 : 0 ≤ t) (h6 : t ≤ m) (h7 : 0 ≤ s) (h8 : s ≤ b) : detect_watch_ok.f t m b s = some true := by
  unfold detect_watch_ok.f
  rw [if_pos (by omega), if_pos (by omega), if_pos (by omega), if_pos (by omega), if_pos (by omega), if_pos (by omega), if_pos (by omega)]
  simp [h8]

theorem check_ok {t m b s : Int} (h1 : 2 ≤ m) (h2 : m ≤ 1024) (h3 : 1 ≤ b) (h4 : b < m) (h5 : 0 ≤ t) (h6 : t ≤ m) (h7 : 0 ≤ s) (h8 : s ≤ b) : detect_Check.f t m b s = some 0 := by
  unfold detect_Check.f; rw [ok_true h1 h2 h3 h4 h5 h6 h7 h8]; rfl

theorem ok_some (t m b s : Int) : ∃ r, detect_watch_ok.f t m b s = some r := by
  unfold detect_watch_ok.f
  repeat (first | exact ⟨_, rfl⟩ | split)

theorem loop (m b : Int) (l : List Int) (h1 : 2 ≤ m) (h2 : m ≤ 1024) (h3 : 1 ≤ b) (h4 : b < m) (hl : l.length ≤ 300) (d : Nat) :
    ∀ (k : Nat) (i since due : Int), 0 ≤ i → (l.length : Int) - i = d → 0 ≤ since → since ≤ i → 0 ≤ due → due ≤ i + b → 2 * d + 1 ≤ k →
      drawbridgelaw23_DetectLate.l0 k m b l since due i (mn since m) m b (mn due b) = some true := by
  induction d with
  | zero =>
    intro k i since due h0 hd _ _ _ _ hk
    obtain ⟨k, rfl⟩ : ∃ n, k = n + 1 := ⟨k - 1, by omega⟩
    simp only [drawbridgelaw23_DetectLate.l0]; rw [if_neg (by omega)]
  | succ d ih =>
    intro k i since due h0 hd hs1 hs2 hd1 hd2 hk
    obtain ⟨k, rfl⟩ : ∃ n, k = n + 2 := ⟨k - 2, by omega⟩
    have hlt : i < (l.length : Int) := by omega
    have w1 : wrap64 (since + 1) = since + 1 := by unfold wrap64; omega
    have w2 : wrap64 (due + 1) = due + 1 := by unfold wrap64; omega
    have w3 : wrap64 (i + 1) = i + 1 := by unfold wrap64; omega
    have mm : ∀ x y : Int, mn x y = min x y := fun x y => by unfold mn; omega
    have tail : ∀ s' d' t' u' : Int, 0 ≤ s' → s' ≤ i + 1 → 0 ≤ d' → d' ≤ i + 1 + b → t' = mn s' m → u' = mn d' b →
        drawbridgelaw23_DetectLate.j2 (k + 1) m b l 0 s' d' i t' m b u' = some true := by
      intro s' d' t' u' a1 a2 a3 a4 e1 e2
      subst e1 e2
      have a5 : 0 ≤ mn s' m := by rw [mm]; omega
      have a6 : mn s' m ≤ m := by rw [mm]; omega
      have a7 : 0 ≤ mn d' b := by rw [mm]; omega
      have a8 : mn d' b ≤ b := by rw [mm]; omega
      simp only [drawbridgelaw23_DetectLate.j2]
      rw [check_ok h1 h2 h3 h4 a5 a6 a7 a8]
      simp only [Option.bind_some, if_true]
      have hlate : detect_Late.f (mn s' m) m b (mn d' b) = some (decide (s' ≥ m)) := by
        unfold detect_Late.f; rw [ok_true h1 h2 h3 h4 a5 a6 a7 a8]; simp only [Option.bind_some, if_true]
        congr 1; rw [Bool.eq_iff_iff]; simp; rw [mm]; omega
      have hdue : detect_Due.f (mn s' m) m b (mn d' b) = some (decide (d' ≥ b)) := by
        unfold detect_Due.f; rw [ok_true h1 h2 h3 h4 a5 a6 a7 a8]; simp only [Option.bind_some, if_true]
        congr 1; rw [Bool.eq_iff_iff]; simp; rw [mm]; omega
      have hleft : detect_Left.f (mn s' m) m b (mn d' b) = some (mx 0 (wrap64 (m - s'))) := by
        unfold detect_Left.f; rw [ok_true h1 h2 h3 h4 a5 a6 a7 a8]; simp only [Option.bind_some, if_true]
        congr 1; unfold wrap64 mx; rw [mm]; omega
      rw [hlate, hdue, hleft]
      simp only [Option.bind_some, bne_self_eq_false, Bool.false_eq_true, if_false, if_true, w3]
      exact ih k (i + 1) s' d' (by omega) (by omega) a1 a2 a3 a4 (by omega)
    have b5 : 0 ≤ mn since m := by rw [mm]; omega
    have b6 : mn since m ≤ m := by rw [mm]; omega
    have b7 : 0 ≤ mn due b := by rw [mm]; omega
    have b8 : mn due b ≤ b := by rw [mm]; omega
    have w4 : wrap64 (mn since m + 1) = mn since m + 1 := by unfold wrap64; omega
    have w5 : wrap64 (mn due b + 1) = mn due b + 1 := by unfold wrap64; omega
    simp only [drawbridgelaw23_DetectLate.l0]
    rw [if_pos hlt, if_pos h0]
    split
    · unfold detect_Tick.f detect_with.f
      rw [check_ok h1 h2 h3 h4 b5 b6 b7 b8, w4, w5, w1, w2]
      simp only [Option.bind_some, if_true]
      exact tail _ _ _ _ (by omega) (by omega) (by omega) (by omega) (by simp only [mm]; omega) (by simp only [mm]; omega)
    · split
      · unfold detect_Heard.f detect_with.f
        rw [check_ok h1 h2 h3 h4 b5 b6 b7 b8]
        simp only [Option.bind_some, if_true]
        exact tail _ _ _ _ (by omega) (by omega) (by omega) (by omega) rfl (by simp only [mm]; omega)
      · unfold detect_Told.f detect_with.f
        rw [check_ok h1 h2 h3 h4 b5 b6 b7 b8]
        simp only [Option.bind_some, if_true]
        exact tail _ _ _ _ (by omega) (by omega) (by omega) (by omega) (by simp only [mm]; omega) rfl

theorem lives_ok (j : Nat) : drawbridgelaw23_lives.f (20 + j) = some true :=
  more_rounds drawbridgelaw23_lives.mono 20 j true (by decide +kernel)

theorem DetectLate : drawbridgelaw23_DetectLate.Pure := by
  intro m b l hm hb _ hl _
  refine ⟨20 + (2 * l.length + 10), ?_⟩
  unfold drawbridgelaw23_DetectLate.f
  rw [lives_ok]
  simp only [Option.bind_some, if_true]
  have hk : 20 + (2 * l.length + 10) = (2 * l.length + 28) + 2 := by omega
  rw [hk]
  by_cases hv : 2 ≤ m ∧ m ≤ 1024 ∧ 1 ≤ b ∧ b < m
  · obtain ⟨h1, h2, h3, h4⟩ := hv
    unfold detect_New.f
    rw [check_ok h1 h2 h3 h4 (by omega) (by omega) (by omega) (by omega)]
    simp only [Option.bind_some, if_true]
    by_cases hlen : l.length ≤ 300
    · simp only [drawbridgelaw23_DetectLate.j0]
      rw [if_neg (by simp; omega)]
      have e1 : (0 : Int) = mn 0 m := by unfold mn; omega
      have e2 : b = mn b b := by unfold mn; omega
      have := loop m b l h1 h2 h3 h4 hlen l.length (2 * l.length + 28 + 1) 0 0 b (by omega) (by omega) (by omega) (by omega) (by omega) (by omega) (by omega)
      rw [← e1, ← e2] at this
      exact this
    · simp only [drawbridgelaw23_DetectLate.j0]
      rw [if_pos (by simp; omega)]
      split
      · rfl
      · simp; omega
  · have hno : detect_Check.f 0 m b b = some 2 := by
      unfold detect_Check.f
      have : detect_watch_ok.f 0 m b b = some false := by
        unfold detect_watch_ok.f
        repeat' split
        all_goals (first | rfl | (simp; omega))
      rw [this]; rfl
    unfold detect_New.f
    rw [hno]
    simp only [Option.bind_some]
    rw [if_neg (by decide)]
    simp only [Option.bind_some]
    rw [if_neg (by decide)]
    simp [drawbridgelaw23_DetectLate.j0]

end Go.Proofs.Ytloohkifibfdiaa.Pure
