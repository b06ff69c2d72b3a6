-- PRINTED BY print.sh 35421559b90ae4d0a3588c463048766b98c2df88dd9212a6774a882060cdf62d: not written by this session
import Derived.Test.YtloohkifibfdiaaPDetectLatex0
import Derived.Test.YtloohkifibfdiaaPDetectLatex1
import Derived.Test.YtloohkifibfdiaaPDetectLatex2
namespace Go.Proofs.Ytloohkifibfdiaa.PDetectLate
open Go.RowKit Go.Proofs.YtloohkifibfdiaaW.PrintWords Go.Proofs.YtloohkifibfdiaaW.PrintLast Go.Proofs.YtloohkifibfdiaaW.PrintMore
attribute [local go_sem] max2_int min2_int max_two min_two max_three min_three max_four min_four   -- for this text's walks alone
set_option linter.unusedVariables false
set_option linter.unusedSimpArgs false

attribute [local go_sem high] eqA23
/-! ### drawbridgelaw23_DetectLate: function 4 -/
mutual
def drawbridgelaw23_DetectLate.j0 : Nat → Int → Int → List Int → Bool → Int → Int → Int → Int → Option (Bool)
  | 0, _, _, _, _, _, _, _, _ => none
  | k + 1, x0, x1, x2, x26, x170000, x170001, x170002, x170003 => if x26 = true then (if (x170000 == 0 && (x170001 == 0 && (x170002 == 0 && (x170003 == 0)))) = true then (some true) else (some (decide ((x2.length : Int) > 300)))) else (drawbridgelaw23_DetectLate.l0 k x0 x1 x2 0 x1 0 x170000 x170001 x170002 x170003)
def drawbridgelaw23_DetectLate.l0 : Nat → Int → Int → List Int → Int → Int → Int → Int → Int → Int → Int → Option (Bool)
  | 0, _, _, _, _, _, _, _, _, _, _ => none
  | k + 1, x0, x1, x2, x9, x10, x11, x170000, x170001, x170002, x170003 => if x11 < (x2.length : Int) then (if 0 ≤ x11 then (if (Int.tmod (rd x2 x11) 3) = 0 then ((detect_Tick.f x170000 x170001 x170002 x170003).bind fun bt171 => (drawbridgelaw23_DetectLate.j2 k x0 x1 x2 bt171.2.2.2.2 (wrap64 (x9 + 1)) (wrap64 (x10 + 1)) x11 bt171.1 bt171.2.1 bt171.2.2.1 bt171.2.2.2.1)) else (if (Int.tmod (rd x2 x11) 3) = 1 then ((detect_Heard.f x170000 x170001 x170002 x170003).bind fun bt176 => (drawbridgelaw23_DetectLate.j2 k x0 x1 x2 bt176.2.2.2.2 0 x10 x11 bt176.1 bt176.2.1 bt176.2.2.1 bt176.2.2.2.1)) else ((detect_Told.f x170000 x170001 x170002 x170003).bind fun bt181 => (drawbridgelaw23_DetectLate.j2 k x0 x1 x2 bt181.2.2.2.2 x9 0 x11 bt181.1 bt181.2.1 bt181.2.2.1 bt181.2.2.2.1)))) else (none)) else (some true)
def drawbridgelaw23_DetectLate.j2 : Nat → Int → Int → List Int → Int → Int → Int → Int → Int → Int → Int → Int → Option (Bool)
  | 0, _, _, _, _, _, _, _, _, _, _, _ => none
  | k + 1, x0, x1, x2, x8, x9, x10, x11, x170000, x170001, x170002, x170003 => if x8 = 0 then ((detect_Check.f x170000 x170001 x170002 x170003).bind fun t186 => (if t186 = 0 then ((detect_Late.f x170000 x170001 x170002 x170003).bind fun t187 => (if (t187 != (decide (x9 ≥ x0))) = true then (some false) else ((detect_Due.f x170000 x170001 x170002 x170003).bind fun t188 => (if (t188 != (decide (x10 ≥ x1))) = true then (some false) else ((detect_Left.f x170000 x170001 x170002 x170003).bind fun t189 => (if t189 = (mx 0 (wrap64 (x0 - x9))) then (drawbridgelaw23_DetectLate.l0 k x0 x1 x2 x9 x10 (wrap64 (x11 + 1)) x170000 x170001 x170002 x170003) else (some false))))))) else (some false))) else (some false)
end
def drawbridgelaw23_DetectLate.f (k : Nat) (a0 : Int) (a1 : Int) (l2 : List Int) : Option (Bool) := (drawbridgelaw23_lives.f k).bind fun t163 => (if t163 = true then ((detect_New.f a0 a1).bind fun bt164 => (if bt164.2.2.2.2 = 0 then (drawbridgelaw23_DetectLate.j0 k a0 a1 l2 (decide ((l2.length : Int) > 300)) bt164.1 bt164.2.1 bt164.2.2.1 bt164.2.2.2.1) else (drawbridgelaw23_DetectLate.j0 k a0 a1 l2 true bt164.1 bt164.2.1 bt164.2.2.1 bt164.2.2.2.1))) else (some false))
theorem drawbridgelaw23_DetectLate.mono_l : ∀ k, (∀ y0 y1 y2 y3 y4 y5 y6 y7, LeO (drawbridgelaw23_DetectLate.j0 k y0 y1 y2 y3 y4 y5 y6 y7) (drawbridgelaw23_DetectLate.j0 (k + 1) y0 y1 y2 y3 y4 y5 y6 y7)) ∧ (∀ y0 y1 y2 y3 y4 y5 y6 y7 y8 y9, LeO (drawbridgelaw23_DetectLate.l0 k y0 y1 y2 y3 y4 y5 y6 y7 y8 y9) (drawbridgelaw23_DetectLate.l0 (k + 1) y0 y1 y2 y3 y4 y5 y6 y7 y8 y9)) ∧ (∀ y0 y1 y2 y3 y4 y5 y6 y7 y8 y9 y10, LeO (drawbridgelaw23_DetectLate.j2 k y0 y1 y2 y3 y4 y5 y6 y7 y8 y9 y10) (drawbridgelaw23_DetectLate.j2 (k + 1) y0 y1 y2 y3 y4 y5 y6 y7 y8 y9 y10))
  | 0 => ⟨fun _ _ _ _ _ _ _ _ r h => by simp [drawbridgelaw23_DetectLate.j0] at h, fun _ _ _ _ _ _ _ _ _ _ r h => by simp [drawbridgelaw23_DetectLate.l0] at h, fun _ _ _ _ _ _ _ _ _ _ _ r h => by simp [drawbridgelaw23_DetectLate.j2] at h⟩
  | k + 1 => by
    obtain ⟨ih0, ih1, ih2⟩ := drawbridgelaw23_DetectLate.mono_l k
    refine ⟨?_, ?_, ?_⟩
    · intro y0 y1 y2 y3 y4 y5 y6 y7
      unfold drawbridgelaw23_DetectLate.j0
      repeat' first
      | (with_reducible exact ih0 _ _ _ _ _ _ _ _)
      | (with_reducible exact ih1 _ _ _ _ _ _ _ _ _ _)
      | (with_reducible exact ih2 _ _ _ _ _ _ _ _ _ _ _)
      | (with_reducible exact drawbridgelaw23_lives.mono _)
      | (with_reducible exact LeO.refl _)
      | (with_reducible exact LeO.none _)
      | (with_reducible refine LeO.ite ?_ ?_)
      | (with_reducible refine LeO.bind ?_ (fun _ => ?_))
      | exact ih0 _ _ _ _ _ _ _ _
      | exact ih1 _ _ _ _ _ _ _ _ _ _
      | exact ih2 _ _ _ _ _ _ _ _ _ _ _
      | exact drawbridgelaw23_lives.mono _
      | exact LeO.none _
      | refine LeO.ite ?_ ?_
      | refine LeO.bind ?_ (fun _ => ?_)
    · intro y0 y1 y2 y3 y4 y5 y6 y7 y8 y9
      unfold drawbridgelaw23_DetectLate.l0
      repeat' first
      | (with_reducible exact ih0 _ _ _ _ _ _ _ _)
      | (with_reducible exact ih1 _ _ _ _ _ _ _ _ _ _)
      | (with_reducible exact ih2 _ _ _ _ _ _ _ _ _ _ _)
      | (with_reducible exact drawbridgelaw23_lives.mono _)
      | (with_reducible exact LeO.refl _)
      | (with_reducible exact LeO.none _)
      | (with_reducible refine LeO.ite ?_ ?_)
      | (with_reducible refine LeO.bind ?_ (fun _ => ?_))
      | exact ih0 _ _ _ _ _ _ _ _
      | exact ih1 _ _ _ _ _ _ _ _ _ _
      | exact ih2 _ _ _ _ _ _ _ _ _ _ _
      | exact drawbridgelaw23_lives.mono _
      | exact LeO.none _
      | refine LeO.ite ?_ ?_
      | refine LeO.bind ?_ (fun _ => ?_)
    · intro y0 y1 y2 y3 y4 y5 y6 y7 y8 y9 y10
      unfold drawbridgelaw23_DetectLate.j2
      repeat' first
      | (with_reducible exact ih0 _ _ _ _ _ _ _ _)
      | (with_reducible exact ih1 _ _ _ _ _ _ _ _ _ _)
      | (with_reducible exact ih2 _ _ _ _ _ _ _ _ _ _ _)
      | (with_reducible exact drawbridgelaw23_lives.mono _)
      | (with_reducible exact LeO.refl _)
      | (with_reducible exact LeO.none _)
      | (with_reducible refine LeO.ite ?_ ?_)
      | (with_reducible refine LeO.bind ?_ (fun _ => ?_))
      | exact ih0 _ _ _ _ _ _ _ _
      | exact ih1 _ _ _ _ _ _ _ _ _ _
      | exact ih2 _ _ _ _ _ _ _ _ _ _ _
      | exact drawbridgelaw23_lives.mono _
      | exact LeO.none _
      | refine LeO.ite ?_ ?_
      | refine LeO.bind ?_ (fun _ => ?_)
theorem drawbridgelaw23_DetectLate.mono : ∀ a0 a1 a2 k, LeO (drawbridgelaw23_DetectLate.f k a0 a1 a2) (drawbridgelaw23_DetectLate.f (k + 1) a0 a1 a2) := by
  intro a0 a1 a2 k
  obtain ⟨ih0, ih1, ih2⟩ := drawbridgelaw23_DetectLate.mono_l k
  unfold drawbridgelaw23_DetectLate.f
  repeat' first
      | (with_reducible exact ih0 _ _ _ _ _ _ _ _)
      | (with_reducible exact ih1 _ _ _ _ _ _ _ _ _ _)
      | (with_reducible exact ih2 _ _ _ _ _ _ _ _ _ _ _)
      | (with_reducible exact drawbridgelaw23_lives.mono _)
      | (with_reducible exact LeO.refl _)
      | (with_reducible exact LeO.none _)
      | (with_reducible refine LeO.ite ?_ ?_)
      | (with_reducible refine LeO.bind ?_ (fun _ => ?_))
      | exact ih0 _ _ _ _ _ _ _ _
      | exact ih1 _ _ _ _ _ _ _ _ _ _
      | exact ih2 _ _ _ _ _ _ _ _ _ _ _
      | exact drawbridgelaw23_lives.mono _
      | exact LeO.none _
      | refine LeO.ite ?_ ?_
      | refine LeO.bind ?_ (fun _ => ?_)
set_option maxHeartbeats 8000000 in
set_option maxRecDepth 100000 in
theorem drawbridgelaw23_DetectLate.calls (k : Nat) (a0 : Int) (a1 : Int) (A2 : Option Addr) (c2 : Nat) (l2 : List Int) (r : Bool) (w : World) (hr2 : Kd.C (Kd.int .u8) w A2 l2.length l2) (hc2 : l2.length ≤ c2) (h : drawbridgelaw23_DetectLate.f k a0 a1 l2 = some r) :
    Calls Try.prog 4 #[.int .i64 a0, .int .i64 a1, .slice A2 l2.length c2] w fun e w' => e = .returned (.bool r) ∧ Below w.heap.size w w' := by
  have hu23 := Try.underlying23
  have HR2 := Aside0.mk hr2
  have HC2 := Aside0.mk hc2
  clear hr2 hc2
  have HB := Aside0.mk (Below.refl w.heap.size w)
  have H : ((drawbridgelaw23_lives.f k).bind fun t163 => (if t163 = true then ((detect_New.f a0 a1).bind fun bt164 => (if bt164.2.2.2.2 = 0 then (drawbridgelaw23_DetectLate.j0 k a0 a1 l2 (decide ((l2.length : Int) > 300)) bt164.1 bt164.2.1 bt164.2.2.1 bt164.2.2.2.1) else (drawbridgelaw23_DetectLate.j0 k a0 a1 l2 true bt164.1 bt164.2.1 bt164.2.2.1 bt164.2.2.2.1))) else (some false))) = some r := h
  clear h
  replace H := Option.bind_eq_some_iff.mp H
  obtain ⟨t163, A40, H⟩ := H
  replace H : (if t163 = true then ((detect_New.f a0 a1).bind fun bt164 => (if bt164.2.2.2.2 = 0 then (drawbridgelaw23_DetectLate.j0 k a0 a1 l2 (decide ((l2.length : Int) > 300)) bt164.1 bt164.2.1 bt164.2.2.1 bt164.2.2.2.1) else (drawbridgelaw23_DetectLate.j0 k a0 a1 l2 true bt164.1 bt164.2.1 bt164.2.2.1 bt164.2.2.2.1))) else (some false)) = some r := H
  have A4 := Aside0.mk A40
  clear A40
  by_cases c5 : t163 = true
  · subst c5
    have H1 : ((detect_New.f a0 a1).bind fun bt164 => (if bt164.2.2.2.2 = 0 then (drawbridgelaw23_DetectLate.j0 k a0 a1 l2 (decide ((l2.length : Int) > 300)) bt164.1 bt164.2.1 bt164.2.2.1 bt164.2.2.2.1) else (drawbridgelaw23_DetectLate.j0 k a0 a1 l2 true bt164.1 bt164.2.1 bt164.2.2.1 bt164.2.2.2.1))) = some r := by rw [if_pos rfl] at H; exact H
    clear H
    have H := H1
    clear H1
    replace H := Option.bind_eq_some_iff.mp H
    obtain ⟨⟨t164, t165, t166, t167, t168⟩, A60, H⟩ := H
    replace H : (if t168 = 0 then (drawbridgelaw23_DetectLate.j0 k a0 a1 l2 (decide ((l2.length : Int) > 300)) t164 t165 t166 t167) else (drawbridgelaw23_DetectLate.j0 k a0 a1 l2 true t164 t165 t166 t167)) = some r := H
    have A6 := Aside0.mk A60
    clear A60
    have HC7 := Aside0.mk H
    clear H
    go_enter Try.func4, Try.ntmps4
    go_upto_region 4 with (first | ((with_reducible refine gate_callee (f := 13) rfl ?_); refine goesL_ (some 12) rfl rfl Try.func13 (by kernel_rfl) rfl #[] rfl (by (try simp only [List.map_toArray, List.map_cons, List.map_nil]); first | done | rfl | (simp only [List.length_drop, List.length_take]; rfl)) ?_; (with_reducible refine (drawbridgelaw23_lives.calls k  true _ A4.out).mono ?_); rintro e w8 ⟨rfl, hb⟩; refine ⟨_, rfl, ?_⟩; have n0_ := Aside0.mk (below_step (by repeat (first | (with_reducible first | exact HB.out | apply below_alloc | apply pw_below_drewN | apply below_drew1) | exact HB.out)) hb); clear HB; have HB := n0_; clear n0_; (try clear hb); (try clear hb2); (try clear hk); (try clear hi)) | ((with_reducible refine gate_callee (f := 11) rfl ?_); refine goesL_ (some 17) rfl rfl Try.func11 (by kernel_rfl) rfl #[.int .i64 a0, .int .i64 a1] rfl (by (try simp only [List.map_toArray, List.map_cons, List.map_nil]); first | done | rfl | (simp only [List.length_drop, List.length_take]; rfl)) ?_; (with_reducible refine (detect_New.calls a0 a1 t164 t165 t166 t167 t168 _ A6.out).mono ?_); rintro e w9 ⟨rfl, hb⟩; refine ⟨_, rfl, ?_⟩; have n0_ := Aside0.mk (below_step (by repeat (first | (with_reducible first | exact HB.out | apply below_alloc | apply pw_below_drewN | apply below_drew1) | exact HB.out)) hb); clear HB; have HB := n0_; clear n0_; (try clear hb); (try clear hb2); (try clear hk); (try clear hi)) | ((with_reducible refine gate_dst (N := 7) rfl ?_); (try (refine gate_guard (by rfl) ?_; dsimp only)); refine box_event ?hg (N := 7) ?hd (cs := #[.int .i64 0, .int .i64 0, .int .i64 0, .int .i64 0]) (t := 23) ?hr ?_; (case hd => rfl); (case hg => rfl); (case hr => first | (go_simp; done) | (go_simp; rfl)); intro gb169 hg w10 hbox hb; have n0_ := Aside0.mk (below_step (by repeat (first | (with_reducible first | exact HB.out | apply below_alloc | apply pw_below_drewN | apply below_drew1) | exact HB.out)) hb); have n1_ := Aside0.mk (hbox); have n2_ := Aside0.mk ((by rw [hg]; exact (below_size (by repeat (first | (with_reducible first | exact HB.out | apply below_alloc | apply pw_below_drewN | apply below_drew1) | exact HB.out))) : w.heap.size ≤ gb169)); have n3_ := Aside0.mk ((by rw [hg]; exact (below_size (by repeat (first | (with_reducible first | exact HB.out | apply below_alloc | apply pw_below_drewN | apply below_drew1) | exact HB.out))) : w.heap.size ≤ gb169)); clear HB; have HB := n0_; have BK169 := n1_; have GW169 := n2_; have GE169 := n3_; clear n0_ n1_ n2_ n3_; clear hb hbox hg; have hcz11_0 : w10.cell? ⟨gb169, 0, none⟩ = some (.int .i64 0) := (blk_cell BK169.out 0).trans rfl; have hcz11_1 : w10.cell? ⟨gb169, 1, none⟩ = some (.int .i64 0) := (blk_cell BK169.out 1).trans rfl; have hcz11_2 : w10.cell? ⟨gb169, 2, none⟩ = some (.int .i64 0) := (blk_cell BK169.out 2).trans rfl; have hcz11_3 : w10.cell? ⟨gb169, 3, none⟩ = some (.int .i64 0) := (blk_cell BK169.out 3).trans rfl; have hfz11_0 := blk_frozen BK169.out 0; have hfz11_1 := blk_frozen BK169.out 1; have hfz11_2 := blk_frozen BK169.out 2; have hfz11_3 := blk_frozen BK169.out 3))
    (try simp only [Act.put, List.setIfInBounds_toArray, List.set_cons_zero, List.set_cons_succ])
    go_cut [26] (fun v26 wc => ∃ (kq : Nat) (x26_6 : Bool), v26 = .bool x26_6 ∧ Aside0 (drawbridgelaw23_DetectLate.j0 kq a0 a1 l2 x26_6 t164 t165 t166 t167 = some r) ∧ Aside0 (kq ≤ k) ∧ Aside0 (wc.heap[gb169]? = some (.cells #[.int .i64 t164, .int .i64 t165, .int .i64 t166, .int .i64 t167] 23 (0, 0))) ∧ Aside0 (Below w.heap.size w wc))
    case first =>
      have H := HC7.out
      clear HC7
      by_cases c12 : t168 = 0
      · rw [if_pos c12] at H
        have c12b0 : (t168 == 0) = true := beq_iff_eq.mpr c12
        have c12b1 : (t168 != 0) = false := bne_eq_false_iff_eq.mpr c12
        clear c12
        (first | rw [c12b0] | (simp only [i64_w, i32_w]; rw [c12b0]) | skip)
        have H' := Aside0.mk H
        clear H
        go_wp2
        go_meet
        case rel => exact ⟨_, (decide ((l2.length : Int) > 300)), (by first | rfl | (simp; done) | (simp [*]; done)), H', ⟨by first | omega | exact Nat.le_refl _⟩, ⟨by (with_reducible repeat (first | refine blk_drewN ?_ _ | refine blk_drew ?_ | refine blk_alloc ?_ _)); refine blk_put (cs := #[.int .i64 t164, .int .i64 t165, .int .i64 t166, .int .i64 0]) ?_ 3 _ rfl; (with_reducible repeat (first | refine blk_drewN ?_ _ | refine blk_drew ?_ | refine blk_alloc ?_ _)); refine blk_put (cs := #[.int .i64 t164, .int .i64 t165, .int .i64 0, .int .i64 0]) ?_ 2 _ rfl; (with_reducible repeat (first | refine blk_drewN ?_ _ | refine blk_drew ?_ | refine blk_alloc ?_ _)); refine blk_put (cs := #[.int .i64 t164, .int .i64 0, .int .i64 0, .int .i64 0]) ?_ 1 _ rfl; (with_reducible repeat (first | refine blk_drewN ?_ _ | refine blk_drew ?_ | refine blk_alloc ?_ _)); refine blk_put (cs := #[.int .i64 0, .int .i64 0, .int .i64 0, .int .i64 0]) ?_ 0 _ rfl; (with_reducible repeat (first | refine blk_drewN ?_ _ | refine blk_drew ?_ | refine blk_alloc ?_ _)); exact BK169.out⟩, ⟨by repeat (first | (with_reducible first | exact HB.out | apply below_alloc | apply pw_below_drewN | apply below_drew1 | refine below_set ?_ GE169.out) | exact HB.out)⟩⟩
      · rw [if_neg c12] at H
        have c12b0 : (t168 == 0) = false := beq_eq_false_iff_ne.mpr c12
        have c12b1 : (t168 != 0) = true := bne_iff_ne.mpr c12
        (first | rw [c12b0] | (simp only [i64_w, i32_w]; rw [c12b0]) | skip)
        have H' := Aside0.mk H
        clear H
        go_wp2
        go_meet
        case rel => exact ⟨_, (true), (by first | rfl | (simp; done) | (simp [*]; done)), H', ⟨by first | omega | exact Nat.le_refl _⟩, ⟨by (with_reducible repeat (first | refine blk_drewN ?_ _ | refine blk_drew ?_ | refine blk_alloc ?_ _)); refine blk_put (cs := #[.int .i64 t164, .int .i64 t165, .int .i64 t166, .int .i64 0]) ?_ 3 _ rfl; (with_reducible repeat (first | refine blk_drewN ?_ _ | refine blk_drew ?_ | refine blk_alloc ?_ _)); refine blk_put (cs := #[.int .i64 t164, .int .i64 t165, .int .i64 0, .int .i64 0]) ?_ 2 _ rfl; (with_reducible repeat (first | refine blk_drewN ?_ _ | refine blk_drew ?_ | refine blk_alloc ?_ _)); refine blk_put (cs := #[.int .i64 t164, .int .i64 0, .int .i64 0, .int .i64 0]) ?_ 1 _ rfl; (with_reducible repeat (first | refine blk_drewN ?_ _ | refine blk_drew ?_ | refine blk_alloc ?_ _)); refine blk_put (cs := #[.int .i64 0, .int .i64 0, .int .i64 0, .int .i64 0]) ?_ 0 _ rfl; (with_reducible repeat (first | refine blk_drewN ?_ _ | refine blk_drew ?_ | refine blk_alloc ?_ _)); exact BK169.out⟩, ⟨by repeat (first | (with_reducible first | exact HB.out | apply below_alloc | apply pw_below_drewN | apply below_drew1 | refine below_set ?_ GE169.out) | exact HB.out)⟩⟩
    case rest =>
      clear HC7
      try clear c1
      try clear c2
      try clear p2
      try clear c4
      try clear c5
      try clear c11
      try clear c12
      try clear c12b0
      try clear c12b1
      try clear hcz11_0
      try clear hcz11_1
      try clear hcz11_2
      try clear hcz11_3
      try clear hfz11_0
      try clear hfz11_1
      try clear hfz11_2
      try clear hfz11_3
      obtain ⟨kq, x26_6, rfl, HA, HJ6, BK169, HB⟩ := hcut
      cases kq with
      | zero => exact absurd HA.out (by simp [drawbridgelaw23_DetectLate.j0])
      | succ kj6 =>
        have H := HA.out
        clear HA
        simp only [drawbridgelaw23_DetectLate.j0] at H
        by_cases c13 : x26_6 = true
        · subst c13
          have H1 : (if (t164 == 0 && (t165 == 0 && (t166 == 0 && (t167 == 0)))) = true then (some true) else (some (decide ((l2.length : Int) > 300)))) = some r := by rw [if_pos rfl] at H; exact H
          clear H
          have H := H1
          clear H1
          by_cases c14 : (t164 == 0 && (t165 == 0 && (t166 == 0 && (t167 == 0)))) = true
          · rw [if_pos c14] at H
            have c14b0 : (t164 == 0 && (t165 == 0 && (t166 == 0 && (t167 == 0)))) = true := c14
            (try (have c14b1 : decide (t164 = 0 && (t165 == 0 && (t166 == 0 && (t167 == 0)))) = true := by simpa using c14))
            (try (have c14b2 : (t164 == 0 && (t165 == 0 && (t166 == 0 && (t167 == 0)))) = true := by simpa using c14))
            clear c14
            obtain rfl := Option.some.inj H
            have hcz15_0 : wc.cell? ⟨gb169, 0, none⟩ = some (.int .i64 t164) := (blk_cell BK169.out 0).trans rfl
            have hcz15_1 : wc.cell? ⟨gb169, 1, none⟩ = some (.int .i64 t165) := (blk_cell BK169.out 1).trans rfl
            have hcz15_2 : wc.cell? ⟨gb169, 2, none⟩ = some (.int .i64 t166) := (blk_cell BK169.out 2).trans rfl
            have hcz15_3 : wc.cell? ⟨gb169, 3, none⟩ = some (.int .i64 t167) := (blk_cell BK169.out 3).trans rfl
            have hfz15_0 := blk_frozen BK169.out 0
            have hfz15_1 := blk_frozen BK169.out 1
            have hfz15_2 := blk_frozen BK169.out 2
            have hfz15_3 := blk_frozen BK169.out 3
            go_wp2
            go_ret
            exact ⟨by first | rfl | (simp [errW_none, errW_some] <;> rfl) | (simp [*, errW_none, errW_some] <;> rfl), by repeat (first | (with_reducible first | exact HB.out | apply below_alloc | apply pw_below_drewN | apply below_drew1 | refine below_set ?_ GE169.out) | exact HB.out)⟩
          · rw [if_neg c14] at H
            have c14b0 : (t164 == 0 && (t165 == 0 && (t166 == 0 && (t167 == 0)))) = false := by simpa using c14
            (try (have c14b1 : decide (t164 = 0 && (t165 == 0 && (t166 == 0 && (t167 == 0)))) = false := by simpa using c14))
            (try (have c14b2 : (t164 == 0 && (t165 == 0 && (t166 == 0 && (t167 == 0)))) = false := by simpa using c14))
            (try (have c14b3 : ¬ (t164 = 0 && (t165 == 0 && (t166 == 0 && (t167 == 0)))) := by simpa using c14))
            clear c14
            obtain rfl := Option.some.inj H
            have hcz16_0 : wc.cell? ⟨gb169, 0, none⟩ = some (.int .i64 t164) := (blk_cell BK169.out 0).trans rfl
            have hcz16_1 : wc.cell? ⟨gb169, 1, none⟩ = some (.int .i64 t165) := (blk_cell BK169.out 1).trans rfl
            have hcz16_2 : wc.cell? ⟨gb169, 2, none⟩ = some (.int .i64 t166) := (blk_cell BK169.out 2).trans rfl
            have hcz16_3 : wc.cell? ⟨gb169, 3, none⟩ = some (.int .i64 t167) := (blk_cell BK169.out 3).trans rfl
            have hfz16_0 := blk_frozen BK169.out 0
            have hfz16_1 := blk_frozen BK169.out 1
            have hfz16_2 := blk_frozen BK169.out 2
            have hfz16_3 := blk_frozen BK169.out 3
            go_wp2
            go_ret
            exact ⟨by first | rfl | (simp [errW_none, errW_some] <;> rfl) | (simp [*, errW_none, errW_some] <;> rfl), by repeat (first | (with_reducible first | exact HB.out | apply below_alloc | apply pw_below_drewN | apply below_drew1 | refine below_set ?_ GE169.out) | exact HB.out)⟩
        · replace c13 := Bool.eq_false_iff.mpr c13
          subst c13
          have H1 : (drawbridgelaw23_DetectLate.l0 kj6 a0 a1 l2 0 a1 0 t164 t165 t166 t167) = some r := by rw [if_neg (show ¬ (false = true) by decide)] at H; exact H
          clear H
          have H := H1
          clear H1
          have H' := Aside0.mk H
          clear H
          go_wp2
          go_loopg [9, 10, 11] kj6 (fun kq v9 v10 v11 w' => ∃ (x9_2 : Int) (x10_2 : Int) (x11_2 : Int) (x170000_2 : Int) (x170001_2 : Int) (x170002_2 : Int) (x170003_2 : Int), v9 = .int .i64 x9_2 ∧ v10 = .int .i64 x10_2 ∧ v11 = .int .i64 x11_2 ∧ Aside0 (drawbridgelaw23_DetectLate.l0 kq a0 a1 l2 x9_2 x10_2 x11_2 x170000_2 x170001_2 x170002_2 x170003_2 = some r) ∧ Aside0 (kq ≤ kj6) ∧ Aside0 (w'.heap[gb169]? = some (.cells #[.int .i64 x170000_2, .int .i64 x170001_2, .int .i64 x170002_2, .int .i64 x170003_2] 23 (0, 0))) ∧ Aside0 (Below w.heap.size w w'))
          case atStart => exact ⟨(0), (a1), (0), (t164), (t165), (t166), (t167), (by first | rfl | (simp; done) | (simp [*]; done)), (by first | rfl | (simp; done) | (simp [*]; done)), (by first | rfl | (simp; done) | (simp [*]; done)), H', ⟨Nat.le_refl _⟩, ⟨by (with_reducible repeat (first | refine blk_drewN ?_ _ | refine blk_drew ?_ | refine blk_alloc ?_ _)); exact BK169.out⟩, ⟨by repeat (first | (with_reducible first | exact HB.out | apply below_alloc | apply pw_below_drewN | apply below_drew1 | refine below_set ?_ GE169.out) | exact HB.out)⟩⟩
          case round =>
            clear H'
            try clear c1
            try clear c2
            try clear p2
            try clear c4
            try clear c5
            try clear c11
            try clear c12
            try clear c12b0
            try clear c12b1
            try clear c13
            try clear c14
            try clear c14b0
            try clear c14b1
            try clear c14b2
            try clear hcz11_0
            try clear hcz11_1
            try clear hcz11_2
            try clear hcz11_3
            try clear hcz15_0
            try clear hcz15_1
            try clear hcz15_2
            try clear hcz15_3
            try clear hcz16_0
            try clear hcz16_1
            try clear hcz16_2
            try clear hcz16_3
            try clear hfz11_0
            try clear hfz11_1
            try clear hfz11_2
            try clear hfz11_3
            try clear hfz15_0
            try clear hfz15_1
            try clear hfz15_2
            try clear hfz15_3
            try clear hfz16_0
            try clear hfz16_1
            try clear hfz16_2
            try clear hfz16_3
            try clear p2
            obtain ⟨x9_2, x10_2, x11_2, x170000_2, x170001_2, x170002_2, x170003_2, rfl, rfl, rfl, HA, HK2, BK169, HB⟩ := hrel
            cases gk with
            | zero => exact absurd HA.out (by simp [drawbridgelaw23_DetectLate.l0])
            | succ k2 =>
              have H := HA.out
              clear HA
              simp only [drawbridgelaw23_DetectLate.l0] at H
              by_cases c17 : x11_2 < (l2.length : Int)
              · rw [if_pos c17] at H
                have c17b0 : decide (x11_2 < (l2.length : Int)) = true := decide_eq_true c17
                clear c17
                by_cases c18 : 0 ≤ x11_2
                · rw [if_pos c18] at H
                  have c18b0 : decide (0 ≤ x11_2) = true := decide_eq_true c18
                  clear c18
                  have HC19 := Aside0.mk H
                  clear H
                  have p170 : 0 ≤ (x11_2 : Int) := of_decide_eq_true (by first | (with_reducible assumption) | assumption)
                  have q170 : x11_2 < (l2.length : Int) := of_decide_eq_true (by first | (with_reducible assumption) | assumption)
                  obtain ⟨ad170, e170, hx170_0⟩ := Kd.at_int HR2.out x11_2 p170 q170
                  cases e170
                  replace hx170_0 := (HB.out.cell (World.block_lt_of_cell? w _ hx170_0)).trans hx170_0
                  replace p170 := eq_true p170
                  replace q170 := eq_true q170
                  go_upto_block 2 with (fail)
                  go_cut [8, 9, 10] (fun v8 v9 v10 wc => ∃ (kq : Nat) (x8_18 : Int) (x9_18 : Int) (x10_18 : Int) (x170000_18 : Int) (x170001_18 : Int) (x170002_18 : Int) (x170003_18 : Int), v8 = .int .i64 x8_18 ∧ v9 = .int .i64 x9_18 ∧ v10 = .int .i64 x10_18 ∧ Aside0 (drawbridgelaw23_DetectLate.j2 kq a0 a1 l2 x8_18 x9_18 x10_18 x11_2 x170000_18 x170001_18 x170002_18 x170003_18 = some r) ∧ Aside0 (kq ≤ k2) ∧ Aside0 (wc.heap[gb169]? = some (.cells #[.int .i64 x170000_18, .int .i64 x170001_18, .int .i64 x170002_18, .int .i64 x170003_18] 23 (0, 0))) ∧ Aside0 (Below w.heap.size w wc))
                  case first =>
                    have H := HC19.out
                    clear HC19
                    by_cases c20 : (Int.tmod (rd l2 x11_2) 3) = 0
                    · rw [if_pos c20] at H
                      have c20b0 : ((Int.tmod (rd l2 x11_2) 3) == 0) = true := beq_iff_eq.mpr c20
                      have c20b1 : ((Int.tmod (rd l2 x11_2) 3) != 0) = false := bne_eq_false_iff_eq.mpr c20
                      clear c20
                      (first | rw [c20b0] | (simp only [i64_w, i32_w]; rw [c20b0]) | skip)
                      replace H := Option.bind_eq_some_iff.mp H
                      obtain ⟨⟨t171, t172, t173, t174, t175⟩, A210, H⟩ := H
                      replace H : (drawbridgelaw23_DetectLate.j2 k2 a0 a1 l2 t175 (wrap64 (x9_2 + 1)) (wrap64 (x10_2 + 1)) x11_2 t171 t172 t173 t174) = some r := H
                      have A21 := Aside0.mk A210
                      clear A210
                      have H' := Aside0.mk H
                      clear H
                      have hcz22_0 : wr.cell? ⟨gb169, 0, none⟩ = some (.int .i64 x170000_2) := (blk_cell BK169.out 0).trans rfl
                      have hcz22_1 : wr.cell? ⟨gb169, 1, none⟩ = some (.int .i64 x170001_2) := (blk_cell BK169.out 1).trans rfl
                      have hcz22_2 : wr.cell? ⟨gb169, 2, none⟩ = some (.int .i64 x170002_2) := (blk_cell BK169.out 2).trans rfl
                      have hcz22_3 : wr.cell? ⟨gb169, 3, none⟩ = some (.int .i64 x170003_2) := (blk_cell BK169.out 3).trans rfl
                      have hfz22_0 := blk_frozen BK169.out 0
                      have hfz22_1 := blk_frozen BK169.out 1
                      have hfz22_2 := blk_frozen BK169.out 2
                      have hfz22_3 := blk_frozen BK169.out 3
                      go_wp2_with (first | ((with_reducible refine gate_callee (f := 12) rfl ?_); refine goesL_ (some 56) rfl rfl Try.func12 (by kernel_rfl) rfl #[.agg #[.int .i64 x170000_2, .int .i64 x170001_2, .int .i64 x170002_2, .int .i64 x170003_2]] rfl (by (try simp only [List.map_toArray, List.map_cons, List.map_nil]); first | done | rfl | (simp only [List.length_drop, List.length_take]; rfl)) ?_; (with_reducible refine (detect_Tick.calls x170000_2 x170001_2 x170002_2 x170003_2 t171 t172 t173 t174 t175 _ A21.out).mono ?_); rintro e w23 ⟨rfl, hb⟩; refine ⟨_, rfl, ?_⟩; have n0_ := Aside0.mk (blk_below (g := gb169) (o := .cells #[.int .i64 x170000_2, .int .i64 x170001_2, .int .i64 x170002_2, .int .i64 x170003_2] 23 (0, 0)) (by (with_reducible repeat (first | refine blk_drewN ?_ _ | refine blk_drew ?_ | refine blk_alloc ?_ _)); exact BK169.out) hb); have n1_ := Aside0.mk (below_step (by repeat (first | (with_reducible first | exact HB.out | apply below_alloc | apply pw_below_drewN | apply below_drew1 | refine below_set ?_ GE169.out) | exact HB.out)) hb); clear BK169; clear HB; have BK169 := n0_; have HB := n1_; clear n0_ n1_; (try clear hb); (try clear hb2); (try clear hk); (try clear hi); have hcz24_0 : w23.cell? ⟨gb169, 0, none⟩ = some (.int .i64 x170000_2) := (blk_cell BK169.out 0).trans rfl; have hcz24_1 : w23.cell? ⟨gb169, 1, none⟩ = some (.int .i64 x170001_2) := (blk_cell BK169.out 1).trans rfl; have hcz24_2 : w23.cell? ⟨gb169, 2, none⟩ = some (.int .i64 x170002_2) := (blk_cell BK169.out 2).trans rfl; have hcz24_3 : w23.cell? ⟨gb169, 3, none⟩ = some (.int .i64 x170003_2) := (blk_cell BK169.out 3).trans rfl; have hfz24_0 := blk_frozen BK169.out 0; have hfz24_1 := blk_frozen BK169.out 1; have hfz24_2 := blk_frozen BK169.out 2; have hfz24_3 := blk_frozen BK169.out 3))
                      go_meet
                      case rel => exact ⟨_, (t175), (wrap64 (x9_2 + 1)), (wrap64 (x10_2 + 1)), (t171), (t172), (t173), (t174), (by first | rfl | (simp; done) | (simp [*]; done)), (by first | rfl | (simp; done) | (simp [*]; done)), (by first | rfl | (simp; done) | (simp [*]; done)), H', ⟨by have := HJ6.out; have := HK2.out; first | omega | exact Nat.le_refl _⟩, ⟨by (with_reducible repeat (first | refine blk_drewN ?_ _ | refine blk_drew ?_ | refine blk_alloc ?_ _)); refine blk_put (cs := #[.int .i64 t171, .int .i64 t172, .int .i64 t173, .int .i64 x170003_2]) ?_ 3 _ rfl; (with_reducible repeat (first | refine blk_drewN ?_ _ | refine blk_drew ?_ | refine blk_alloc ?_ _)); refine blk_put (cs := #[.int .i64 t171, .int .i64 t172, .int .i64 x170002_2, .int .i64 x170003_2]) ?_ 2 _ rfl; (with_reducible repeat (first | refine blk_drewN ?_ _ | refine blk_drew ?_ | refine blk_alloc ?_ _)); refine blk_put (cs := #[.int .i64 t171, .int .i64 x170001_2, .int .i64 x170002_2, .int .i64 x170003_2]) ?_ 1 _ rfl; (with_reducible repeat (first | refine blk_drewN ?_ _ | refine blk_drew ?_ | refine blk_alloc ?_ _)); refine blk_put (cs := #[.int .i64 x170000_2, .int .i64 x170001_2, .int .i64 x170002_2, .int .i64 x170003_2]) ?_ 0 _ rfl; (with_reducible repeat (first | refine blk_drewN ?_ _ | refine blk_drew ?_ | refine blk_alloc ?_ _)); exact BK169.out⟩, ⟨by repeat (first | (with_reducible first | exact HB.out | apply below_alloc | apply pw_below_drewN | apply below_drew1 | refine below_set ?_ GE169.out) | exact HB.out)⟩⟩
                    · rw [if_neg c20] at H
                      have c20b0 : ((Int.tmod (rd l2 x11_2) 3) == 0) = false := beq_eq_false_iff_ne.mpr c20
                      have c20b1 : ((Int.tmod (rd l2 x11_2) 3) != 0) = true := bne_iff_ne.mpr c20
                      (first | rw [c20b0] | (simp only [i64_w, i32_w]; rw [c20b0]) | skip)
                      by_cases c25 : (Int.tmod (rd l2 x11_2) 3) = 1
                      · rw [if_pos c25] at H
                        have c25b0 : ((Int.tmod (rd l2 x11_2) 3) == 1) = true := beq_iff_eq.mpr c25
                        have c25b1 : ((Int.tmod (rd l2 x11_2) 3) != 1) = false := bne_eq_false_iff_eq.mpr c25
                        clear c25
                        replace H := Option.bind_eq_some_iff.mp H
                        obtain ⟨⟨t176, t177, t178, t179, t180⟩, A260, H⟩ := H
                        replace H : (drawbridgelaw23_DetectLate.j2 k2 a0 a1 l2 t180 0 x10_2 x11_2 t176 t177 t178 t179) = some r := H
                        have A26 := Aside0.mk A260
                        clear A260
                        have H' := Aside0.mk H
                        clear H
                        have hcz27_0 : wr.cell? ⟨gb169, 0, none⟩ = some (.int .i64 x170000_2) := (blk_cell BK169.out 0).trans rfl
                        have hcz27_1 : wr.cell? ⟨gb169, 1, none⟩ = some (.int .i64 x170001_2) := (blk_cell BK169.out 1).trans rfl
                        have hcz27_2 : wr.cell? ⟨gb169, 2, none⟩ = some (.int .i64 x170002_2) := (blk_cell BK169.out 2).trans rfl
                        have hcz27_3 : wr.cell? ⟨gb169, 3, none⟩ = some (.int .i64 x170003_2) := (blk_cell BK169.out 3).trans rfl
                        have hfz27_0 := blk_frozen BK169.out 0
                        have hfz27_1 := blk_frozen BK169.out 1
                        have hfz27_2 := blk_frozen BK169.out 2
                        have hfz27_3 := blk_frozen BK169.out 3
                        go_wp2_with (first | ((with_reducible refine gate_callee (f := 15) rfl ?_); refine goesL_ (some 67) rfl rfl Try.func15 (by kernel_rfl) rfl #[.agg #[.int .i64 x170000_2, .int .i64 x170001_2, .int .i64 x170002_2, .int .i64 x170003_2]] rfl (by (try simp only [List.map_toArray, List.map_cons, List.map_nil]); first | done | rfl | (simp only [List.length_drop, List.length_take]; rfl)) ?_; (with_reducible refine (detect_Heard.calls x170000_2 x170001_2 x170002_2 x170003_2 t176 t177 t178 t179 t180 _ A26.out).mono ?_); rintro e w28 ⟨rfl, hb⟩; refine ⟨_, rfl, ?_⟩; have n0_ := Aside0.mk (blk_below (g := gb169) (o := .cells #[.int .i64 x170000_2, .int .i64 x170001_2, .int .i64 x170002_2, .int .i64 x170003_2] 23 (0, 0)) (by (with_reducible repeat (first | refine blk_drewN ?_ _ | refine blk_drew ?_ | refine blk_alloc ?_ _)); exact BK169.out) hb); have n1_ := Aside0.mk (below_step (by repeat (first | (with_reducible first | exact HB.out | apply below_alloc | apply pw_below_drewN | apply below_drew1 | refine below_set ?_ GE169.out) | exact HB.out)) hb); clear BK169; clear HB; have BK169 := n0_; have HB := n1_; clear n0_ n1_; (try clear hb); (try clear hb2); (try clear hk); (try clear hi); have hcz29_0 : w28.cell? ⟨gb169, 0, none⟩ = some (.int .i64 x170000_2) := (blk_cell BK169.out 0).trans rfl; have hcz29_1 : w28.cell? ⟨gb169, 1, none⟩ = some (.int .i64 x170001_2) := (blk_cell BK169.out 1).trans rfl; have hcz29_2 : w28.cell? ⟨gb169, 2, none⟩ = some (.int .i64 x170002_2) := (blk_cell BK169.out 2).trans rfl; have hcz29_3 : w28.cell? ⟨gb169, 3, none⟩ = some (.int .i64 x170003_2) := (blk_cell BK169.out 3).trans rfl; have hfz29_0 := blk_frozen BK169.out 0; have hfz29_1 := blk_frozen BK169.out 1; have hfz29_2 := blk_frozen BK169.out 2; have hfz29_3 := blk_frozen BK169.out 3))
                        go_meet
                        case rel => exact ⟨_, (t180), (0), (x10_2), (t176), (t177), (t178), (t179), (by first | rfl | (simp; done) | (simp [*]; done)), (by first | rfl | (simp; done) | (simp [*]; done)), (by first | rfl | (simp; done) | (simp [*]; done)), H', ⟨by have := HJ6.out; have := HK2.out; first | omega | exact Nat.le_refl _⟩, ⟨by (with_reducible repeat (first | refine blk_drewN ?_ _ | refine blk_drew ?_ | refine blk_alloc ?_ _)); refine blk_put (cs := #[.int .i64 t176, .int .i64 t177, .int .i64 t178, .int .i64 x170003_2]) ?_ 3 _ rfl; (with_reducible repeat (first | refine blk_drewN ?_ _ | refine blk_drew ?_ | refine blk_alloc ?_ _)); refine blk_put (cs := #[.int .i64 t176, .int .i64 t177, .int .i64 x170002_2, .int .i64 x170003_2]) ?_ 2 _ rfl; (with_reducible repeat (first | refine blk_drewN ?_ _ | refine blk_drew ?_ | refine blk_alloc ?_ _)); refine blk_put (cs := #[.int .i64 t176, .int .i64 x170001_2, .int .i64 x170002_2, .int .i64 x170003_2]) ?_ 1 _ rfl; (with_reducible repeat (first | refine blk_drewN ?_ _ | refine blk_drew ?_ | refine blk_alloc ?_ _)); refine blk_put (cs := #[.int .i64 x170000_2, .int .i64 x170001_2, .int .i64 x170002_2, .int .i64 x170003_2]) ?_ 0 _ rfl; (with_reducible repeat (first | refine blk_drewN ?_ _ | refine blk_drew ?_ | refine blk_alloc ?_ _)); exact BK169.out⟩, ⟨by repeat (first | (with_reducible first | exact HB.out | apply below_alloc | apply pw_below_drewN | apply below_drew1 | refine below_set ?_ GE169.out) | exact HB.out)⟩⟩
                      · rw [if_neg c25] at H
                        have c25b0 : ((Int.tmod (rd l2 x11_2) 3) == 1) = false := beq_eq_false_iff_ne.mpr c25
                        have c25b1 : ((Int.tmod (rd l2 x11_2) 3) != 1) = true := bne_iff_ne.mpr c25
                        replace H := Option.bind_eq_some_iff.mp H
                        obtain ⟨⟨t181, t182, t183, t184, t185⟩, A300, H⟩ := H
                        replace H : (drawbridgelaw23_DetectLate.j2 k2 a0 a1 l2 t185 x9_2 0 x11_2 t181 t182 t183 t184) = some r := H
                        have A30 := Aside0.mk A300
                        clear A300
                        have H' := Aside0.mk H
                        clear H
                        have hcz31_0 : wr.cell? ⟨gb169, 0, none⟩ = some (.int .i64 x170000_2) := (blk_cell BK169.out 0).trans rfl
                        have hcz31_1 : wr.cell? ⟨gb169, 1, none⟩ = some (.int .i64 x170001_2) := (blk_cell BK169.out 1).trans rfl
                        have hcz31_2 : wr.cell? ⟨gb169, 2, none⟩ = some (.int .i64 x170002_2) := (blk_cell BK169.out 2).trans rfl
                        have hcz31_3 : wr.cell? ⟨gb169, 3, none⟩ = some (.int .i64 x170003_2) := (blk_cell BK169.out 3).trans rfl
                        have hfz31_0 := blk_frozen BK169.out 0
                        have hfz31_1 := blk_frozen BK169.out 1
                        have hfz31_2 := blk_frozen BK169.out 2
                        have hfz31_3 := blk_frozen BK169.out 3
                        go_wp2_with (first | ((with_reducible refine gate_callee (f := 16) rfl ?_); refine goesL_ (some 49) rfl rfl Try.func16 (by kernel_rfl) rfl #[.agg #[.int .i64 x170000_2, .int .i64 x170001_2, .int .i64 x170002_2, .int .i64 x170003_2]] rfl (by (try simp only [List.map_toArray, List.map_cons, List.map_nil]); first | done | rfl | (simp only [List.length_drop, List.length_take]; rfl)) ?_; (with_reducible refine (detect_Told.calls x170000_2 x170001_2 x170002_2 x170003_2 t181 t182 t183 t184 t185 _ A30.out).mono ?_); rintro e w32 ⟨rfl, hb⟩; refine ⟨_, rfl, ?_⟩; have n0_ := Aside0.mk (blk_below (g := gb169) (o := .cells #[.int .i64 x170000_2, .int .i64 x170001_2, .int .i64 x170002_2, .int .i64 x170003_2] 23 (0, 0)) (by (with_reducible repeat (first | refine blk_drewN ?_ _ | refine blk_drew ?_ | refine blk_alloc ?_ _)); exact BK169.out) hb); have n1_ := Aside0.mk (below_step (by repeat (first | (with_reducible first | exact HB.out | apply below_alloc | apply pw_below_drewN | apply below_drew1 | refine below_set ?_ GE169.out) | exact HB.out)) hb); clear BK169; clear HB; have BK169 := n0_; have HB := n1_; clear n0_ n1_; (try clear hb); (try clear hb2); (try clear hk); (try clear hi); have hcz33_0 : w32.cell? ⟨gb169, 0, none⟩ = some (.int .i64 x170000_2) := (blk_cell BK169.out 0).trans rfl; have hcz33_1 : w32.cell? ⟨gb169, 1, none⟩ = some (.int .i64 x170001_2) := (blk_cell BK169.out 1).trans rfl; have hcz33_2 : w32.cell? ⟨gb169, 2, none⟩ = some (.int .i64 x170002_2) := (blk_cell BK169.out 2).trans rfl; have hcz33_3 : w32.cell? ⟨gb169, 3, none⟩ = some (.int .i64 x170003_2) := (blk_cell BK169.out 3).trans rfl; have hfz33_0 := blk_frozen BK169.out 0; have hfz33_1 := blk_frozen BK169.out 1; have hfz33_2 := blk_frozen BK169.out 2; have hfz33_3 := blk_frozen BK169.out 3))
                        go_meet
                        case rel => exact ⟨_, (t185), (x9_2), (0), (t181), (t182), (t183), (t184), (by first | rfl | (simp; done) | (simp [*]; done)), (by first | rfl | (simp; done) | (simp [*]; done)), (by first | rfl | (simp; done) | (simp [*]; done)), H', ⟨by have := HJ6.out; have := HK2.out; first | omega | exact Nat.le_refl _⟩, ⟨by (with_reducible repeat (first | refine blk_drewN ?_ _ | refine blk_drew ?_ | refine blk_alloc ?_ _)); refine blk_put (cs := #[.int .i64 t181, .int .i64 t182, .int .i64 t183, .int .i64 x170003_2]) ?_ 3 _ rfl; (with_reducible repeat (first | refine blk_drewN ?_ _ | refine blk_drew ?_ | refine blk_alloc ?_ _)); refine blk_put (cs := #[.int .i64 t181, .int .i64 t182, .int .i64 x170002_2, .int .i64 x170003_2]) ?_ 2 _ rfl; (with_reducible repeat (first | refine blk_drewN ?_ _ | refine blk_drew ?_ | refine blk_alloc ?_ _)); refine blk_put (cs := #[.int .i64 t181, .int .i64 x170001_2, .int .i64 x170002_2, .int .i64 x170003_2]) ?_ 1 _ rfl; (with_reducible repeat (first | refine blk_drewN ?_ _ | refine blk_drew ?_ | refine blk_alloc ?_ _)); refine blk_put (cs := #[.int .i64 x170000_2, .int .i64 x170001_2, .int .i64 x170002_2, .int .i64 x170003_2]) ?_ 0 _ rfl; (with_reducible repeat (first | refine blk_drewN ?_ _ | refine blk_drew ?_ | refine blk_alloc ?_ _)); exact BK169.out⟩, ⟨by repeat (first | (with_reducible first | exact HB.out | apply below_alloc | apply pw_below_drewN | apply below_drew1 | refine below_set ?_ GE169.out) | exact HB.out)⟩⟩
                  case rest =>
                    clear HC19
                    try clear c1
                    try clear p1
                    try clear q1
                    try clear hx1
                    try clear c2
                    try clear p2
                    try clear c4
                    try clear c5
                    try clear p6
                    try clear c11
                    try clear c12
                    try clear c12b0
                    try clear c12b1
                    try clear c13
                    try clear c14
                    try clear c14b0
                    try clear c14b1
                    try clear c14b2
                    try clear c15
                    try clear c16
                    try clear c17
                    try clear c17b0
                    try clear p17
                    try clear q17
                    try clear hx17
                    try clear c18
                    try clear c18b0
                    try clear c20
                    try clear c20b0
                    try clear c20b1
                    try clear c25
                    try clear c25b0
                    try clear c25b1
                    try clear hcz11_0
                    try clear hcz11_1
                    try clear hcz11_2
                    try clear hcz11_3
                    try clear hcz15_0
                    try clear hcz15_1
                    try clear hcz15_2
                    try clear hcz15_3
                    try clear hcz16_0
                    try clear hcz16_1
                    try clear hcz16_2
                    try clear hcz16_3
                    try clear hcz22_0
                    try clear hcz22_1
                    try clear hcz22_2
                    try clear hcz22_3
                    try clear hcz24_0
                    try clear hcz24_1
                    try clear hcz24_2
                    try clear hcz24_3
                    try clear hcz27_0
                    try clear hcz27_1
                    try clear hcz27_2
                    try clear hcz27_3
                    try clear hcz29_0
                    try clear hcz29_1
                    try clear hcz29_2
                    try clear hcz29_3
                    try clear hcz31_0
                    try clear hcz31_1
                    try clear hcz31_2
                    try clear hcz31_3
                    try clear hcz33_0
                    try clear hcz33_1
                    try clear hcz33_2
                    try clear hcz33_3
                    try clear hfz11_0
                    try clear hfz11_1
                    try clear hfz11_2
                    try clear hfz11_3
                    try clear hfz15_0
                    try clear hfz15_1
                    try clear hfz15_2
                    try clear hfz15_3
                    try clear hfz16_0
                    try clear hfz16_1
                    try clear hfz16_2
                    try clear hfz16_3
                    try clear hfz22_0
                    try clear hfz22_1
                    try clear hfz22_2
                    try clear hfz22_3
                    try clear hfz24_0
                    try clear hfz24_1
                    try clear hfz24_2
                    try clear hfz24_3
                    try clear hfz27_0
                    try clear hfz27_1
                    try clear hfz27_2
                    try clear hfz27_3
                    try clear hfz29_0
                    try clear hfz29_1
                    try clear hfz29_2
                    try clear hfz29_3
                    try clear hfz31_0
                    try clear hfz31_1
                    try clear hfz31_2
                    try clear hfz31_3
                    try clear hfz33_0
                    try clear hfz33_1
                    try clear hfz33_2
                    try clear hfz33_3
                    try clear hx170_0
                    try clear p170
                    try clear p2
                    try clear q170
                    obtain ⟨kq, x8_18, x9_18, x10_18, x170000_18, x170001_18, x170002_18, x170003_18, rfl, rfl, rfl, HA, HJ18, BK169, HB⟩ := hcut
                    cases kq with
                    | zero => exact absurd HA.out (by simp [drawbridgelaw23_DetectLate.j2])
                    | succ kj18 =>
                      have H := HA.out
                      clear HA
                      simp only [drawbridgelaw23_DetectLate.j2] at H
                      by_cases c34 : x8_18 = 0
                      · rw [if_pos c34] at H
                        have c34b0 : (x8_18 == 0) = true := beq_iff_eq.mpr c34
                        have c34b1 : (x8_18 != 0) = false := bne_eq_false_iff_eq.mpr c34
                        clear c34
                        replace H := Option.bind_eq_some_iff.mp H
                        obtain ⟨t186, A350, H⟩ := H
                        replace H : (if t186 = 0 then ((detect_Late.f x170000_18 x170001_18 x170002_18 x170003_18).bind fun t187 => (if (t187 != (decide (x9_18 ≥ a0))) = true then (some false) else ((detect_Due.f x170000_18 x170001_18 x170002_18 x170003_18).bind fun t188 => (if (t188 != (decide (x10_18 ≥ a1))) = true then (some false) else ((detect_Left.f x170000_18 x170001_18 x170002_18 x170003_18).bind fun t189 => (if t189 = (mx 0 (wrap64 (a0 - x9_18))) then (drawbridgelaw23_DetectLate.l0 kj18 a0 a1 l2 x9_18 x10_18 (wrap64 (x11_2 + 1)) x170000_18 x170001_18 x170002_18 x170003_18) else (some false))))))) else (some false)) = some r := H
                        have A35 := Aside0.mk A350
                        clear A350
                        by_cases c36 : t186 = 0
                        · rw [if_pos c36] at H
                          have c36b0 : (t186 == 0) = true := beq_iff_eq.mpr c36
                          have c36b1 : (t186 != 0) = false := bne_eq_false_iff_eq.mpr c36
                          clear c36
                          replace H := Option.bind_eq_some_iff.mp H
                          obtain ⟨t187, A370, H⟩ := H
                          replace H : (if (t187 != (decide (x9_18 ≥ a0))) = true then (some false) else ((detect_Due.f x170000_18 x170001_18 x170002_18 x170003_18).bind fun t188 => (if (t188 != (decide (x10_18 ≥ a1))) = true then (some false) else ((detect_Left.f x170000_18 x170001_18 x170002_18 x170003_18).bind fun t189 => (if t189 = (mx 0 (wrap64 (a0 - x9_18))) then (drawbridgelaw23_DetectLate.l0 kj18 a0 a1 l2 x9_18 x10_18 (wrap64 (x11_2 + 1)) x170000_18 x170001_18 x170002_18 x170003_18) else (some false)))))) = some r := H
                          have A37 := Aside0.mk A370
                          clear A370
                          by_cases c38 : (t187 != (decide (x9_18 ≥ a0))) = true
                          · rw [if_pos c38] at H
                            have c38b0 : (t187 != (decide (x9_18 ≥ a0))) = true := c38
                            (try (have c38b1 : decide (t187 = (decide (x9_18 ≥ a0))) = false := by simpa using c38))
                            (try (have c38b2 : (t187 == (decide (x9_18 ≥ a0))) = false := by simpa using c38))
                            (try (have c38b3 : ¬ (t187 = (decide (x9_18 ≥ a0))) := by simpa using c38))
                            clear c38
                            obtain rfl := Option.some.inj H
                            have hcz39_0 : wc.cell? ⟨gb169, 0, none⟩ = some (.int .i64 x170000_18) := (blk_cell BK169.out 0).trans rfl
                            have hcz39_1 : wc.cell? ⟨gb169, 1, none⟩ = some (.int .i64 x170001_18) := (blk_cell BK169.out 1).trans rfl
                            have hcz39_2 : wc.cell? ⟨gb169, 2, none⟩ = some (.int .i64 x170002_18) := (blk_cell BK169.out 2).trans rfl
                            have hcz39_3 : wc.cell? ⟨gb169, 3, none⟩ = some (.int .i64 x170003_18) := (blk_cell BK169.out 3).trans rfl
                            have hfz39_0 := blk_frozen BK169.out 0
                            have hfz39_1 := blk_frozen BK169.out 1
                            have hfz39_2 := blk_frozen BK169.out 2
                            have hfz39_3 := blk_frozen BK169.out 3
                            go_wp2_with (first | (go_at_call 17; (with_reducible refine (detect_Check.calls x170000_18 x170001_18 x170002_18 x170003_18 t186 _ A35.out).mono ?_); rintro e w40 ⟨rfl, hb⟩; have n0_ := Aside0.mk (blk_below (g := gb169) (o := .cells #[.int .i64 x170000_18, .int .i64 x170001_18, .int .i64 x170002_18, .int .i64 x170003_18] 23 (0, 0)) (by (with_reducible repeat (first | refine blk_drewN ?_ _ | refine blk_drew ?_ | refine blk_alloc ?_ _)); exact BK169.out) hb); have n1_ := Aside0.mk (below_step (by repeat (first | (with_reducible first | exact HB.out | apply below_alloc | apply pw_below_drewN | apply below_drew1 | refine below_set ?_ GE169.out) | exact HB.out)) hb); clear BK169; clear HB; have BK169 := n0_; have HB := n1_; clear n0_ n1_; (try clear hb); (try clear hb2); (try clear hk); (try clear hi); have hcz41_0 : w40.cell? ⟨gb169, 0, none⟩ = some (.int .i64 x170000_18) := (blk_cell BK169.out 0).trans rfl; have hcz41_1 : w40.cell? ⟨gb169, 1, none⟩ = some (.int .i64 x170001_18) := (blk_cell BK169.out 1).trans rfl; have hcz41_2 : w40.cell? ⟨gb169, 2, none⟩ = some (.int .i64 x170002_18) := (blk_cell BK169.out 2).trans rfl; have hcz41_3 : w40.cell? ⟨gb169, 3, none⟩ = some (.int .i64 x170003_18) := (blk_cell BK169.out 3).trans rfl; have hfz41_0 := blk_frozen BK169.out 0; have hfz41_1 := blk_frozen BK169.out 1; have hfz41_2 := blk_frozen BK169.out 2; have hfz41_3 := blk_frozen BK169.out 3) | (go_at_call 18; (with_reducible refine (detect_Late.calls x170000_18 x170001_18 x170002_18 x170003_18 t187 _ A37.out).mono ?_); rintro e w42 ⟨rfl, hb⟩; have n0_ := Aside0.mk (blk_below (g := gb169) (o := .cells #[.int .i64 x170000_18, .int .i64 x170001_18, .int .i64 x170002_18, .int .i64 x170003_18] 23 (0, 0)) (by (with_reducible repeat (first | refine blk_drewN ?_ _ | refine blk_drew ?_ | refine blk_alloc ?_ _)); exact BK169.out) hb); have n1_ := Aside0.mk (below_step (by repeat (first | (with_reducible first | exact HB.out | apply below_alloc | apply pw_below_drewN | apply below_drew1 | refine below_set ?_ GE169.out) | exact HB.out)) hb); clear BK169; clear HB; have BK169 := n0_; have HB := n1_; clear n0_ n1_; (try clear hb); (try clear hb2); (try clear hk); (try clear hi)))
                            go_ret
                            exact ⟨by first | rfl | (simp [errW_none, errW_some] <;> rfl) | (simp [*, errW_none, errW_some] <;> rfl), by repeat (first | (with_reducible first | exact HB.out | apply below_alloc | apply pw_below_drewN | apply below_drew1 | refine below_set ?_ GE169.out) | exact HB.out)⟩
                          · rw [if_neg c38] at H
                            have c38b0 : (t187 != (decide (x9_18 ≥ a0))) = false := by simpa using c38
                            (try (have c38b1 : decide (t187 = (decide (x9_18 ≥ a0))) = true := by simpa using c38))
                            (try (have c38b2 : (t187 == (decide (x9_18 ≥ a0))) = true := by simpa using c38))
                            clear c38
                            replace H := Option.bind_eq_some_iff.mp H
                            obtain ⟨t188, A430, H⟩ := H
                            replace H : (if (t188 != (decide (x10_18 ≥ a1))) = true then (some false) else ((detect_Left.f x170000_18 x170001_18 x170002_18 x170003_18).bind fun t189 => (if t189 = (mx 0 (wrap64 (a0 - x9_18))) then (drawbridgelaw23_DetectLate.l0 kj18 a0 a1 l2 x9_18 x10_18 (wrap64 (x11_2 + 1)) x170000_18 x170001_18 x170002_18 x170003_18) else (some false)))) = some r := H
                            have A43 := Aside0.mk A430
                            clear A430
                            by_cases c44 : (t188 != (decide (x10_18 ≥ a1))) = true
                            · rw [if_pos c44] at H
                              have c44b0 : (t188 != (decide (x10_18 ≥ a1))) = true := c44
                              (try (have c44b1 : decide (t188 = (decide (x10_18 ≥ a1))) = false := by simpa using c44))
                              (try (have c44b2 : (t188 == (decide (x10_18 ≥ a1))) = false := by simpa using c44))
                              (try (have c44b3 : ¬ (t188 = (decide (x10_18 ≥ a1))) := by simpa using c44))
                              clear c44
                              obtain rfl := Option.some.inj H
                              have hcz45_0 : wc.cell? ⟨gb169, 0, none⟩ = some (.int .i64 x170000_18) := (blk_cell BK169.out 0).trans rfl
                              have hcz45_1 : wc.cell? ⟨gb169, 1, none⟩ = some (.int .i64 x170001_18) := (blk_cell BK169.out 1).trans rfl
                              have hcz45_2 : wc.cell? ⟨gb169, 2, none⟩ = some (.int .i64 x170002_18) := (blk_cell BK169.out 2).trans rfl
                              have hcz45_3 : wc.cell? ⟨gb169, 3, none⟩ = some (.int .i64 x170003_18) := (blk_cell BK169.out 3).trans rfl
                              have hfz45_0 := blk_frozen BK169.out 0
                              have hfz45_1 := blk_frozen BK169.out 1
                              have hfz45_2 := blk_frozen BK169.out 2
                              have hfz45_3 := blk_frozen BK169.out 3
                              go_wp2_with (first | (go_at_call 17; (with_reducible refine (detect_Check.calls x170000_18 x170001_18 x170002_18 x170003_18 t186 _ A35.out).mono ?_); rintro e w46 ⟨rfl, hb⟩; have n0_ := Aside0.mk (blk_below (g := gb169) (o := .cells #[.int .i64 x170000_18, .int .i64 x170001_18, .int .i64 x170002_18, .int .i64 x170003_18] 23 (0, 0)) (by (with_reducible repeat (first | refine blk_drewN ?_ _ | refine blk_drew ?_ | refine blk_alloc ?_ _)); exact BK169.out) hb); have n1_ := Aside0.mk (below_step (by repeat (first | (with_reducible first | exact HB.out | apply below_alloc | apply pw_below_drewN | apply below_drew1 | refine below_set ?_ GE169.out) | exact HB.out)) hb); clear BK169; clear HB; have BK169 := n0_; have HB := n1_; clear n0_ n1_; (try clear hb); (try clear hb2); (try clear hk); (try clear hi); have hcz47_0 : w46.cell? ⟨gb169, 0, none⟩ = some (.int .i64 x170000_18) := (blk_cell BK169.out 0).trans rfl; have hcz47_1 : w46.cell? ⟨gb169, 1, none⟩ = some (.int .i64 x170001_18) := (blk_cell BK169.out 1).trans rfl; have hcz47_2 : w46.cell? ⟨gb169, 2, none⟩ = some (.int .i64 x170002_18) := (blk_cell BK169.out 2).trans rfl; have hcz47_3 : w46.cell? ⟨gb169, 3, none⟩ = some (.int .i64 x170003_18) := (blk_cell BK169.out 3).trans rfl; have hfz47_0 := blk_frozen BK169.out 0; have hfz47_1 := blk_frozen BK169.out 1; have hfz47_2 := blk_frozen BK169.out 2; have hfz47_3 := blk_frozen BK169.out 3) | (go_at_call 18; (with_reducible refine (detect_Late.calls x170000_18 x170001_18 x170002_18 x170003_18 t187 _ A37.out).mono ?_); rintro e w48 ⟨rfl, hb⟩; have n0_ := Aside0.mk (blk_below (g := gb169) (o := .cells #[.int .i64 x170000_18, .int .i64 x170001_18, .int .i64 x170002_18, .int .i64 x170003_18] 23 (0, 0)) (by (with_reducible repeat (first | refine blk_drewN ?_ _ | refine blk_drew ?_ | refine blk_alloc ?_ _)); exact BK169.out) hb); have n1_ := Aside0.mk (below_step (by repeat (first | (with_reducible first | exact HB.out | apply below_alloc | apply pw_below_drewN | apply below_drew1 | refine below_set ?_ GE169.out) | exact HB.out)) hb); clear BK169; clear HB; have BK169 := n0_; have HB := n1_; clear n0_ n1_; (try clear hb); (try clear hb2); (try clear hk); (try clear hi); have hcz49_0 : w48.cell? ⟨gb169, 0, none⟩ = some (.int .i64 x170000_18) := (blk_cell BK169.out 0).trans rfl; have hcz49_1 : w48.cell? ⟨gb169, 1, none⟩ = some (.int .i64 x170001_18) := (blk_cell BK169.out 1).trans rfl; have hcz49_2 : w48.cell? ⟨gb169, 2, none⟩ = some (.int .i64 x170002_18) := (blk_cell BK169.out 2).trans rfl; have hcz49_3 : w48.cell? ⟨gb169, 3, none⟩ = some (.int .i64 x170003_18) := (blk_cell BK169.out 3).trans rfl; have hfz49_0 := blk_frozen BK169.out 0; have hfz49_1 := blk_frozen BK169.out 1; have hfz49_2 := blk_frozen BK169.out 2; have hfz49_3 := blk_frozen BK169.out 3) | (go_at_call 19; (with_reducible refine (detect_Due.calls x170000_18 x170001_18 x170002_18 x170003_18 t188 _ A43.out).mono ?_); rintro e w50 ⟨rfl, hb⟩; have n0_ := Aside0.mk (blk_below (g := gb169) (o := .cells #[.int .i64 x170000_18, .int .i64 x170001_18, .int .i64 x170002_18, .int .i64 x170003_18] 23 (0, 0)) (by (with_reducible repeat (first | refine blk_drewN ?_ _ | refine blk_drew ?_ | refine blk_alloc ?_ _)); exact BK169.out) hb); have n1_ := Aside0.mk (below_step (by repeat (first | (with_reducible first | exact HB.out | apply below_alloc | apply pw_below_drewN | apply below_drew1 | refine below_set ?_ GE169.out) | exact HB.out)) hb); clear BK169; clear HB; have BK169 := n0_; have HB := n1_; clear n0_ n1_; (try clear hb); (try clear hb2); (try clear hk); (try clear hi)))
                              go_ret
                              exact ⟨by first | rfl | (simp [errW_none, errW_some] <;> rfl) | (simp [*, errW_none, errW_some] <;> rfl), by repeat (first | (with_reducible first | exact HB.out | apply below_alloc | apply pw_below_drewN | apply below_drew1 | refine below_set ?_ GE169.out) | exact HB.out)⟩
                            · rw [if_neg c44] at H
                              have c44b0 : (t188 != (decide (x10_18 ≥ a1))) = false := by simpa using c44
                              (try (have c44b1 : decide (t188 = (decide (x10_18 ≥ a1))) = true := by simpa using c44))
                              (try (have c44b2 : (t188 == (decide (x10_18 ≥ a1))) = true := by simpa using c44))
                              clear c44
                              replace H := Option.bind_eq_some_iff.mp H
                              obtain ⟨t189, A510, H⟩ := H
                              replace H : (if t189 = (mx 0 (wrap64 (a0 - x9_18))) then (drawbridgelaw23_DetectLate.l0 kj18 a0 a1 l2 x9_18 x10_18 (wrap64 (x11_2 + 1)) x170000_18 x170001_18 x170002_18 x170003_18) else (some false)) = some r := H
                              have A51 := Aside0.mk A510
                              clear A510
                              obtain ⟨ji52, hji52⟩ : ∃ j_ : Int, (mx 0 (wrap64 (a0 - x9_18))) = j_ := ⟨_, rfl⟩
                              replace H : (if t189 = (ji52) then (drawbridgelaw23_DetectLate.l0 kj18 a0 a1 l2 x9_18 x10_18 (wrap64 (x11_2 + 1)) x170000_18 x170001_18 x170002_18 x170003_18) else (some false)) = some r := by first | (rw [hji52] at H; exact H) | (simp only [hji52] at H ⊢; exact H)
                              (try rw [hji52] at A35)
                              (try rw [hji52] at A37)
                              (try rw [hji52] at A43)
                              (try rw [hji52] at A51)
                              have hji52_ : (if 0 < (wrap64 (a0 - x9_18)) then (wrap64 (a0 - x9_18)) else 0) = ji52 := hji52
                              by_cases c53 : t189 = (ji52)
                              · rw [if_pos c53] at H
                                have c53b0 : (t189 == (ji52)) = true := beq_iff_eq.mpr c53
                                have c53b1 : (t189 != (ji52)) = false := bne_eq_false_iff_eq.mpr c53
                                clear c53
                                have H' := Aside0.mk H
                                clear H
                                have hcz54_0 : wc.cell? ⟨gb169, 0, none⟩ = some (.int .i64 x170000_18) := (blk_cell BK169.out 0).trans rfl
                                have hcz54_1 : wc.cell? ⟨gb169, 1, none⟩ = some (.int .i64 x170001_18) := (blk_cell BK169.out 1).trans rfl
                                have hcz54_2 : wc.cell? ⟨gb169, 2, none⟩ = some (.int .i64 x170002_18) := (blk_cell BK169.out 2).trans rfl
                                have hcz54_3 : wc.cell? ⟨gb169, 3, none⟩ = some (.int .i64 x170003_18) := (blk_cell BK169.out 3).trans rfl
                                have hfz54_0 := blk_frozen BK169.out 0
                                have hfz54_1 := blk_frozen BK169.out 1
                                have hfz54_2 := blk_frozen BK169.out 2
                                have hfz54_3 := blk_frozen BK169.out 3
                                go_wp2_with (first | (go_at_call 17; (with_reducible refine (detect_Check.calls x170000_18 x170001_18 x170002_18 x170003_18 t186 _ A35.out).mono ?_); rintro e w55 ⟨rfl, hb⟩; have n0_ := Aside0.mk (blk_below (g := gb169) (o := .cells #[.int .i64 x170000_18, .int .i64 x170001_18, .int .i64 x170002_18, .int .i64 x170003_18] 23 (0, 0)) (by (with_reducible repeat (first | refine blk_drewN ?_ _ | refine blk_drew ?_ | refine blk_alloc ?_ _)); exact BK169.out) hb); have n1_ := Aside0.mk (below_step (by repeat (first | (with_reducible first | exact HB.out | apply below_alloc | apply pw_below_drewN | apply below_drew1 | refine below_set ?_ GE169.out) | exact HB.out)) hb); clear BK169; clear HB; have BK169 := n0_; have HB := n1_; clear n0_ n1_; (try clear hb); (try clear hb2); (try clear hk); (try clear hi); have hcz56_0 : w55.cell? ⟨gb169, 0, none⟩ = some (.int .i64 x170000_18) := (blk_cell BK169.out 0).trans rfl; have hcz56_1 : w55.cell? ⟨gb169, 1, none⟩ = some (.int .i64 x170001_18) := (blk_cell BK169.out 1).trans rfl; have hcz56_2 : w55.cell? ⟨gb169, 2, none⟩ = some (.int .i64 x170002_18) := (blk_cell BK169.out 2).trans rfl; have hcz56_3 : w55.cell? ⟨gb169, 3, none⟩ = some (.int .i64 x170003_18) := (blk_cell BK169.out 3).trans rfl; have hfz56_0 := blk_frozen BK169.out 0; have hfz56_1 := blk_frozen BK169.out 1; have hfz56_2 := blk_frozen BK169.out 2; have hfz56_3 := blk_frozen BK169.out 3) | (go_at_call 18; (with_reducible refine (detect_Late.calls x170000_18 x170001_18 x170002_18 x170003_18 t187 _ A37.out).mono ?_); rintro e w57 ⟨rfl, hb⟩; have n0_ := Aside0.mk (blk_below (g := gb169) (o := .cells #[.int .i64 x170000_18, .int .i64 x170001_18, .int .i64 x170002_18, .int .i64 x170003_18] 23 (0, 0)) (by (with_reducible repeat (first | refine blk_drewN ?_ _ | refine blk_drew ?_ | refine blk_alloc ?_ _)); exact BK169.out) hb); have n1_ := Aside0.mk (below_step (by repeat (first | (with_reducible first | exact HB.out | apply below_alloc | apply pw_below_drewN | apply below_drew1 | refine below_set ?_ GE169.out) | exact HB.out)) hb); clear BK169; clear HB; have BK169 := n0_; have HB := n1_; clear n0_ n1_; (try clear hb); (try clear hb2); (try clear hk); (try clear hi); have hcz58_0 : w57.cell? ⟨gb169, 0, none⟩ = some (.int .i64 x170000_18) := (blk_cell BK169.out 0).trans rfl; have hcz58_1 : w57.cell? ⟨gb169, 1, none⟩ = some (.int .i64 x170001_18) := (blk_cell BK169.out 1).trans rfl; have hcz58_2 : w57.cell? ⟨gb169, 2, none⟩ = some (.int .i64 x170002_18) := (blk_cell BK169.out 2).trans rfl; have hcz58_3 : w57.cell? ⟨gb169, 3, none⟩ = some (.int .i64 x170003_18) := (blk_cell BK169.out 3).trans rfl; have hfz58_0 := blk_frozen BK169.out 0; have hfz58_1 := blk_frozen BK169.out 1; have hfz58_2 := blk_frozen BK169.out 2; have hfz58_3 := blk_frozen BK169.out 3) | (go_at_call 19; (with_reducible refine (detect_Due.calls x170000_18 x170001_18 x170002_18 x170003_18 t188 _ A43.out).mono ?_); rintro e w59 ⟨rfl, hb⟩; have n0_ := Aside0.mk (blk_below (g := gb169) (o := .cells #[.int .i64 x170000_18, .int .i64 x170001_18, .int .i64 x170002_18, .int .i64 x170003_18] 23 (0, 0)) (by (with_reducible repeat (first | refine blk_drewN ?_ _ | refine blk_drew ?_ | refine blk_alloc ?_ _)); exact BK169.out) hb); have n1_ := Aside0.mk (below_step (by repeat (first | (with_reducible first | exact HB.out | apply below_alloc | apply pw_below_drewN | apply below_drew1 | refine below_set ?_ GE169.out) | exact HB.out)) hb); clear BK169; clear HB; have BK169 := n0_; have HB := n1_; clear n0_ n1_; (try clear hb); (try clear hb2); (try clear hk); (try clear hi); have hcz60_0 : w59.cell? ⟨gb169, 0, none⟩ = some (.int .i64 x170000_18) := (blk_cell BK169.out 0).trans rfl; have hcz60_1 : w59.cell? ⟨gb169, 1, none⟩ = some (.int .i64 x170001_18) := (blk_cell BK169.out 1).trans rfl; have hcz60_2 : w59.cell? ⟨gb169, 2, none⟩ = some (.int .i64 x170002_18) := (blk_cell BK169.out 2).trans rfl; have hcz60_3 : w59.cell? ⟨gb169, 3, none⟩ = some (.int .i64 x170003_18) := (blk_cell BK169.out 3).trans rfl; have hfz60_0 := blk_frozen BK169.out 0; have hfz60_1 := blk_frozen BK169.out 1; have hfz60_2 := blk_frozen BK169.out 2; have hfz60_3 := blk_frozen BK169.out 3) | (go_at_call 14; (with_reducible refine (detect_Left.calls x170000_18 x170001_18 x170002_18 x170003_18 t189 _ A51.out).mono ?_); rintro e w61 ⟨rfl, hb⟩; have n0_ := Aside0.mk (blk_below (g := gb169) (o := .cells #[.int .i64 x170000_18, .int .i64 x170001_18, .int .i64 x170002_18, .int .i64 x170003_18] 23 (0, 0)) (by (with_reducible repeat (first | refine blk_drewN ?_ _ | refine blk_drew ?_ | refine blk_alloc ?_ _)); exact BK169.out) hb); have n1_ := Aside0.mk (below_step (by repeat (first | (with_reducible first | exact HB.out | apply below_alloc | apply pw_below_drewN | apply below_drew1 | refine below_set ?_ GE169.out) | exact HB.out)) hb); clear BK169; clear HB; have BK169 := n0_; have HB := n1_; clear n0_ n1_; (try clear hb); (try clear hb2); (try clear hk); (try clear hi)))
                                go_roundg kj18
                                case measure => have := HJ6.out; have := HK2.out; have := HJ18.out; omega
                                case rel => exact ⟨(x9_18), (x10_18), (wrap64 (x11_2 + 1)), (x170000_18), (x170001_18), (x170002_18), (x170003_18), (by first | rfl | (simp; done) | (simp [*]; done)), (by first | rfl | (simp; done) | (simp [*]; done)), (by first | rfl | (simp; done) | (simp [*]; done)), H', ⟨by have := HJ6.out; have := HK2.out; have := HJ18.out; omega⟩, ⟨by (with_reducible repeat (first | refine blk_drewN ?_ _ | refine blk_drew ?_ | refine blk_alloc ?_ _)); exact BK169.out⟩, ⟨by repeat (first | (with_reducible first | exact HB.out | apply below_alloc | apply pw_below_drewN | apply below_drew1 | refine below_set ?_ GE169.out) | exact HB.out)⟩⟩
                              · rw [if_neg c53] at H
                                have c53b0 : (t189 == (ji52)) = false := beq_eq_false_iff_ne.mpr c53
                                have c53b1 : (t189 != (ji52)) = true := bne_iff_ne.mpr c53
                                obtain rfl := Option.some.inj H
                                have hcz62_0 : wc.cell? ⟨gb169, 0, none⟩ = some (.int .i64 x170000_18) := (blk_cell BK169.out 0).trans rfl
                                have hcz62_1 : wc.cell? ⟨gb169, 1, none⟩ = some (.int .i64 x170001_18) := (blk_cell BK169.out 1).trans rfl
                                have hcz62_2 : wc.cell? ⟨gb169, 2, none⟩ = some (.int .i64 x170002_18) := (blk_cell BK169.out 2).trans rfl
                                have hcz62_3 : wc.cell? ⟨gb169, 3, none⟩ = some (.int .i64 x170003_18) := (blk_cell BK169.out 3).trans rfl
                                have hfz62_0 := blk_frozen BK169.out 0
                                have hfz62_1 := blk_frozen BK169.out 1
                                have hfz62_2 := blk_frozen BK169.out 2
                                have hfz62_3 := blk_frozen BK169.out 3
                                go_wp2_with (first | (go_at_call 17; (with_reducible refine (detect_Check.calls x170000_18 x170001_18 x170002_18 x170003_18 t186 _ A35.out).mono ?_); rintro e w63 ⟨rfl, hb⟩; have n0_ := Aside0.mk (blk_below (g := gb169) (o := .cells #[.int .i64 x170000_18, .int .i64 x170001_18, .int .i64 x170002_18, .int .i64 x170003_18] 23 (0, 0)) (by (with_reducible repeat (first | refine blk_drewN ?_ _ | refine blk_drew ?_ | refine blk_alloc ?_ _)); exact BK169.out) hb); have n1_ := Aside0.mk (below_step (by repeat (first | (with_reducible first | exact HB.out | apply below_alloc | apply pw_below_drewN | apply below_drew1 | refine below_set ?_ GE169.out) | exact HB.out)) hb); clear BK169; clear HB; have BK169 := n0_; have HB := n1_; clear n0_ n1_; (try clear hb); (try clear hb2); (try clear hk); (try clear hi); have hcz64_0 : w63.cell? ⟨gb169, 0, none⟩ = some (.int .i64 x170000_18) := (blk_cell BK169.out 0).trans rfl; have hcz64_1 : w63.cell? ⟨gb169, 1, none⟩ = some (.int .i64 x170001_18) := (blk_cell BK169.out 1).trans rfl; have hcz64_2 : w63.cell? ⟨gb169, 2, none⟩ = some (.int .i64 x170002_18) := (blk_cell BK169.out 2).trans rfl; have hcz64_3 : w63.cell? ⟨gb169, 3, none⟩ = some (.int .i64 x170003_18) := (blk_cell BK169.out 3).trans rfl; have hfz64_0 := blk_frozen BK169.out 0; have hfz64_1 := blk_frozen BK169.out 1; have hfz64_2 := blk_frozen BK169.out 2; have hfz64_3 := blk_frozen BK169.out 3) | (go_at_call 18; (with_reducible refine (detect_Late.calls x170000_18 x170001_18 x170002_18 x170003_18 t187 _ A37.out).mono ?_); rintro e w65 ⟨rfl, hb⟩; have n0_ := Aside0.mk (blk_below (g := gb169) (o := .cells #[.int .i64 x170000_18, .int .i64 x170001_18, .int .i64 x170002_18, .int .i64 x170003_18] 23 (0, 0)) (by (with_reducible repeat (first | refine blk_drewN ?_ _ | refine blk_drew ?_ | refine blk_alloc ?_ _)); exact BK169.out) hb); have n1_ := Aside0.mk (below_step (by repeat (first | (with_reducible first | exact HB.out | apply below_alloc | apply pw_below_drewN | apply below_drew1 | refine below_set ?_ GE169.out) | exact HB.out)) hb); clear BK169; clear HB; have BK169 := n0_; have HB := n1_; clear n0_ n1_; (try clear hb); (try clear hb2); (try clear hk); (try clear hi); have hcz66_0 : w65.cell? ⟨gb169, 0, none⟩ = some (.int .i64 x170000_18) := (blk_cell BK169.out 0).trans rfl; have hcz66_1 : w65.cell? ⟨gb169, 1, none⟩ = some (.int .i64 x170001_18) := (blk_cell BK169.out 1).trans rfl; have hcz66_2 : w65.cell? ⟨gb169, 2, none⟩ = some (.int .i64 x170002_18) := (blk_cell BK169.out 2).trans rfl; have hcz66_3 : w65.cell? ⟨gb169, 3, none⟩ = some (.int .i64 x170003_18) := (blk_cell BK169.out 3).trans rfl; have hfz66_0 := blk_frozen BK169.out 0; have hfz66_1 := blk_frozen BK169.out 1; have hfz66_2 := blk_frozen BK169.out 2; have hfz66_3 := blk_frozen BK169.out 3) | (go_at_call 19; (with_reducible refine (detect_Due.calls x170000_18 x170001_18 x170002_18 x170003_18 t188 _ A43.out).mono ?_); rintro e w67 ⟨rfl, hb⟩; have n0_ := Aside0.mk (blk_below (g := gb169) (o := .cells #[.int .i64 x170000_18, .int .i64 x170001_18, .int .i64 x170002_18, .int .i64 x170003_18] 23 (0, 0)) (by (with_reducible repeat (first | refine blk_drewN ?_ _ | refine blk_drew ?_ | refine blk_alloc ?_ _)); exact BK169.out) hb); have n1_ := Aside0.mk (below_step (by repeat (first | (with_reducible first | exact HB.out | apply below_alloc | apply pw_below_drewN | apply below_drew1 | refine below_set ?_ GE169.out) | exact HB.out)) hb); clear BK169; clear HB; have BK169 := n0_; have HB := n1_; clear n0_ n1_; (try clear hb); (try clear hb2); (try clear hk); (try clear hi); have hcz68_0 : w67.cell? ⟨gb169, 0, none⟩ = some (.int .i64 x170000_18) := (blk_cell BK169.out 0).trans rfl; have hcz68_1 : w67.cell? ⟨gb169, 1, none⟩ = some (.int .i64 x170001_18) := (blk_cell BK169.out 1).trans rfl; have hcz68_2 : w67.cell? ⟨gb169, 2, none⟩ = some (.int .i64 x170002_18) := (blk_cell BK169.out 2).trans rfl; have hcz68_3 : w67.cell? ⟨gb169, 3, none⟩ = some (.int .i64 x170003_18) := (blk_cell BK169.out 3).trans rfl; have hfz68_0 := blk_frozen BK169.out 0; have hfz68_1 := blk_frozen BK169.out 1; have hfz68_2 := blk_frozen BK169.out 2; have hfz68_3 := blk_frozen BK169.out 3) | (go_at_call 14; (with_reducible refine (detect_Left.calls x170000_18 x170001_18 x170002_18 x170003_18 t189 _ A51.out).mono ?_); rintro e w69 ⟨rfl, hb⟩; have n0_ := Aside0.mk (blk_below (g := gb169) (o := .cells #[.int .i64 x170000_18, .int .i64 x170001_18, .int .i64 x170002_18, .int .i64 x170003_18] 23 (0, 0)) (by (with_reducible repeat (first | refine blk_drewN ?_ _ | refine blk_drew ?_ | refine blk_alloc ?_ _)); exact BK169.out) hb); have n1_ := Aside0.mk (below_step (by repeat (first | (with_reducible first | exact HB.out | apply below_alloc | apply pw_below_drewN | apply below_drew1 | refine below_set ?_ GE169.out) | exact HB.out)) hb); clear BK169; clear HB; have BK169 := n0_; have HB := n1_; clear n0_ n1_; (try clear hb); (try clear hb2); (try clear hk); (try clear hi)))
                                go_ret
                                exact ⟨by first | rfl | (simp [errW_none, errW_some] <;> rfl) | (simp only [← hji52]; first | rfl | (simp [errW_none, errW_some] <;> rfl)) | (simp [*, errW_none, errW_some] <;> rfl), by repeat (first | (with_reducible first | exact HB.out | apply below_alloc | apply pw_below_drewN | apply below_drew1 | refine below_set ?_ GE169.out) | exact HB.out)⟩
                        · rw [if_neg c36] at H
                          have c36b0 : (t186 == 0) = false := beq_eq_false_iff_ne.mpr c36
                          have c36b1 : (t186 != 0) = true := bne_iff_ne.mpr c36
                          obtain rfl := Option.some.inj H
                          have hcz70_0 : wc.cell? ⟨gb169, 0, none⟩ = some (.int .i64 x170000_18) := (blk_cell BK169.out 0).trans rfl
                          have hcz70_1 : wc.cell? ⟨gb169, 1, none⟩ = some (.int .i64 x170001_18) := (blk_cell BK169.out 1).trans rfl
                          have hcz70_2 : wc.cell? ⟨gb169, 2, none⟩ = some (.int .i64 x170002_18) := (blk_cell BK169.out 2).trans rfl
                          have hcz70_3 : wc.cell? ⟨gb169, 3, none⟩ = some (.int .i64 x170003_18) := (blk_cell BK169.out 3).trans rfl
                          have hfz70_0 := blk_frozen BK169.out 0
                          have hfz70_1 := blk_frozen BK169.out 1
                          have hfz70_2 := blk_frozen BK169.out 2
                          have hfz70_3 := blk_frozen BK169.out 3
                          go_wp2_with (first | (go_at_call 17; (with_reducible refine (detect_Check.calls x170000_18 x170001_18 x170002_18 x170003_18 t186 _ A35.out).mono ?_); rintro e w71 ⟨rfl, hb⟩; have n0_ := Aside0.mk (blk_below (g := gb169) (o := .cells #[.int .i64 x170000_18, .int .i64 x170001_18, .int .i64 x170002_18, .int .i64 x170003_18] 23 (0, 0)) (by (with_reducible repeat (first | refine blk_drewN ?_ _ | refine blk_drew ?_ | refine blk_alloc ?_ _)); exact BK169.out) hb); have n1_ := Aside0.mk (below_step (by repeat (first | (with_reducible first | exact HB.out | apply below_alloc | apply pw_below_drewN | apply below_drew1 | refine below_set ?_ GE169.out) | exact HB.out)) hb); clear BK169; clear HB; have BK169 := n0_; have HB := n1_; clear n0_ n1_; (try clear hb); (try clear hb2); (try clear hk); (try clear hi)))
                          go_ret
                          exact ⟨by first | rfl | (simp [errW_none, errW_some] <;> rfl) | (simp [*, errW_none, errW_some] <;> rfl), by repeat (first | (with_reducible first | exact HB.out | apply below_alloc | apply pw_below_drewN | apply below_drew1 | refine below_set ?_ GE169.out) | exact HB.out)⟩
                      · rw [if_neg c34] at H
                        have c34b0 : (x8_18 == 0) = false := beq_eq_false_iff_ne.mpr c34
                        have c34b1 : (x8_18 != 0) = true := bne_iff_ne.mpr c34
                        obtain rfl := Option.some.inj H
                        go_wp2
                        go_ret
                        exact ⟨by first | rfl | (simp [errW_none, errW_some] <;> rfl) | (simp [*, errW_none, errW_some] <;> rfl), by repeat (first | (with_reducible first | exact HB.out | apply below_alloc | apply pw_below_drewN | apply below_drew1 | refine below_set ?_ GE169.out) | exact HB.out)⟩
                · rw [if_neg c18] at H
                  exact absurd H (by simp)
              · rw [if_neg c17] at H
                have c17b0 : decide (x11_2 < (l2.length : Int)) = false := decide_eq_false c17
                clear c17
                obtain rfl := Option.some.inj H
                go_wp2
                go_ret
                exact ⟨by first | rfl | (simp [errW_none, errW_some] <;> rfl) | (simp [*, errW_none, errW_some] <;> rfl), by repeat (first | (with_reducible first | exact HB.out | apply below_alloc | apply pw_below_drewN | apply below_drew1 | refine below_set ?_ GE169.out) | exact HB.out)⟩
  · replace c5 := Bool.eq_false_iff.mpr c5
    subst c5
    have H1 : (some false) = some r := by rw [if_neg (show ¬ (false = true) by decide)] at H; exact H
    clear H
    have H := H1
    clear H1
    obtain rfl := Option.some.inj H
    go_enter Try.func4, Try.ntmps4
    go_wp2_with (first | ((with_reducible refine gate_callee (f := 13) rfl ?_); refine goesL_ (some 12) rfl rfl Try.func13 (by kernel_rfl) rfl #[] rfl (by (try simp only [List.map_toArray, List.map_cons, List.map_nil]); first | done | rfl | (simp only [List.length_drop, List.length_take]; rfl)) ?_; (with_reducible refine (drawbridgelaw23_lives.calls k  false _ A4.out).mono ?_); rintro e w72 ⟨rfl, hb⟩; refine ⟨_, rfl, ?_⟩; have n0_ := Aside0.mk (below_step (by repeat (first | (with_reducible first | exact HB.out | apply below_alloc | apply pw_below_drewN | apply below_drew1) | exact HB.out)) hb); clear HB; have HB := n0_; clear n0_; (try clear hb); (try clear hb2); (try clear hk); (try clear hi)))
    go_ret
    exact ⟨by first | rfl | (simp [errW_none, errW_some] <;> rfl) | (simp [*, errW_none, errW_some] <;> rfl), by repeat (first | (with_reducible first | exact HB.out | apply below_alloc | apply pw_below_drewN | apply below_drew1) | exact HB.out)⟩

/-- THE ONE PURE STATEMENT of drawbridgelaw23_DetectLate: yours. -/
def drawbridgelaw23_DetectLate.Pure : Prop := ∀ (a0 : Int) (a1 : Int) (l2 : List Int), (Lit.int .i64 a0).wf = true → (Lit.int .i64 a1).wf = true → l2.length ≤ maxLen → l2.length * 1 ≤ 140737488351232 → (∀ x ∈ l2, (Lit.int .u8 x).wf = true) → ∃ k, drawbridgelaw23_DetectLate.f k a0 a1 l2 = some true
theorem drawbridgelaw23_DetectLate.walk (P : drawbridgelaw23_DetectLate.Pure) (a0 : Int) (a1 : Int) (a2 : Option Addr) (len2 cap2 : Nat) (z2 : List Int) (w : World) (w0 : (Lit.int .i64 a0).wf = true) (w1 : (Lit.int .i64 a1).wf = true) (w2 : (a2 = none ∧ len2 = 0 ∧ cap2 = 0 ∧ z2 = []) ∨ ∃ x, a2 = some x ∧ len2 ≤ cap2 ∧ cap2 ≤ maxLen ∧ z2.length = cap2 ∧ (∀ i, i < z2.length → w.cell? (x.add i) = some (.int .u8 (z2.getD i 0))) ∧ ∀ n ∈ z2, (Lit.int .u8 n).wf = true) (y2 : len2 * 1 ≤ 140737488351232) :
    Calls Try.prog 4 #[.int .i64 a0, .int .i64 a1, .slice a2 len2 cap2] w fun e w' => e = .returned (.bool true) ∧ Below w.heap.size w w' := by
  obtain ⟨l2, rfl, hr2, hm2, hw2, hc2⟩ := ReadsInt.ofRowC w2
  obtain ⟨k, h⟩ := P a0 a1 l2 w0 w1 hm2 y2 hw2
  refine (drawbridgelaw23_DetectLate.calls k a0 a1 _ _ l2 true w (Kd.C_of_reads (d := (0 : Int)) (h1 := fun _ => rfl) hr2) hc2 h).mono ?_
  rintro e w' ⟨rfl, hd⟩
  exact ⟨rfl, hd⟩

end Go.Proofs.Ytloohkifibfdiaa.PDetectLate
