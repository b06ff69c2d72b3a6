/- Code. Lemmas alone. -/
import Derived.Test.YtkmeimhapokdlaaAe21
set_option linter.unusedVariables false
set_option linter.unusedSimpArgs false
namespace Go.Proofs.Ytkmeimhapokdlaa.Ae
open Go

/-- These blocks lie where they lay. -/
def Pin (pin : List Nat) (L L' : LM) : Prop := ∀ j ∈ pin, ∀ l, L j = some l → L' j = some l

theorem Pin.refl (pin : List Nat) (L : LM) : Pin pin L L := fun _ _ _ h => h
theorem Pin.trans {pin : List Nat} {L L' L'' : LM} (h : Pin pin L L') (h' : Pin pin L' L'') : Pin pin L L'' := fun j hj l hl => h' j hj l (h j hj l hl)
theorem Pin.of_le {pin : List Nat} {L L' : LM} (h : ∀ id l, L id = some l → L' id = some l) : Pin pin L L' := fun j _ l hl => h j l hl
theorem Pin.of_eq {pin : List Nat} {L L' : LM} (h : ∀ j ∈ pin, L' j = L j) : Pin pin L L' := fun j hj l hl => (h j hj).trans hl

def Ex.out : Ex → Exit
  | .normal => .normal
  | .exit id => .exit id
  | .ret => .ret

section
variable {F F' : FS} {L L' : LM} {w w' : World} {P : Program} {B0 : FS} {nt : Nat} {S : Specs} {gl : Nat → Option AV} {g : Nat → AV} {h : Hp} {a : Act}

theorem WL_heap (hw : w'.heap = w.heap) : WL F w w' := ⟨by rw [hw]; exact Nat.le_refl _, fun b => by unfold csize; rw [hw]; exact Nat.le_refl _, fun b _ => by rw [hw]⟩

theorem Inv.heap (hi : Inv gl nt B0 g h F L a w) (hw : w'.heap = w.heap) : Inv gl nt B0 g h F L a w' := by
  have wl := WL_heap (F := F) hw
  refine ⟨⟨fun id bk hb => ?_, hi.hr.inj, fun b hb => by rw [hw]; exact hi.hr.fb b hb⟩, by rw [hw]; exact hi.base, GS_mono (fun _ h => h) (fun _ _ h => h) wl hi.gs, fun t => VV_mono (fun _ h => h) (fun _ _ h => h) wl (hi.ts t), hi.df, hi.sz⟩
  obtain ⟨l, e1, e2, e3⟩ := hi.hr.blk id bk hb
  exact ⟨l, e1, BR_mono (fun _ h => h) (fun _ _ h => h) wl (fun b _ _ => by rw [hw]) e2, fun b o hbo => by rw [hw]; exact e3 b o hbo⟩

theorem Grow.heap (hw : w'.heap = w.heap) (he : Env w w') : Grow B0 F w F w' := ⟨by rw [hw]; exact Nat.le_refl _, fun b => by unfold csize; rw [hw]; exact Nat.le_refl _, fun b _ => by rw [hw], fun _ h => h, fun _ h => .inl h, he⟩

theorem ev_sound {R : Type} (c : Cx) (hS : SpecOK c.S c.P c.gl) (hm : c.P.follows .mixedOrders = true) (hgl : GlOk c.gl) : ∀ (code : Code) (p : Nat) (σ : St) (K : Ex → St → Option R) (r : R) (Q : Exit → Act → World → Prop) (F : FS) (L : LM) (a : Act) (w : World),
    okC nt code = true → evK c code p σ K = some r → Inv c.gl nt B0 σ.get σ.blk F L a w → (∀ id, σ.nx ≤ id → L id = none) →
    (∀ (e : Ex) (σ' : St) (F' : FS) (L' : LM) (a' : Act) (w' : World), Inv c.gl nt B0 σ'.get σ'.blk F' L' a' w' → (∀ id, σ'.nx ≤ id → L' id = none) → Grow B0 F w F' w' → Pin c.pin L L' → K e σ' = some r → Q e.out a' w') → code.wp c.P Q a w := by
  intro code
  induction code with
  | skip =>
    intro p σ K r Q F L a w _ hk hi hfr hq
    exact wp_skip (hq .normal σ F L a w hi hfr (Grow.refl _ _ _) (Pin.refl _ _) hk)
  | exit id =>
    intro p σ K r Q F L a w _ hk hi hfr hq
    exact wp_exit (hq (.exit id) σ F L a w hi hfr (Grow.refl _ _ _) (Pin.refl _ _) hk)
  | ret =>
    intro p σ K r Q F L a w _ hk hi hfr hq
    exact wp_ret (hq .ret σ F L a w hi hfr (Grow.refl _ _ _) (Pin.refl _ _) hk)
  | seq x y ihx ihy =>
    intro p σ K r Q F L a w hok hk hi hfr hq
    simp only [okC, Bool.and_eq_true] at hok
    simp only [evK] at hk
    refine wp_seq (ihx _ σ _ r _ F L a w hok.1 hk hi hfr fun e σ' F' L' a' w' hi' hfr' hg' hp' hk' => ?_)
    cases e with
    | normal => exact ihy _ σ' K r Q F' L' a' w' hok.2 hk' hi' hfr' fun e σ'' F'' L'' a'' w'' hi'' hfr'' hg'' hp'' hk'' => hq e σ'' F'' L'' a'' w'' hi'' hfr'' (hg'.trans hg'') (hp'.trans hp'') hk''
    | exit id => exact hq (.exit id) σ' F' L' a' w' hi' hfr' hg' hp' hk'
    | ret => exact hq .ret σ' F' L' a' w' hi' hfr' hg' hp' hk'
  | cond x y z ihy ihz =>
    intro p σ K r Q F L a w hok hk hi hfr hq
    simp only [okC, Bool.and_eq_true] at hok
    simp only [evK] at hk
    split at hk
    case h_2 => cases hk
    rename_i t ht
    have hb := VV_bool (opnd_sound hi.gs hi.ts ht)
    cases t
    · exact wp_cond_false hb (ihz _ σ K r Q F L a w hok.2 hk hi hfr hq)
    · exact wp_cond_true hb (ihy _ σ K r Q F L a w hok.1 hk hi hfr hq)
  | block id x ih =>
    intro p σ K r Q F L a w hok hk hi hfr hq
    simp only [okC] at hok
    simp only [evK] at hk
    refine wp_block (ih _ σ _ r _ F L a w hok hk hi hfr fun e σ' F' L' a' w' hi' hfr' hg' hp' hk' => ?_)
    cases e with
    | normal => exact hq .normal σ' F' L' a' w' hi' hfr' hg' hp' hk'
    | exit j =>
      simp only [Ex.out, Exit.inBlock]
      simp only at hk'
      split at hk'
      · rename_i e; rw [if_pos e]; exact hq .normal σ' F' L' a' w' hi' hfr' hg' hp' hk'
      · rename_i e; rw [if_neg e]; exact hq (.exit j) σ' F' L' a' w' hi' hfr' hg' hp' hk'
    | ret => exact hq .ret σ' F' L' a' w' hi' hfr' hg' hp' hk'
  | loop x ih =>
    intro p σ K r Q F L a w hok hk hi hfr hq
    simp only [okC] at hok
    simp only [evK] at hk
    split at hk
    case h_2 => cases hk
    rename_i keep hkeep
    split at hk
    case h_2 => cases hk
    rename_i σ1 hσ1
    obtain ⟨L1, hi1, hfr1, hp1⟩ := norm_sound hgl hσ1 hi
    have rounds : ∀ (n : Nat) (σ : St) (F0 : FS) (L2 : LM) (a : Act) (w0 : World), loopK (fun σ K => evK c x (2 * p) σ K) (norm c.pin c.nin keep) n σ K = some r → Inv c.gl nt B0 σ.get σ.blk F0 L2 a w0 → (∀ id, σ.nx ≤ id → L2 id = none) → Grow B0 F w F0 w0 → Pin c.pin L L2 → Code.rounds c.P x Q n a w0 := by
      intro n
      induction n with
      | zero => intro σ F0 L2 a w0 hk; simp [loopK] at hk
      | succ n ihn =>
        intro σ F0 L3 a w0 hk hi hfr hg hpp
        rw [rounds_succ]
        simp only [loopK] at hk
        refine ih _ σ _ r _ F0 L3 a w0 hok hk hi hfr fun e σ' F' L' a' w' hi' hfr' hg' hp' hk' => ?_
        cases e with
        | normal =>
          simp only at hk'
          split at hk'
          case h_2 => cases hk'
          rename_i σ2 hσ2
          obtain ⟨L2, hi2, hfr2, hp2⟩ := norm_sound hgl hσ2 hi'
          exact ihn σ2 F' L2 a' w' hk' hi2 hfr2 (hg.trans hg') ((hpp.trans hp').trans (Pin.of_eq hp2))
        | exit id => exact hq (.exit id) σ' F' L' a' w' hi' hfr' (hg.trans hg') (hpp.trans hp') hk'
        | ret => exact hq .ret σ' F' L' a' w' hi' hfr' (hg.trans hg') (hpp.trans hp') hk'
    exact wp_loop_rounds c.fuel (rounds c.fuel σ1 F L1 a w hk hi1 hfr1 (Grow.refl _ _ _) (Pin.of_eq hp1))
  | region id ops d =>
    intro p σ K r Q F L a w hok hk hi hfr hq
    simp only [okC, Bool.and_eq_true, Bool.or_eq_true, Bool.not_eq_true'] at hok
    simp only [evK] at hk
    cases d with
    | false =>
      simp only [cond_false] at hk
      refine wp_region_list ?_
      have := ops_sound (nt := nt) (B0 := B0) (Q := Q) hS (K := fun σ => K .normal { σ with nx := σ.nx + 64 * ops.size }) (r := r) (nx := σ.nx) ops.toList 0 σ F L a w hok.1 rfl hk hi (fun id hid => hfr id (by omega)) fun σ' F' L' a' w' hi' hfr' hn' hg' hle' hk' =>
        hq .normal { σ' with nx := σ'.nx + 64 * ops.size } F' L' a' w' hi' (fun id hid => hfr' id (by simp only [Nat.zero_add, Array.length_toList]; simp only [hn'] at hid; exact hid)) hg' (Pin.of_le hle') hk'
      simpa using this
    | true =>
      simp only [cond_true] at hk
      have hok2 := hok.2.resolve_left (by simp)
      obtain ⟨es, σ', e1, e2, e3, e4, e5, e6, e7⟩ := drawK_ex ops.toList 0 [] σ hk
      refine wp_region_any hm ?_
      have hsz : (Array.replicate ops.size false).size = ops.toList.length := by simp
      have hno : ∀ i, (Array.replicate ops.size false).getD i false = false := by
        intro i
        rw [Array.getD_eq_getD_getElem?, Array.getElem?_replicate]
        split <;> rfl
      have := any_sound (nt := nt) (B0 := B0) (P := c.P) hS (all := ops.toList) (es := es) (g0 := σ.get) (h0 := σ.blk) (nx := σ.nx) (Q := Q) e1 hok.1 hok2.1 hok2.2 (fun k o e h1 h2 => by have := e2 k o e h1 h2; simpa using this) e3 F L { w with drawn := w.drawn + 1 }
        (fun F' L' a' w' hi' hfr' hg' hle' => by
          rw [← e5, ← e6] at hi'
          refine hq .normal { σ' with nx := σ'.nx + 64 * ops.size } F' L' a' w' hi' (fun id hid => hfr' id ?_) (Grow.trans (Grow.heap (w' := { w with drawn := w.drawn + 1 }) rfl ⟨rfl, rfl, rfl⟩) hg') (Pin.of_le hle') e4
          simp only [e7] at hid
          simpa using hid)
        ops.size (Array.replicate ops.size false) F L a { w with drawn := w.drawn + 1 } hsz (by
          unfold left
          refine Nat.le_trans List.countP_le_length ?_
          simp) (fun j o _ hj => by rw [hno] at hj; cases hj) (by
          have hz : (fun i => (Array.replicate ops.size false).getD i false) = fun _ => false := funext hno
          rw [hz, acc_none _ _ _ _ (fun _ _ => rfl), acc_none _ _ _ _ (fun _ _ => rfl)]
          exact hi.heap rfl)
        (fun j _ id h1 h2 => hfr id (by omega)) (fun id hid => hfr id (by omega)) (Grow.refl _ _ _) (LE.refl _)
      simpa using this
  | _ =>
    intro p σ K r Q F L a w hok hk
    simp [evK] at hk

end
end Go.Proofs.Ytkmeimhapokdlaa.Ae
