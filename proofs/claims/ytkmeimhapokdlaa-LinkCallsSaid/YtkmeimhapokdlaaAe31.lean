/- Ranges of a law's numbers; words on wrapped numbers. Lemmas alone. -/
import Derived.Test.YtkmeimhapokdlaaAe30
set_option linter.unusedVariables false
set_option linter.unusedSimpArgs false
namespace Go.Proofs.Ytkmeimhapokdlaa.Ae
open Go Go.RowKit

def inR : IntKind → Int → Prop
  | .i8, n => -128 ≤ n ∧ n < 128
  | .i16, n => -32768 ≤ n ∧ n < 32768
  | .i32, n => -2147483648 ≤ n ∧ n < 2147483648
  | .i64, n => -9223372036854775808 ≤ n ∧ n < 9223372036854775808
  | .u8, n => 0 ≤ n ∧ n < 256
  | .u16, n => 0 ≤ n ∧ n < 65536
  | .u32, n => 0 ≤ n ∧ n < 4294967296
  | .u64, n => 0 ≤ n ∧ n < 18446744073709551616

theorem inR_of {k : IntKind} {n : Int} (h : (Lit.int k n).wf = true) : inR k n := by
  cases k <;> simp [Lit.wf, IntKind.min, IntKind.max, IntKind.signed, IntKind.bits] at h <;> simp only [inR] <;> omega

theorem wrap_u64 {n : Int} (h : 0 ≤ n) (h' : n < 18446744073709551616) : IntKind.u64.wrap n = n := by
  simp [IntKind.wrap, IntKind.min, IntKind.max, IntKind.signed, IntKind.bits]; omega
theorem wrap_u32 {n : Int} (h : 0 ≤ n) (h' : n < 4294967296) : IntKind.u32.wrap n = n := by
  simp [IntKind.wrap, IntKind.min, IntKind.max, IntKind.signed, IntKind.bits]; omega
theorem wrap_u16 {n : Int} (h : 0 ≤ n) (h' : n < 65536) : IntKind.u16.wrap n = n := by
  simp [IntKind.wrap, IntKind.min, IntKind.max, IntKind.signed, IntKind.bits]; omega
theorem wrap_u8 {n : Int} (h : 0 ≤ n) (h' : n < 256) : IntKind.u8.wrap n = n := by
  simp [IntKind.wrap, IntKind.min, IntKind.max, IntKind.signed, IntKind.bits]; omega
theorem wrap_i64 {n : Int} (h : -9223372036854775808 ≤ n) (h' : n < 9223372036854775808) : IntKind.i64.wrap n = n := by
  simp [IntKind.wrap, IntKind.min, IntKind.max, IntKind.signed, IntKind.bits] <;> omega

theorem wrap_u64_mod (n : Int) : IntKind.u64.wrap n = n % 18446744073709551616 := by
  simp [IntKind.wrap, IntKind.min, IntKind.max, IntKind.signed, IntKind.bits]
theorem wrap_u32_mod (n : Int) : IntKind.u32.wrap n = n % 4294967296 := by
  simp [IntKind.wrap, IntKind.min, IntKind.max, IntKind.signed, IntKind.bits]
theorem wrap_u8_mod (n : Int) : IntKind.u8.wrap n = n % 256 := by
  simp [IntKind.wrap, IntKind.min, IntKind.max, IntKind.signed, IntKind.bits]

theorem rng_ok {i : Int} {n : Nat} (h : 0 ≤ i) (h' : i < n) : rng i n = true := by
  simp [rng, h, h']

theorem rng_iff {i : Int} {n : Nat} : rng i n = true ↔ 0 ≤ i ∧ i < n := by simp [rng]

/-- Data whose numbers are in their kinds' ranges. -/
def Kd.ok : (K : Kd) → K.T → Prop
  | .int k, n => inR k n
  | .bool, _ | .str, _ | .nil, _ => True
  | .arr n e, xs => List.length (α := e.T) xs = n ∧ ∀ (i : Nat) (x : e.T), xs[i]? = some x → e.ok x
  | .sl e, xs => List.length (α := e.T) xs < 9223372036854775808 ∧ ∀ (i : Nat) (x : e.T), xs[i]? = some x → e.ok x
  | .cons a b, x => a.ok x.1 ∧ b.ok x.2

theorem RK_ok {F : FS} {w : World} : ∀ (K : Kd) (x : K.T) (cs : List Value), RK F w K x cs → K.ok x
  | .int k, _, _, h => inR_of h.2
  | .bool, _, _, _ | .str, _, _, _ | .nil, _, _, _ => trivial
  | .arr n e, xs, cs, h => ⟨h.1.1, fun i x hx => by
      have hlt : i < cs.length := by
        have h1 := (List.getElem?_eq_some_iff.1 hx).1
        have h2 := h.1.1
        have h3 := h.2.1
        omega
      exact RK_ok e x [cs[i]] (h.2.2 i x _ hx (List.getElem?_eq_getElem hlt))⟩
  | .sl e, xs, cs, ⟨a, c, h1, h2, ⟨h3, _⟩, h4⟩ => ⟨by omega, fun i x hx => by
      rcases h4 with h4 | ⟨b, o, _, _, h⟩
      · rw [h4] at hx; simp at hx
      · obtain ⟨cs', _, h'⟩ := h i x hx
        exact RK_ok e x cs' h'⟩
  | .cons a b, x, cs, ⟨c1, c2, _, h1, h2⟩ => ⟨RK_ok a x.1 c1 h1, RK_ok b x.2 c2 h2⟩

theorem KVs_ok {F : FS} {w : World} : ∀ (K : Kd) (x : K.T) (vs : List Value), KVs F w K x vs → K.ok x
  | .nil, _, _, _ => trivial
  | .cons a b, x, vs, ⟨v, vs', _, h2, h3⟩ => ⟨RK_ok a x.1 _ h2.1, KVs_ok b x.2 vs' h3⟩
  | .int _, _, _, h | .bool, _, _, h | .str, _, _, h | .arr _ _, _, _, h | .sl _, _, _, h => h.elim

/-- A law's call: by what the evaluator comes to at every datum in range. -/
theorem law_ok (c : Nat → Cx) (hS : ∀ n, SpecOK (c n).S (c n).P (c n).gl) (hm : ∀ n, (c n).P.follows .mixedOrders = true) (hgl : ∀ n, GlOk (c n).gl) {P : Program} (hP : ∀ n, (c n).P = P) {id : Nat} {fn : Func} {code : Code} (hfn : P.funcs[id]? = some fn) (hb : fn.body = some code) (hok : okC fn.ntmps code = true) {Ka : Kd} (hlen : Nat.ble Ka.len fn.ntmps = true)
    (hrun : ∀ x, Ka.ok x → ∃ n, runD (c n) fn code Ka (.cons .bool .nil) x = some (true, ())) {x : Ka.T} {w : World} (hg : ∀ n, GS (c n).gl (fun b => b < w.heap.size) (fun _ => none) w) {vs : List Value} (hvs : KVs (fun b => b < w.heap.size) w Ka x vs) :
    Calls P id vs.toArray w fun e w' => e = .returned (.bool true) ∧ Below w.heap.size w w' := by
  obtain ⟨n, hn⟩ := hrun x (KVs_ok Ka x vs hvs)
  have := law_call (c n) (hS n) (hm n) (hgl n) (by rw [hP]; exact hfn) hb hok hlen hn (hg n) hvs
  rw [hP] at this
  exact this

end Go.Proofs.Ytkmeimhapokdlaa.Ae
