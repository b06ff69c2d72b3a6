/-
  No cell of these rows narrows 'for every input' (looked for: loops, veiled, ifaces, maps, wideKeys, modest, calm, conditions, laid).
  DERIVED. THE GIVEN ROWS OF THIS SEAT. 6 by the template 'for every input the law returns true; each argument reads behind the call as it read before'; 0 by the template 'total and deterministic' (their statements: YtkmeimhapokdlaaTotals.lean).
  GIVEN WITH THE SEED: the statements are not yours to turn. If you find one false, say at which input.
  Laid BY PROGRAM, IN A SANDBOX (cutbox-rows.mjs): the forced cells as the released guide's own fill.sh prints them over the translation 60b6156e4a1b872c… (all of the seat's roots in one cut). By AI agents, Wed Nov 11 2026. No macro, syntax, notation, axiom, sorry.
-/
import Derived.Test.YtkmeimhapokdlaaChecked
import GoSem.Claim
import GoSem.ClaimJoined
import GoSem.ClaimMapViews
import Derived.JoinedTies
import Derived.KernelRfl
namespace Go.Proofs.Ytkmeimhapokdlaa
/- THE CELL 'sum', in the pinned program and in every row, IS THE sha256 OF THE DUMP (.gsa) THAT YtkmeimhapokdlaaProg.lean LOADS. Nothing in Lean hashes anything: it is a label: what it is worth is what the hold of that sum in a sandbox is worth. -/
noncomputable def Try.pinned : Pinned := { name := "ytkmeimhapokdlaa", sum := "60b6156e4a1b872c9eba2a9412d4280223c875b0d216e044bf07a177d1d585e2", checked := Try.checked }
namespace Rows
def none {H : Type} : Left H := { results := [], args := [] }

/-- 'drawbridgelaw18.LinkOnce': WHATEVER THE INPUT: true; the input reads as it did. -/
def linkOnceSpec : ChangeSpec := { name := "linkOnce", fn := fun _ => fun
  | [d1, d2, d3, d4] => { results := [.lit (.bool true)], args := [d1, d2, d3, d4] }
  | _ => none }
def linkOnceRow : OpenClaim := { program := "ytkmeimhapokdlaa", sum := "60b6156e4a1b872c9eba2a9412d4280223c875b0d216e044bf07a177d1d585e2", func := "drawbridge/drawbridgelaw18.LinkOnce", spec := "linkOnce", unfollowed := true, recurses := true, apart := false }
def LinkOnceSaid : Prop := linkOnceRow.holds Try.pinned (OpenSpec.ofChange linkOnceSpec)

/-- ITS FALSE NEIGHBOUR: 'it returns false'. Refute it at one input. -/
def linkOnceWrong : ChangeSpec := { name := "linkOnce", fn := fun _ => fun
  | [d1, d2, d3, d4] => { results := [.lit (.bool false)], args := [d1, d2, d3, d4] }
  | _ => none }
def LinkOnceWrongFalsely : Prop := linkOnceRow.holds Try.pinned (OpenSpec.ofChange linkOnceWrong)

/-- 'drawbridgelaw18.LinkLives': WHATEVER THE INPUT: true; the input reads as it did. -/
def linkLivesSpec : ChangeSpec := { name := "linkLives", fn := fun _ => fun
  | [d1, d2, d3] => { results := [.lit (.bool true)], args := [d1, d2, d3] }
  | _ => none }
def linkLivesRow : OpenClaim := { program := "ytkmeimhapokdlaa", sum := "60b6156e4a1b872c9eba2a9412d4280223c875b0d216e044bf07a177d1d585e2", func := "drawbridge/drawbridgelaw18.LinkLives", spec := "linkLives", unfollowed := true, recurses := true, apart := false }
def LinkLivesSaid : Prop := linkLivesRow.holds Try.pinned (OpenSpec.ofChange linkLivesSpec)

/-- ITS FALSE NEIGHBOUR: 'it returns false'. Refute it at one input. -/
def linkLivesWrong : ChangeSpec := { name := "linkLives", fn := fun _ => fun
  | [d1, d2, d3] => { results := [.lit (.bool false)], args := [d1, d2, d3] }
  | _ => none }
def LinkLivesWrongFalsely : Prop := linkLivesRow.holds Try.pinned (OpenSpec.ofChange linkLivesWrong)

/-- 'drawbridgelaw18.LinkSends': WHATEVER THE INPUT: true; the input reads as it did. -/
def linkSendsSpec : ChangeSpec := { name := "linkSends", fn := fun _ => fun
  | [d] => { results := [.lit (.bool true)], args := [d] }
  | _ => none }
def linkSendsRow : OpenClaim := { program := "ytkmeimhapokdlaa", sum := "60b6156e4a1b872c9eba2a9412d4280223c875b0d216e044bf07a177d1d585e2", func := "drawbridge/drawbridgelaw18.LinkSends", spec := "linkSends", unfollowed := true, recurses := true, apart := false }
def LinkSendsSaid : Prop := linkSendsRow.holds Try.pinned (OpenSpec.ofChange linkSendsSpec)

/-- ITS FALSE NEIGHBOUR: 'it returns false'. Refute it at one input. -/
def linkSendsWrong : ChangeSpec := { name := "linkSends", fn := fun _ => fun
  | [d] => { results := [.lit (.bool false)], args := [d] }
  | _ => none }
def LinkSendsWrongFalsely : Prop := linkSendsRow.holds Try.pinned (OpenSpec.ofChange linkSendsWrong)

/-- 'drawbridgelaw18.LinkNames': WHATEVER THE INPUT: true; the input reads as it did. -/
def linkNamesSpec : ChangeSpec := { name := "linkNames", fn := fun _ => fun
  | [] => { results := [.lit (.bool true)], args := [] }
  | _ => none }
def linkNamesRow : OpenClaim := { program := "ytkmeimhapokdlaa", sum := "60b6156e4a1b872c9eba2a9412d4280223c875b0d216e044bf07a177d1d585e2", func := "drawbridge/drawbridgelaw18.LinkNames", spec := "linkNames", unfollowed := true, recurses := true, apart := false }
def LinkNamesSaid : Prop := linkNamesRow.holds Try.pinned (OpenSpec.ofChange linkNamesSpec)

/-- ITS FALSE NEIGHBOUR: 'it returns false'. Refute it at one input. -/
def linkNamesWrong : ChangeSpec := { name := "linkNames", fn := fun _ => fun
  | [] => { results := [.lit (.bool false)], args := [] }
  | _ => none }
def LinkNamesWrongFalsely : Prop := linkNamesRow.holds Try.pinned (OpenSpec.ofChange linkNamesWrong)

/-- 'drawbridgelaw18.LinkPassed': WHATEVER THE INPUT: true; the input reads as it did. -/
def linkPassedSpec : ChangeSpec := { name := "linkPassed", fn := fun _ => fun
  | [d1, d2] => { results := [.lit (.bool true)], args := [d1, d2] }
  | _ => none }
def linkPassedRow : OpenClaim := { program := "ytkmeimhapokdlaa", sum := "60b6156e4a1b872c9eba2a9412d4280223c875b0d216e044bf07a177d1d585e2", func := "drawbridge/drawbridgelaw18.LinkPassed", spec := "linkPassed", unfollowed := true, recurses := true, apart := false }
def LinkPassedSaid : Prop := linkPassedRow.holds Try.pinned (OpenSpec.ofChange linkPassedSpec)

/-- ITS FALSE NEIGHBOUR: 'it returns false'. Refute it at one input. -/
def linkPassedWrong : ChangeSpec := { name := "linkPassed", fn := fun _ => fun
  | [d1, d2] => { results := [.lit (.bool false)], args := [d1, d2] }
  | _ => none }
def LinkPassedWrongFalsely : Prop := linkPassedRow.holds Try.pinned (OpenSpec.ofChange linkPassedWrong)

/-- 'drawbridgelaw18.LinkCalls': WHATEVER THE INPUT: true; the input reads as it did. -/
def linkCallsSpec : ChangeSpec := { name := "linkCalls", fn := fun _ => fun
  | [d1, d2, d3, d4, d5] => { results := [.lit (.bool true)], args := [d1, d2, d3, d4, d5] }
  | _ => none }
def linkCallsRow : OpenClaim := { program := "ytkmeimhapokdlaa", sum := "60b6156e4a1b872c9eba2a9412d4280223c875b0d216e044bf07a177d1d585e2", func := "drawbridge/drawbridgelaw18.LinkCalls", spec := "linkCalls", unfollowed := true, recurses := true, apart := false }
def LinkCallsSaid : Prop := linkCallsRow.holds Try.pinned (OpenSpec.ofChange linkCallsSpec)

/-- ITS FALSE NEIGHBOUR: 'it returns false'. Refute it at one input. -/
def linkCallsWrong : ChangeSpec := { name := "linkCalls", fn := fun _ => fun
  | [d1, d2, d3, d4, d5] => { results := [.lit (.bool false)], args := [d1, d2, d3, d4, d5] }
  | _ => none }
def LinkCallsWrongFalsely : Prop := linkCallsRow.holds Try.pinned (OpenSpec.ofChange linkCallsWrong)

/- THE SECOND FORM. 'bulk': how many values and letters a reading holds, each counted each time it is reached (what is shared counts as often as it is met; a slice's spare places count too). A statement '..UptoSaid' is the law's where the arguments, and the package variables that the reading takes, are together of bulk at most 1048576: NARROWER than '..Said'. Prove '..Said' where nothing that the law and all that it calls make is longer than what came in: it says more and counts as full. Else prove '..UptoSaid'. A law counts once. -/
mutual
def uptoBulk {H : Type} : DataW H → Nat
  | .lit (.string bytes) => bytes.length + 1
  | .lit _ => 1
  | .nil => 1
  | .ptr d => uptoBulk d + 1
  | .slice elems spare => uptoBulkAll elems + uptoBulkAll spare + 1
  | .agg parts => uptoBulkAll parts + 1
  | .iface _ d => uptoBulk d + 1
  | .map entries => uptoBulkEntries entries + 1
  | .held _ => 1
def uptoBulkAll {H : Type} : List (DataW H) → Nat
  | [] => 0
  | d :: r => uptoBulk d + uptoBulkAll r
def uptoBulkEntries {H : Type} : List (Lit × DataW H) → Nat
  | [] => 0
  | x :: r => uptoBulkEntry x + uptoBulkEntries r
def uptoBulkEntry {H : Type} : Lit × DataW H → Nat
  | (.string bytes, d) => bytes.length + uptoBulk d + 1
  | (_, d) => uptoBulk d + 1
 end
def uptoSmall : (H : Type) → List (DataW H) → Bool := fun _ ds => decide (uptoBulkAll ds ≤ 1048576)
def OpenSpec.upto (s : _root_.Go.ChangeSpec) : _root_.Go.OpenSpec := { _root_.Go.OpenSpec.ofChange s with cond := some uptoSmall }

/-- 'drawbridgelaw18.LinkOnce', WHERE WHAT IT READS IS OF BULK AT MOST 1048576: true; the input reads as it did. -/
def linkOnceUptoRow : OpenClaim := { program := "ytkmeimhapokdlaa", sum := "60b6156e4a1b872c9eba2a9412d4280223c875b0d216e044bf07a177d1d585e2", func := "drawbridge/drawbridgelaw18.LinkOnce", spec := "linkOnce", unfollowed := true, recurses := true, apart := false, narrowed := true }
def LinkOnceUptoSaid : Prop := linkOnceUptoRow.holds Try.pinned (OpenSpec.upto linkOnceSpec)

/-- 'drawbridgelaw18.LinkLives', WHERE WHAT IT READS IS OF BULK AT MOST 1048576: true; the input reads as it did. -/
def linkLivesUptoRow : OpenClaim := { program := "ytkmeimhapokdlaa", sum := "60b6156e4a1b872c9eba2a9412d4280223c875b0d216e044bf07a177d1d585e2", func := "drawbridge/drawbridgelaw18.LinkLives", spec := "linkLives", unfollowed := true, recurses := true, apart := false, narrowed := true }
def LinkLivesUptoSaid : Prop := linkLivesUptoRow.holds Try.pinned (OpenSpec.upto linkLivesSpec)

/-- 'drawbridgelaw18.LinkSends', WHERE WHAT IT READS IS OF BULK AT MOST 1048576: true; the input reads as it did. -/
def linkSendsUptoRow : OpenClaim := { program := "ytkmeimhapokdlaa", sum := "60b6156e4a1b872c9eba2a9412d4280223c875b0d216e044bf07a177d1d585e2", func := "drawbridge/drawbridgelaw18.LinkSends", spec := "linkSends", unfollowed := true, recurses := true, apart := false, narrowed := true }
def LinkSendsUptoSaid : Prop := linkSendsUptoRow.holds Try.pinned (OpenSpec.upto linkSendsSpec)

/-- 'drawbridgelaw18.LinkNames', WHERE WHAT IT READS IS OF BULK AT MOST 1048576: true; the input reads as it did. -/
def linkNamesUptoRow : OpenClaim := { program := "ytkmeimhapokdlaa", sum := "60b6156e4a1b872c9eba2a9412d4280223c875b0d216e044bf07a177d1d585e2", func := "drawbridge/drawbridgelaw18.LinkNames", spec := "linkNames", unfollowed := true, recurses := true, apart := false, narrowed := true }
def LinkNamesUptoSaid : Prop := linkNamesUptoRow.holds Try.pinned (OpenSpec.upto linkNamesSpec)

/-- 'drawbridgelaw18.LinkPassed', WHERE WHAT IT READS IS OF BULK AT MOST 1048576: true; the input reads as it did. -/
def linkPassedUptoRow : OpenClaim := { program := "ytkmeimhapokdlaa", sum := "60b6156e4a1b872c9eba2a9412d4280223c875b0d216e044bf07a177d1d585e2", func := "drawbridge/drawbridgelaw18.LinkPassed", spec := "linkPassed", unfollowed := true, recurses := true, apart := false, narrowed := true }
def LinkPassedUptoSaid : Prop := linkPassedUptoRow.holds Try.pinned (OpenSpec.upto linkPassedSpec)

/-- 'drawbridgelaw18.LinkCalls', WHERE WHAT IT READS IS OF BULK AT MOST 1048576: true; the input reads as it did. -/
def linkCallsUptoRow : OpenClaim := { program := "ytkmeimhapokdlaa", sum := "60b6156e4a1b872c9eba2a9412d4280223c875b0d216e044bf07a177d1d585e2", func := "drawbridge/drawbridgelaw18.LinkCalls", spec := "linkCalls", unfollowed := true, recurses := true, apart := false, narrowed := true }
def LinkCallsUptoSaid : Prop := linkCallsUptoRow.holds Try.pinned (OpenSpec.upto linkCallsSpec)

end Rows
end Go.Proofs.Ytkmeimhapokdlaa
