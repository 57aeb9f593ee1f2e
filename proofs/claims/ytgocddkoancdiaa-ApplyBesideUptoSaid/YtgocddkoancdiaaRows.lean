/-
  No cell of these rows narrows 'for every input' (looked for: loops, veiled, ifaces, maps, wideKeys, modest, calm, conditions, laid).
  DERIVED. THE GIVEN ROWS OF THIS SEAT. 12 by the template 'for every input the law returns true; each argument reads behind the call as it read before'; 0 by the template 'total and deterministic' (their statements: YtgocddkoancdiaaTotals.lean).
  GIVEN WITH THE SEED: the statements are not yours to turn. If you find one false, say at which input.
  Laid BY PROGRAM, IN A SANDBOX (cutbox-rows.mjs): the forced cells as the released guide's own fill.sh prints them over the translation ee9d29105e22b213… (all of the seat's roots in one cut). By AI agents, Wed Nov 11 2026. No macro, syntax, notation, axiom, sorry.
-/
import Derived.Test.YtgocddkoancdiaaChecked
import GoSem.Claim
import GoSem.ClaimJoined
import GoSem.ClaimMapViews
import Derived.JoinedTies
import Derived.KernelRfl
namespace Go.Proofs.Ytgocddkoancdiaa
/- THE CELL 'sum', in the pinned program and in every row, IS THE sha256 OF THE DUMP (.gsa) THAT YtgocddkoancdiaaProg.lean LOADS. Nothing in Lean hashes anything: it is a label: what it is worth is what the hold of that sum in a sandbox is worth. -/
noncomputable def Try.pinned : Pinned := { name := "ytgocddkoancdiaa", sum := "ee9d29105e22b213ecc9de61487f623678d2a904b4750d4127865635bda84572", checked := Try.checked }
namespace Rows
def none {H : Type} : Left H := { results := [], args := [] }

/-- 'scrivkeep.MeetSizes': WHATEVER THE INPUT: true; the input reads as it did. -/
def meetSizesSpec : ChangeSpec := { name := "meetSizes", fn := fun _ => fun
  | [d1, d2] => { results := [.lit (.bool true)], args := [d1, d2] }
  | _ => none }
def meetSizesRow : OpenClaim := { program := "ytgocddkoancdiaa", sum := "ee9d29105e22b213ecc9de61487f623678d2a904b4750d4127865635bda84572", func := "scrivenry/scrivkeep.MeetSizes", spec := "meetSizes", unfollowed := true, recurses := true, apart := false }
def MeetSizesSaid : Prop := meetSizesRow.holds Try.pinned (OpenSpec.ofChange meetSizesSpec)

/-- ITS FALSE NEIGHBOUR: 'it returns false'. Refute it at one input. -/
def meetSizesWrong : ChangeSpec := { name := "meetSizes", fn := fun _ => fun
  | [d1, d2] => { results := [.lit (.bool false)], args := [d1, d2] }
  | _ => none }
def MeetSizesWrongFalsely : Prop := meetSizesRow.holds Try.pinned (OpenSpec.ofChange meetSizesWrong)

/-- 'scrivkeep.CompJoins': WHATEVER THE INPUT: true; the input reads as it did. -/
def compJoinsSpec : ChangeSpec := { name := "compJoins", fn := fun _ => fun
  | [d1, d2, d3] => { results := [.lit (.bool true)], args := [d1, d2, d3] }
  | _ => none }
def compJoinsRow : OpenClaim := { program := "ytgocddkoancdiaa", sum := "ee9d29105e22b213ecc9de61487f623678d2a904b4750d4127865635bda84572", func := "scrivenry/scrivkeep.CompJoins", spec := "compJoins", apart := false }
def CompJoinsSaid : Prop := compJoinsRow.holds Try.pinned (OpenSpec.ofChange compJoinsSpec)

/-- ITS FALSE NEIGHBOUR: 'it returns false'. Refute it at one input. -/
def compJoinsWrong : ChangeSpec := { name := "compJoins", fn := fun _ => fun
  | [d1, d2, d3] => { results := [.lit (.bool false)], args := [d1, d2, d3] }
  | _ => none }
def CompJoinsWrongFalsely : Prop := compJoinsRow.holds Try.pinned (OpenSpec.ofChange compJoinsWrong)

/-- 'scrivkeep.CompEdges': WHATEVER THE INPUT: true; the input reads as it did. -/
def compEdgesSpec : ChangeSpec := { name := "compEdges", fn := fun _ => fun
  | [d1, d2, d3] => { results := [.lit (.bool true)], args := [d1, d2, d3] }
  | _ => none }
def compEdgesRow : OpenClaim := { program := "ytgocddkoancdiaa", sum := "ee9d29105e22b213ecc9de61487f623678d2a904b4750d4127865635bda84572", func := "scrivenry/scrivkeep.CompEdges", spec := "compEdges", apart := false }
def CompEdgesSaid : Prop := compEdgesRow.holds Try.pinned (OpenSpec.ofChange compEdgesSpec)

/-- ITS FALSE NEIGHBOUR: 'it returns false'. Refute it at one input. -/
def compEdgesWrong : ChangeSpec := { name := "compEdges", fn := fun _ => fun
  | [d1, d2, d3] => { results := [.lit (.bool false)], args := [d1, d2, d3] }
  | _ => none }
def CompEdgesWrongFalsely : Prop := compEdgesRow.holds Try.pinned (OpenSpec.ofChange compEdgesWrong)

/-- 'scrivkeep.TurnBack': WHATEVER THE INPUT: true; the input reads as it did. -/
def turnBackSpec : ChangeSpec := { name := "turnBack", fn := fun _ => fun
  | [d1, d2] => { results := [.lit (.bool true)], args := [d1, d2] }
  | _ => none }
def turnBackRow : OpenClaim := { program := "ytgocddkoancdiaa", sum := "ee9d29105e22b213ecc9de61487f623678d2a904b4750d4127865635bda84572", func := "scrivenry/scrivkeep.TurnBack", spec := "turnBack", inPlace := ["internal/abi.NoEscape"], apart := false }
def TurnBackSaid : Prop := turnBackRow.holds Try.pinned (OpenSpec.ofChange turnBackSpec)

/-- ITS FALSE NEIGHBOUR: 'it returns false'. Refute it at one input. -/
def turnBackWrong : ChangeSpec := { name := "turnBack", fn := fun _ => fun
  | [d1, d2] => { results := [.lit (.bool false)], args := [d1, d2] }
  | _ => none }
def TurnBackWrongFalsely : Prop := turnBackRow.holds Try.pinned (OpenSpec.ofChange turnBackWrong)

/-- 'scrivkeep.MeetIdle': WHATEVER THE INPUT: true; the input reads as it did. -/
def meetIdleSpec : ChangeSpec := { name := "meetIdle", fn := fun _ => fun
  | [d] => { results := [.lit (.bool true)], args := [d] }
  | _ => none }
def meetIdleRow : OpenClaim := { program := "ytgocddkoancdiaa", sum := "ee9d29105e22b213ecc9de61487f623678d2a904b4750d4127865635bda84572", func := "scrivenry/scrivkeep.MeetIdle", spec := "meetIdle", apart := false }
def MeetIdleSaid : Prop := meetIdleRow.holds Try.pinned (OpenSpec.ofChange meetIdleSpec)

/-- ITS FALSE NEIGHBOUR: 'it returns false'. Refute it at one input. -/
def meetIdleWrong : ChangeSpec := { name := "meetIdle", fn := fun _ => fun
  | [d] => { results := [.lit (.bool false)], args := [d] }
  | _ => none }
def MeetIdleWrongFalsely : Prop := meetIdleRow.holds Try.pinned (OpenSpec.ofChange meetIdleWrong)

/-- 'scrivkeep.TurnBeside': WHATEVER THE INPUT: true; the input reads as it did. -/
def turnBesideSpec : ChangeSpec := { name := "turnBeside", fn := fun _ => fun
  | [d1, d2, d3, d4] => { results := [.lit (.bool true)], args := [d1, d2, d3, d4] }
  | _ => none }
def turnBesideRow : OpenClaim := { program := "ytgocddkoancdiaa", sum := "ee9d29105e22b213ecc9de61487f623678d2a904b4750d4127865635bda84572", func := "scrivenry/scrivkeep.TurnBeside", spec := "turnBeside", apart := false }
def TurnBesideSaid : Prop := turnBesideRow.holds Try.pinned (OpenSpec.ofChange turnBesideSpec)

/-- ITS FALSE NEIGHBOUR: 'it returns false'. Refute it at one input. -/
def turnBesideWrong : ChangeSpec := { name := "turnBeside", fn := fun _ => fun
  | [d1, d2, d3, d4] => { results := [.lit (.bool false)], args := [d1, d2, d3, d4] }
  | _ => none }
def TurnBesideWrongFalsely : Prop := turnBesideRow.holds Try.pinned (OpenSpec.ofChange turnBesideWrong)

/-- 'scrivkeep.ApplyBeside': WHATEVER THE INPUT: true; the input reads as it did. -/
def applyBesideSpec : ChangeSpec := { name := "applyBeside", fn := fun _ => fun
  | [d1, d2, d3, d4] => { results := [.lit (.bool true)], args := [d1, d2, d3, d4] }
  | _ => none }
def applyBesideRow : OpenClaim := { program := "ytgocddkoancdiaa", sum := "ee9d29105e22b213ecc9de61487f623678d2a904b4750d4127865635bda84572", func := "scrivenry/scrivkeep.ApplyBeside", spec := "applyBeside", inPlace := ["internal/abi.NoEscape"], apart := false }
def ApplyBesideSaid : Prop := applyBesideRow.holds Try.pinned (OpenSpec.ofChange applyBesideSpec)

/-- ITS FALSE NEIGHBOUR: 'it returns false'. Refute it at one input. -/
def applyBesideWrong : ChangeSpec := { name := "applyBeside", fn := fun _ => fun
  | [d1, d2, d3, d4] => { results := [.lit (.bool false)], args := [d1, d2, d3, d4] }
  | _ => none }
def ApplyBesideWrongFalsely : Prop := applyBesideRow.holds Try.pinned (OpenSpec.ofChange applyBesideWrong)

/-- 'scrivkeep.CompDoes': WHATEVER THE INPUT: true; the input reads as it did. -/
def compDoesSpec : ChangeSpec := { name := "compDoes", fn := fun _ => fun
  | [d1, d2, d3] => { results := [.lit (.bool true)], args := [d1, d2, d3] }
  | _ => none }
def compDoesRow : OpenClaim := { program := "ytgocddkoancdiaa", sum := "ee9d29105e22b213ecc9de61487f623678d2a904b4750d4127865635bda84572", func := "scrivenry/scrivkeep.CompDoes", spec := "compDoes", inPlace := ["internal/abi.NoEscape"], apart := false }
def CompDoesSaid : Prop := compDoesRow.holds Try.pinned (OpenSpec.ofChange compDoesSpec)

/-- ITS FALSE NEIGHBOUR: 'it returns false'. Refute it at one input. -/
def compDoesWrong : ChangeSpec := { name := "compDoes", fn := fun _ => fun
  | [d1, d2, d3] => { results := [.lit (.bool false)], args := [d1, d2, d3] }
  | _ => none }
def CompDoesWrongFalsely : Prop := compDoesRow.holds Try.pinned (OpenSpec.ofChange compDoesWrong)

/-- 'scrivkeep.MeetJoins': WHATEVER THE INPUT: true; the input reads as it did. -/
def meetJoinsSpec : ChangeSpec := { name := "meetJoins", fn := fun _ => fun
  | [d1, d2, d3] => { results := [.lit (.bool true)], args := [d1, d2, d3] }
  | _ => none }
def meetJoinsRow : OpenClaim := { program := "ytgocddkoancdiaa", sum := "ee9d29105e22b213ecc9de61487f623678d2a904b4750d4127865635bda84572", func := "scrivenry/scrivkeep.MeetJoins", spec := "meetJoins", unfollowed := true, recurses := true, apart := false }
def MeetJoinsSaid : Prop := meetJoinsRow.holds Try.pinned (OpenSpec.ofChange meetJoinsSpec)

/-- ITS FALSE NEIGHBOUR: 'it returns false'. Refute it at one input. -/
def meetJoinsWrong : ChangeSpec := { name := "meetJoins", fn := fun _ => fun
  | [d1, d2, d3] => { results := [.lit (.bool false)], args := [d1, d2, d3] }
  | _ => none }
def MeetJoinsWrongFalsely : Prop := meetJoinsRow.holds Try.pinned (OpenSpec.ofChange meetJoinsWrong)

/-- 'scrivkeep.CompBeside': WHATEVER THE INPUT: true; the input reads as it did. -/
def compBesideSpec : ChangeSpec := { name := "compBeside", fn := fun _ => fun
  | [d1, d2, d3, d4] => { results := [.lit (.bool true)], args := [d1, d2, d3, d4] }
  | _ => none }
def compBesideRow : OpenClaim := { program := "ytgocddkoancdiaa", sum := "ee9d29105e22b213ecc9de61487f623678d2a904b4750d4127865635bda84572", func := "scrivenry/scrivkeep.CompBeside", spec := "compBeside", apart := false }
def CompBesideSaid : Prop := compBesideRow.holds Try.pinned (OpenSpec.ofChange compBesideSpec)

/-- ITS FALSE NEIGHBOUR: 'it returns false'. Refute it at one input. -/
def compBesideWrong : ChangeSpec := { name := "compBeside", fn := fun _ => fun
  | [d1, d2, d3, d4] => { results := [.lit (.bool false)], args := [d1, d2, d3, d4] }
  | _ => none }
def CompBesideWrongFalsely : Prop := compBesideRow.holds Try.pinned (OpenSpec.ofChange compBesideWrong)

/-- 'scrivkeep.TurnParts': WHATEVER THE INPUT: true; the input reads as it did. -/
def turnPartsSpec : ChangeSpec := { name := "turnParts", fn := fun _ => fun
  | [d1, d2, d3] => { results := [.lit (.bool true)], args := [d1, d2, d3] }
  | _ => none }
def turnPartsRow : OpenClaim := { program := "ytgocddkoancdiaa", sum := "ee9d29105e22b213ecc9de61487f623678d2a904b4750d4127865635bda84572", func := "scrivenry/scrivkeep.TurnParts", spec := "turnParts", inPlace := ["internal/abi.NoEscape"], apart := false }
def TurnPartsSaid : Prop := turnPartsRow.holds Try.pinned (OpenSpec.ofChange turnPartsSpec)

/-- ITS FALSE NEIGHBOUR: 'it returns false'. Refute it at one input. -/
def turnPartsWrong : ChangeSpec := { name := "turnParts", fn := fun _ => fun
  | [d1, d2, d3] => { results := [.lit (.bool false)], args := [d1, d2, d3] }
  | _ => none }
def TurnPartsWrongFalsely : Prop := turnPartsRow.holds Try.pinned (OpenSpec.ofChange turnPartsWrong)

/-- 'scrivkeep.MeetApart': WHATEVER THE INPUT: true; the input reads as it did. -/
def meetApartSpec : ChangeSpec := { name := "meetApart", fn := fun _ => fun
  | [d1, d2] => { results := [.lit (.bool true)], args := [d1, d2] }
  | _ => none }
def meetApartRow : OpenClaim := { program := "ytgocddkoancdiaa", sum := "ee9d29105e22b213ecc9de61487f623678d2a904b4750d4127865635bda84572", func := "scrivenry/scrivkeep.MeetApart", spec := "meetApart", unfollowed := true, recurses := true, apart := false }
def MeetApartSaid : Prop := meetApartRow.holds Try.pinned (OpenSpec.ofChange meetApartSpec)

/-- ITS FALSE NEIGHBOUR: 'it returns false'. Refute it at one input. -/
def meetApartWrong : ChangeSpec := { name := "meetApart", fn := fun _ => fun
  | [d1, d2] => { results := [.lit (.bool false)], args := [d1, d2] }
  | _ => none }
def MeetApartWrongFalsely : Prop := meetApartRow.holds Try.pinned (OpenSpec.ofChange meetApartWrong)

/- THE SECOND FORM. 'bulk': how many values and letters a reading holds, each counted each time it is reached (what is shared counts as often as it is met; a slice's spare places count too). A statement '..UptoSaid' is the law's where the arguments, and the package variables that the reading takes, are together of bulk at most 1048576: NARROWER than '..Said'. Prove '..Said' where nothing that the law and all that it calls make is longer than what came in: it says more and counts as full. Else prove '..UptoSaid'. A law counts once. -/
mutual
def uptoBulk {H : Type} : DataW H → Nat
  | .lit (.string bytes) => bytes.length + 1
  | .lit _ => 1
  | .nil => 1
  | .ptr d => uptoBulk d + 1
  | .slice elems spare => uptoBulkAll elems + uptoBulkAll spare + 1
  | .agg parts => uptoBulkAll parts + 1
  | .iface _ d => uptoBulk d + 1
  | .map entries => uptoBulkEntries entries + 1
  | .held _ => 1
def uptoBulkAll {H : Type} : List (DataW H) → Nat
  | [] => 0
  | d :: r => uptoBulk d + uptoBulkAll r
def uptoBulkEntries {H : Type} : List (Lit × DataW H) → Nat
  | [] => 0
  | x :: r => uptoBulkEntry x + uptoBulkEntries r
def uptoBulkEntry {H : Type} : Lit × DataW H → Nat
  | (.string bytes, d) => bytes.length + uptoBulk d + 1
  | (_, d) => uptoBulk d + 1
 end
def uptoSmall : (H : Type) → List (DataW H) → Bool := fun _ ds => decide (uptoBulkAll ds ≤ 1048576)
def OpenSpec.upto (s : _root_.Go.ChangeSpec) : _root_.Go.OpenSpec := { _root_.Go.OpenSpec.ofChange s with cond := some uptoSmall }

/-- 'scrivkeep.MeetSizes', WHERE WHAT IT READS IS OF BULK AT MOST 1048576: true; the input reads as it did. -/
def meetSizesUptoRow : OpenClaim := { program := "ytgocddkoancdiaa", sum := "ee9d29105e22b213ecc9de61487f623678d2a904b4750d4127865635bda84572", func := "scrivenry/scrivkeep.MeetSizes", spec := "meetSizes", unfollowed := true, recurses := true, apart := false, narrowed := true }
def MeetSizesUptoSaid : Prop := meetSizesUptoRow.holds Try.pinned (OpenSpec.upto meetSizesSpec)

/-- 'scrivkeep.CompJoins', WHERE WHAT IT READS IS OF BULK AT MOST 1048576: true; the input reads as it did. -/
def compJoinsUptoRow : OpenClaim := { program := "ytgocddkoancdiaa", sum := "ee9d29105e22b213ecc9de61487f623678d2a904b4750d4127865635bda84572", func := "scrivenry/scrivkeep.CompJoins", spec := "compJoins", apart := false, narrowed := true }
def CompJoinsUptoSaid : Prop := compJoinsUptoRow.holds Try.pinned (OpenSpec.upto compJoinsSpec)

/-- 'scrivkeep.CompEdges', WHERE WHAT IT READS IS OF BULK AT MOST 1048576: true; the input reads as it did. -/
def compEdgesUptoRow : OpenClaim := { program := "ytgocddkoancdiaa", sum := "ee9d29105e22b213ecc9de61487f623678d2a904b4750d4127865635bda84572", func := "scrivenry/scrivkeep.CompEdges", spec := "compEdges", apart := false, narrowed := true }
def CompEdgesUptoSaid : Prop := compEdgesUptoRow.holds Try.pinned (OpenSpec.upto compEdgesSpec)

/-- 'scrivkeep.TurnBack', WHERE WHAT IT READS IS OF BULK AT MOST 1048576: true; the input reads as it did. -/
def turnBackUptoRow : OpenClaim := { program := "ytgocddkoancdiaa", sum := "ee9d29105e22b213ecc9de61487f623678d2a904b4750d4127865635bda84572", func := "scrivenry/scrivkeep.TurnBack", spec := "turnBack", inPlace := ["internal/abi.NoEscape"], apart := false, narrowed := true }
def TurnBackUptoSaid : Prop := turnBackUptoRow.holds Try.pinned (OpenSpec.upto turnBackSpec)

/-- 'scrivkeep.MeetIdle', WHERE WHAT IT READS IS OF BULK AT MOST 1048576: true; the input reads as it did. -/
def meetIdleUptoRow : OpenClaim := { program := "ytgocddkoancdiaa", sum := "ee9d29105e22b213ecc9de61487f623678d2a904b4750d4127865635bda84572", func := "scrivenry/scrivkeep.MeetIdle", spec := "meetIdle", apart := false, narrowed := true }
def MeetIdleUptoSaid : Prop := meetIdleUptoRow.holds Try.pinned (OpenSpec.upto meetIdleSpec)

/-- 'scrivkeep.TurnBeside', WHERE WHAT IT READS IS OF BULK AT MOST 1048576: true; the input reads as it did. -/
def turnBesideUptoRow : OpenClaim := { program := "ytgocddkoancdiaa", sum := "ee9d29105e22b213ecc9de61487f623678d2a904b4750d4127865635bda84572", func := "scrivenry/scrivkeep.TurnBeside", spec := "turnBeside", apart := false, narrowed := true }
def TurnBesideUptoSaid : Prop := turnBesideUptoRow.holds Try.pinned (OpenSpec.upto turnBesideSpec)

/-- 'scrivkeep.ApplyBeside', WHERE WHAT IT READS IS OF BULK AT MOST 1048576: true; the input reads as it did. -/
def applyBesideUptoRow : OpenClaim := { program := "ytgocddkoancdiaa", sum := "ee9d29105e22b213ecc9de61487f623678d2a904b4750d4127865635bda84572", func := "scrivenry/scrivkeep.ApplyBeside", spec := "applyBeside", inPlace := ["internal/abi.NoEscape"], apart := false, narrowed := true }
def ApplyBesideUptoSaid : Prop := applyBesideUptoRow.holds Try.pinned (OpenSpec.upto applyBesideSpec)

/-- 'scrivkeep.CompDoes', WHERE WHAT IT READS IS OF BULK AT MOST 1048576: true; the input reads as it did. -/
def compDoesUptoRow : OpenClaim := { program := "ytgocddkoancdiaa", sum := "ee9d29105e22b213ecc9de61487f623678d2a904b4750d4127865635bda84572", func := "scrivenry/scrivkeep.CompDoes", spec := "compDoes", inPlace := ["internal/abi.NoEscape"], apart := false, narrowed := true }
def CompDoesUptoSaid : Prop := compDoesUptoRow.holds Try.pinned (OpenSpec.upto compDoesSpec)

/-- 'scrivkeep.MeetJoins', WHERE WHAT IT READS IS OF BULK AT MOST 1048576: true; the input reads as it did. -/
def meetJoinsUptoRow : OpenClaim := { program := "ytgocddkoancdiaa", sum := "ee9d29105e22b213ecc9de61487f623678d2a904b4750d4127865635bda84572", func := "scrivenry/scrivkeep.MeetJoins", spec := "meetJoins", unfollowed := true, recurses := true, apart := false, narrowed := true }
def MeetJoinsUptoSaid : Prop := meetJoinsUptoRow.holds Try.pinned (OpenSpec.upto meetJoinsSpec)

/-- 'scrivkeep.CompBeside', WHERE WHAT IT READS IS OF BULK AT MOST 1048576: true; the input reads as it did. -/
def compBesideUptoRow : OpenClaim := { program := "ytgocddkoancdiaa", sum := "ee9d29105e22b213ecc9de61487f623678d2a904b4750d4127865635bda84572", func := "scrivenry/scrivkeep.CompBeside", spec := "compBeside", apart := false, narrowed := true }
def CompBesideUptoSaid : Prop := compBesideUptoRow.holds Try.pinned (OpenSpec.upto compBesideSpec)

/-- 'scrivkeep.TurnParts', WHERE WHAT IT READS IS OF BULK AT MOST 1048576: true; the input reads as it did. -/
def turnPartsUptoRow : OpenClaim := { program := "ytgocddkoancdiaa", sum := "ee9d29105e22b213ecc9de61487f623678d2a904b4750d4127865635bda84572", func := "scrivenry/scrivkeep.TurnParts", spec := "turnParts", inPlace := ["internal/abi.NoEscape"], apart := false, narrowed := true }
def TurnPartsUptoSaid : Prop := turnPartsUptoRow.holds Try.pinned (OpenSpec.upto turnPartsSpec)

/-- 'scrivkeep.MeetApart', WHERE WHAT IT READS IS OF BULK AT MOST 1048576: true; the input reads as it did. -/
def meetApartUptoRow : OpenClaim := { program := "ytgocddkoancdiaa", sum := "ee9d29105e22b213ecc9de61487f623678d2a904b4750d4127865635bda84572", func := "scrivenry/scrivkeep.MeetApart", spec := "meetApart", unfollowed := true, recurses := true, apart := false, narrowed := true }
def MeetApartUptoSaid : Prop := meetApartUptoRow.holds Try.pinned (OpenSpec.upto meetApartSpec)

end Rows
end Go.Proofs.Ytgocddkoancdiaa
