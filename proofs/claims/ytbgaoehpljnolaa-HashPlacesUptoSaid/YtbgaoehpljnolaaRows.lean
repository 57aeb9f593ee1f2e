/-
  No cell of these rows narrows 'for every input' (looked for: loops, veiled, ifaces, maps, wideKeys, modest, calm, conditions, laid).
  DERIVED. THE GIVEN ROWS OF THIS SEAT. 12 by the template 'for every input the law returns true; each argument reads behind the call as it read before'; 0 by the template 'total and deterministic' (their statements: YtbgaoehpljnolaaTotals.lean).
  GIVEN WITH THE SEED: the statements are not yours to turn. If you find one false, say at which input.
  Laid BY PROGRAM, IN A SANDBOX (cutbox-rows.mjs): the forced cells as the released guide's own fill.sh prints them over the translation 53501f5caaa9d95d… (all of the seat's roots in one cut). By AI agents, Wed Nov 11 2026. No macro, syntax, notation, axiom, sorry.
-/
import Derived.Test.YtbgaoehpljnolaaChecked
import GoSem.Claim
import GoSem.ClaimJoined
import GoSem.ClaimMapViews
import Derived.JoinedTies
import Derived.KernelRfl
namespace Go.Proofs.Ytbgaoehpljnolaa
/- THE CELL 'sum', in the pinned program and in every row, IS THE sha256 OF THE DUMP (.gsa) THAT YtbgaoehpljnolaaProg.lean LOADS. Nothing in Lean hashes anything: it is a label: what it is worth is what the hold of that sum in a sandbox is worth. -/
noncomputable def Try.pinned : Pinned := { name := "ytbgaoehpljnolaa", sum := "53501f5caaa9d95d990618e5fb418dd485be2f65462652e949e7c6fc66bfe8d1", checked := Try.checked }
namespace Rows
def none {H : Type} : Left H := { results := [], args := [] }

/-- 'scrivkeep.HashPlaces': WHATEVER THE INPUT: true; the input reads as it did. -/
def hashPlacesSpec : ChangeSpec := { name := "hashPlaces", fn := fun _ => fun
  | [d1, d2, d3, d4] => { results := [.lit (.bool true)], args := [d1, d2, d3, d4] }
  | _ => none }
def hashPlacesRow : OpenClaim := { program := "ytbgaoehpljnolaa", sum := "53501f5caaa9d95d990618e5fb418dd485be2f65462652e949e7c6fc66bfe8d1", func := "scrivenry/scrivkeep.HashPlaces", spec := "hashPlaces", apart := false }
def HashPlacesSaid : Prop := hashPlacesRow.holds Try.pinned (OpenSpec.ofChange hashPlacesSpec)

/-- ITS FALSE NEIGHBOUR: 'it returns false'. Refute it at one input. -/
def hashPlacesWrong : ChangeSpec := { name := "hashPlaces", fn := fun _ => fun
  | [d1, d2, d3, d4] => { results := [.lit (.bool false)], args := [d1, d2, d3, d4] }
  | _ => none }
def HashPlacesWrongFalsely : Prop := hashPlacesRow.holds Try.pinned (OpenSpec.ofChange hashPlacesWrong)

/-- 'scrivkeep.KeepFalls': WHATEVER THE INPUT: true; the input reads as it did. -/
def keepFallsSpec : ChangeSpec := { name := "keepFalls", fn := fun _ => fun
  | [d1, d2] => { results := [.lit (.bool true)], args := [d1, d2] }
  | _ => none }
def keepFallsRow : OpenClaim := { program := "ytbgaoehpljnolaa", sum := "53501f5caaa9d95d990618e5fb418dd485be2f65462652e949e7c6fc66bfe8d1", func := "scrivenry/scrivkeep.KeepFalls", spec := "keepFalls", apart := false }
def KeepFallsSaid : Prop := keepFallsRow.holds Try.pinned (OpenSpec.ofChange keepFallsSpec)

/-- ITS FALSE NEIGHBOUR: 'it returns false'. Refute it at one input. -/
def keepFallsWrong : ChangeSpec := { name := "keepFalls", fn := fun _ => fun
  | [d1, d2] => { results := [.lit (.bool false)], args := [d1, d2] }
  | _ => none }
def KeepFallsWrongFalsely : Prop := keepFallsRow.holds Try.pinned (OpenSpec.ofChange keepFallsWrong)

/-- 'scrivkeep.KeepMore': WHATEVER THE INPUT: true; the input reads as it did. -/
def keepMoreSpec : ChangeSpec := { name := "keepMore", fn := fun _ => fun
  | [d1, d2, d3, d4] => { results := [.lit (.bool true)], args := [d1, d2, d3, d4] }
  | _ => none }
def keepMoreRow : OpenClaim := { program := "ytbgaoehpljnolaa", sum := "53501f5caaa9d95d990618e5fb418dd485be2f65462652e949e7c6fc66bfe8d1", func := "scrivenry/scrivkeep.KeepMore", spec := "keepMore", unfollowed := true, recurses := true, apart := false }
def KeepMoreSaid : Prop := keepMoreRow.holds Try.pinned (OpenSpec.ofChange keepMoreSpec)

/-- ITS FALSE NEIGHBOUR: 'it returns false'. Refute it at one input. -/
def keepMoreWrong : ChangeSpec := { name := "keepMore", fn := fun _ => fun
  | [d1, d2, d3, d4] => { results := [.lit (.bool false)], args := [d1, d2, d3, d4] }
  | _ => none }
def KeepMoreWrongFalsely : Prop := keepMoreRow.holds Try.pinned (OpenSpec.ofChange keepMoreWrong)

/-- 'scrivkeep.FrameRows': WHATEVER THE INPUT: true; the input reads as it did. -/
def frameRowsSpec : ChangeSpec := { name := "frameRows", fn := fun _ => fun
  | [d1, d2, d3] => { results := [.lit (.bool true)], args := [d1, d2, d3] }
  | _ => none }
def frameRowsRow : OpenClaim := { program := "ytbgaoehpljnolaa", sum := "53501f5caaa9d95d990618e5fb418dd485be2f65462652e949e7c6fc66bfe8d1", func := "scrivenry/scrivkeep.FrameRows", spec := "frameRows", apart := false }
def FrameRowsSaid : Prop := frameRowsRow.holds Try.pinned (OpenSpec.ofChange frameRowsSpec)

/-- ITS FALSE NEIGHBOUR: 'it returns false'. Refute it at one input. -/
def frameRowsWrong : ChangeSpec := { name := "frameRows", fn := fun _ => fun
  | [d1, d2, d3] => { results := [.lit (.bool false)], args := [d1, d2, d3] }
  | _ => none }
def FrameRowsWrongFalsely : Prop := frameRowsRow.holds Try.pinned (OpenSpec.ofChange frameRowsWrong)

/-- 'scrivkeep.SpotOrders': WHATEVER THE INPUT: true; the input reads as it did. -/
def spotOrdersSpec : ChangeSpec := { name := "spotOrders", fn := fun _ => fun
  | [d1, d2, d3] => { results := [.lit (.bool true)], args := [d1, d2, d3] }
  | _ => none }
def spotOrdersRow : OpenClaim := { program := "ytbgaoehpljnolaa", sum := "53501f5caaa9d95d990618e5fb418dd485be2f65462652e949e7c6fc66bfe8d1", func := "scrivenry/scrivkeep.SpotOrders", spec := "spotOrders", apart := false }
def SpotOrdersSaid : Prop := spotOrdersRow.holds Try.pinned (OpenSpec.ofChange spotOrdersSpec)

/-- ITS FALSE NEIGHBOUR: 'it returns false'. Refute it at one input. -/
def spotOrdersWrong : ChangeSpec := { name := "spotOrders", fn := fun _ => fun
  | [d1, d2, d3] => { results := [.lit (.bool false)], args := [d1, d2, d3] }
  | _ => none }
def SpotOrdersWrongFalsely : Prop := spotOrdersRow.holds Try.pinned (OpenSpec.ofChange spotOrdersWrong)

/-- 'scrivkeep.ApplySizes': WHATEVER THE INPUT: true; the input reads as it did. -/
def applySizesSpec : ChangeSpec := { name := "applySizes", fn := fun _ => fun
  | [d1, d2] => { results := [.lit (.bool true)], args := [d1, d2] }
  | _ => none }
def applySizesRow : OpenClaim := { program := "ytbgaoehpljnolaa", sum := "53501f5caaa9d95d990618e5fb418dd485be2f65462652e949e7c6fc66bfe8d1", func := "scrivenry/scrivkeep.ApplySizes", spec := "applySizes", inPlace := ["internal/abi.NoEscape"], apart := false }
def ApplySizesSaid : Prop := applySizesRow.holds Try.pinned (OpenSpec.ofChange applySizesSpec)

/-- ITS FALSE NEIGHBOUR: 'it returns false'. Refute it at one input. -/
def applySizesWrong : ChangeSpec := { name := "applySizes", fn := fun _ => fun
  | [d1, d2] => { results := [.lit (.bool false)], args := [d1, d2] }
  | _ => none }
def ApplySizesWrongFalsely : Prop := applySizesRow.holds Try.pinned (OpenSpec.ofChange applySizesWrong)

/-- 'scrivkeep.PartOnce': WHATEVER THE INPUT: true; the input reads as it did. -/
def partOnceSpec : ChangeSpec := { name := "partOnce", fn := fun _ => fun
  | [d] => { results := [.lit (.bool true)], args := [d] }
  | _ => none }
def partOnceRow : OpenClaim := { program := "ytbgaoehpljnolaa", sum := "53501f5caaa9d95d990618e5fb418dd485be2f65462652e949e7c6fc66bfe8d1", func := "scrivenry/scrivkeep.PartOnce", spec := "partOnce", apart := false }
def PartOnceSaid : Prop := partOnceRow.holds Try.pinned (OpenSpec.ofChange partOnceSpec)

/-- ITS FALSE NEIGHBOUR: 'it returns false'. Refute it at one input. -/
def partOnceWrong : ChangeSpec := { name := "partOnce", fn := fun _ => fun
  | [d] => { results := [.lit (.bool false)], args := [d] }
  | _ => none }
def PartOnceWrongFalsely : Prop := partOnceRow.holds Try.pinned (OpenSpec.ofChange partOnceWrong)

/-- 'scrivkeep.SpotKept': WHATEVER THE INPUT: true; the input reads as it did. -/
def spotKeptSpec : ChangeSpec := { name := "spotKept", fn := fun _ => fun
  | [d1, d2, d3] => { results := [.lit (.bool true)], args := [d1, d2, d3] }
  | _ => none }
def spotKeptRow : OpenClaim := { program := "ytbgaoehpljnolaa", sum := "53501f5caaa9d95d990618e5fb418dd485be2f65462652e949e7c6fc66bfe8d1", func := "scrivenry/scrivkeep.SpotKept", spec := "spotKept", inPlace := ["internal/abi.NoEscape"], apart := false }
def SpotKeptSaid : Prop := spotKeptRow.holds Try.pinned (OpenSpec.ofChange spotKeptSpec)

/-- ITS FALSE NEIGHBOUR: 'it returns false'. Refute it at one input. -/
def spotKeptWrong : ChangeSpec := { name := "spotKept", fn := fun _ => fun
  | [d1, d2, d3] => { results := [.lit (.bool false)], args := [d1, d2, d3] }
  | _ => none }
def SpotKeptWrongFalsely : Prop := spotKeptRow.holds Try.pinned (OpenSpec.ofChange spotKeptWrong)

/-- 'scrivkeep.SpotTurns': WHATEVER THE INPUT: true; the input reads as it did. -/
def spotTurnsSpec : ChangeSpec := { name := "spotTurns", fn := fun _ => fun
  | [d1, d2, d3] => { results := [.lit (.bool true)], args := [d1, d2, d3] }
  | _ => none }
def spotTurnsRow : OpenClaim := { program := "ytbgaoehpljnolaa", sum := "53501f5caaa9d95d990618e5fb418dd485be2f65462652e949e7c6fc66bfe8d1", func := "scrivenry/scrivkeep.SpotTurns", spec := "spotTurns", apart := false }
def SpotTurnsSaid : Prop := spotTurnsRow.holds Try.pinned (OpenSpec.ofChange spotTurnsSpec)

/-- ITS FALSE NEIGHBOUR: 'it returns false'. Refute it at one input. -/
def spotTurnsWrong : ChangeSpec := { name := "spotTurns", fn := fun _ => fun
  | [d1, d2, d3] => { results := [.lit (.bool false)], args := [d1, d2, d3] }
  | _ => none }
def SpotTurnsWrongFalsely : Prop := spotTurnsRow.holds Try.pinned (OpenSpec.ofChange spotTurnsWrong)

/-- 'scrivkeep.RevsCut': WHATEVER THE INPUT: true; the input reads as it did. -/
def revsCutSpec : ChangeSpec := { name := "revsCut", fn := fun _ => fun
  | [d1, d2, d3, d4] => { results := [.lit (.bool true)], args := [d1, d2, d3, d4] }
  | _ => none }
def revsCutRow : OpenClaim := { program := "ytbgaoehpljnolaa", sum := "53501f5caaa9d95d990618e5fb418dd485be2f65462652e949e7c6fc66bfe8d1", func := "scrivenry/scrivkeep.RevsCut", spec := "revsCut", inPlace := ["internal/abi.NoEscape"], apart := false }
def RevsCutSaid : Prop := revsCutRow.holds Try.pinned (OpenSpec.ofChange revsCutSpec)

/-- ITS FALSE NEIGHBOUR: 'it returns false'. Refute it at one input. -/
def revsCutWrong : ChangeSpec := { name := "revsCut", fn := fun _ => fun
  | [d1, d2, d3, d4] => { results := [.lit (.bool false)], args := [d1, d2, d3, d4] }
  | _ => none }
def RevsCutWrongFalsely : Prop := revsCutRow.holds Try.pinned (OpenSpec.ofChange revsCutWrong)

/-- 'scrivkeep.CodeBack': WHATEVER THE INPUT: true; the input reads as it did. -/
def codeBackSpec : ChangeSpec := { name := "codeBack", fn := fun _ => fun
  | [d1, d2, d3] => { results := [.lit (.bool true)], args := [d1, d2, d3] }
  | _ => none }
def codeBackRow : OpenClaim := { program := "ytbgaoehpljnolaa", sum := "53501f5caaa9d95d990618e5fb418dd485be2f65462652e949e7c6fc66bfe8d1", func := "scrivenry/scrivkeep.CodeBack", spec := "codeBack", apart := false }
def CodeBackSaid : Prop := codeBackRow.holds Try.pinned (OpenSpec.ofChange codeBackSpec)

/-- ITS FALSE NEIGHBOUR: 'it returns false'. Refute it at one input. -/
def codeBackWrong : ChangeSpec := { name := "codeBack", fn := fun _ => fun
  | [d1, d2, d3] => { results := [.lit (.bool false)], args := [d1, d2, d3] }
  | _ => none }
def CodeBackWrongFalsely : Prop := codeBackRow.holds Try.pinned (OpenSpec.ofChange codeBackWrong)

/-- 'scrivkeep.CodeOne': WHATEVER THE INPUT: true; the input reads as it did. -/
def codeOneSpec : ChangeSpec := { name := "codeOne", fn := fun _ => fun
  | [d] => { results := [.lit (.bool true)], args := [d] }
  | _ => none }
def codeOneRow : OpenClaim := { program := "ytbgaoehpljnolaa", sum := "53501f5caaa9d95d990618e5fb418dd485be2f65462652e949e7c6fc66bfe8d1", func := "scrivenry/scrivkeep.CodeOne", spec := "codeOne", apart := false }
def CodeOneSaid : Prop := codeOneRow.holds Try.pinned (OpenSpec.ofChange codeOneSpec)

/-- ITS FALSE NEIGHBOUR: 'it returns false'. Refute it at one input. -/
def codeOneWrong : ChangeSpec := { name := "codeOne", fn := fun _ => fun
  | [d] => { results := [.lit (.bool false)], args := [d] }
  | _ => none }
def CodeOneWrongFalsely : Prop := codeOneRow.holds Try.pinned (OpenSpec.ofChange codeOneWrong)

/- THE SECOND FORM. 'bulk': how many values and letters a reading holds, each counted each time it is reached (what is shared counts as often as it is met; a slice's spare places count too). A statement '..UptoSaid' is the law's where the arguments, and the package variables that the reading takes, are together of bulk at most 1048576: NARROWER than '..Said'. Prove '..Said' where nothing that the law and all that it calls make is longer than what came in: it says more and counts as full. Else prove '..UptoSaid'. A law counts once. -/
mutual
def uptoBulk {H : Type} : DataW H → Nat
  | .lit (.string bytes) => bytes.length + 1
  | .lit _ => 1
  | .nil => 1
  | .ptr d => uptoBulk d + 1
  | .slice elems spare => uptoBulkAll elems + uptoBulkAll spare + 1
  | .agg parts => uptoBulkAll parts + 1
  | .iface _ d => uptoBulk d + 1
  | .map entries => uptoBulkEntries entries + 1
  | .held _ => 1
def uptoBulkAll {H : Type} : List (DataW H) → Nat
  | [] => 0
  | d :: r => uptoBulk d + uptoBulkAll r
def uptoBulkEntries {H : Type} : List (Lit × DataW H) → Nat
  | [] => 0
  | x :: r => uptoBulkEntry x + uptoBulkEntries r
def uptoBulkEntry {H : Type} : Lit × DataW H → Nat
  | (.string bytes, d) => bytes.length + uptoBulk d + 1
  | (_, d) => uptoBulk d + 1
 end
def uptoSmall : (H : Type) → List (DataW H) → Bool := fun _ ds => decide (uptoBulkAll ds ≤ 1048576)
def OpenSpec.upto (s : _root_.Go.ChangeSpec) : _root_.Go.OpenSpec := { _root_.Go.OpenSpec.ofChange s with cond := some uptoSmall }

/-- 'scrivkeep.HashPlaces', WHERE WHAT IT READS IS OF BULK AT MOST 1048576: true; the input reads as it did. -/
def hashPlacesUptoRow : OpenClaim := { program := "ytbgaoehpljnolaa", sum := "53501f5caaa9d95d990618e5fb418dd485be2f65462652e949e7c6fc66bfe8d1", func := "scrivenry/scrivkeep.HashPlaces", spec := "hashPlaces", apart := false, narrowed := true }
def HashPlacesUptoSaid : Prop := hashPlacesUptoRow.holds Try.pinned (OpenSpec.upto hashPlacesSpec)

/-- 'scrivkeep.KeepFalls', WHERE WHAT IT READS IS OF BULK AT MOST 1048576: true; the input reads as it did. -/
def keepFallsUptoRow : OpenClaim := { program := "ytbgaoehpljnolaa", sum := "53501f5caaa9d95d990618e5fb418dd485be2f65462652e949e7c6fc66bfe8d1", func := "scrivenry/scrivkeep.KeepFalls", spec := "keepFalls", apart := false, narrowed := true }
def KeepFallsUptoSaid : Prop := keepFallsUptoRow.holds Try.pinned (OpenSpec.upto keepFallsSpec)

/-- 'scrivkeep.KeepMore', WHERE WHAT IT READS IS OF BULK AT MOST 1048576: true; the input reads as it did. -/
def keepMoreUptoRow : OpenClaim := { program := "ytbgaoehpljnolaa", sum := "53501f5caaa9d95d990618e5fb418dd485be2f65462652e949e7c6fc66bfe8d1", func := "scrivenry/scrivkeep.KeepMore", spec := "keepMore", unfollowed := true, recurses := true, apart := false, narrowed := true }
def KeepMoreUptoSaid : Prop := keepMoreUptoRow.holds Try.pinned (OpenSpec.upto keepMoreSpec)

/-- 'scrivkeep.FrameRows', WHERE WHAT IT READS IS OF BULK AT MOST 1048576: true; the input reads as it did. -/
def frameRowsUptoRow : OpenClaim := { program := "ytbgaoehpljnolaa", sum := "53501f5caaa9d95d990618e5fb418dd485be2f65462652e949e7c6fc66bfe8d1", func := "scrivenry/scrivkeep.FrameRows", spec := "frameRows", apart := false, narrowed := true }
def FrameRowsUptoSaid : Prop := frameRowsUptoRow.holds Try.pinned (OpenSpec.upto frameRowsSpec)

/-- 'scrivkeep.SpotOrders', WHERE WHAT IT READS IS OF BULK AT MOST 1048576: true; the input reads as it did. -/
def spotOrdersUptoRow : OpenClaim := { program := "ytbgaoehpljnolaa", sum := "53501f5caaa9d95d990618e5fb418dd485be2f65462652e949e7c6fc66bfe8d1", func := "scrivenry/scrivkeep.SpotOrders", spec := "spotOrders", apart := false, narrowed := true }
def SpotOrdersUptoSaid : Prop := spotOrdersUptoRow.holds Try.pinned (OpenSpec.upto spotOrdersSpec)

/-- 'scrivkeep.ApplySizes', WHERE WHAT IT READS IS OF BULK AT MOST 1048576: true; the input reads as it did. -/
def applySizesUptoRow : OpenClaim := { program := "ytbgaoehpljnolaa", sum := "53501f5caaa9d95d990618e5fb418dd485be2f65462652e949e7c6fc66bfe8d1", func := "scrivenry/scrivkeep.ApplySizes", spec := "applySizes", inPlace := ["internal/abi.NoEscape"], apart := false, narrowed := true }
def ApplySizesUptoSaid : Prop := applySizesUptoRow.holds Try.pinned (OpenSpec.upto applySizesSpec)

/-- 'scrivkeep.PartOnce', WHERE WHAT IT READS IS OF BULK AT MOST 1048576: true; the input reads as it did. -/
def partOnceUptoRow : OpenClaim := { program := "ytbgaoehpljnolaa", sum := "53501f5caaa9d95d990618e5fb418dd485be2f65462652e949e7c6fc66bfe8d1", func := "scrivenry/scrivkeep.PartOnce", spec := "partOnce", apart := false, narrowed := true }
def PartOnceUptoSaid : Prop := partOnceUptoRow.holds Try.pinned (OpenSpec.upto partOnceSpec)

/-- 'scrivkeep.SpotKept', WHERE WHAT IT READS IS OF BULK AT MOST 1048576: true; the input reads as it did. -/
def spotKeptUptoRow : OpenClaim := { program := "ytbgaoehpljnolaa", sum := "53501f5caaa9d95d990618e5fb418dd485be2f65462652e949e7c6fc66bfe8d1", func := "scrivenry/scrivkeep.SpotKept", spec := "spotKept", inPlace := ["internal/abi.NoEscape"], apart := false, narrowed := true }
def SpotKeptUptoSaid : Prop := spotKeptUptoRow.holds Try.pinned (OpenSpec.upto spotKeptSpec)

/-- 'scrivkeep.SpotTurns', WHERE WHAT IT READS IS OF BULK AT MOST 1048576: true; the input reads as it did. -/
def spotTurnsUptoRow : OpenClaim := { program := "ytbgaoehpljnolaa", sum := "53501f5caaa9d95d990618e5fb418dd485be2f65462652e949e7c6fc66bfe8d1", func := "scrivenry/scrivkeep.SpotTurns", spec := "spotTurns", apart := false, narrowed := true }
def SpotTurnsUptoSaid : Prop := spotTurnsUptoRow.holds Try.pinned (OpenSpec.upto spotTurnsSpec)

/-- 'scrivkeep.RevsCut', WHERE WHAT IT READS IS OF BULK AT MOST 1048576: true; the input reads as it did. -/
def revsCutUptoRow : OpenClaim := { program := "ytbgaoehpljnolaa", sum := "53501f5caaa9d95d990618e5fb418dd485be2f65462652e949e7c6fc66bfe8d1", func := "scrivenry/scrivkeep.RevsCut", spec := "revsCut", inPlace := ["internal/abi.NoEscape"], apart := false, narrowed := true }
def RevsCutUptoSaid : Prop := revsCutUptoRow.holds Try.pinned (OpenSpec.upto revsCutSpec)

/-- 'scrivkeep.CodeBack', WHERE WHAT IT READS IS OF BULK AT MOST 1048576: true; the input reads as it did. -/
def codeBackUptoRow : OpenClaim := { program := "ytbgaoehpljnolaa", sum := "53501f5caaa9d95d990618e5fb418dd485be2f65462652e949e7c6fc66bfe8d1", func := "scrivenry/scrivkeep.CodeBack", spec := "codeBack", apart := false, narrowed := true }
def CodeBackUptoSaid : Prop := codeBackUptoRow.holds Try.pinned (OpenSpec.upto codeBackSpec)

/-- 'scrivkeep.CodeOne', WHERE WHAT IT READS IS OF BULK AT MOST 1048576: true; the input reads as it did. -/
def codeOneUptoRow : OpenClaim := { program := "ytbgaoehpljnolaa", sum := "53501f5caaa9d95d990618e5fb418dd485be2f65462652e949e7c6fc66bfe8d1", func := "scrivenry/scrivkeep.CodeOne", spec := "codeOne", apart := false, narrowed := true }
def CodeOneUptoSaid : Prop := codeOneUptoRow.holds Try.pinned (OpenSpec.upto codeOneSpec)

end Rows
end Go.Proofs.Ytbgaoehpljnolaa
