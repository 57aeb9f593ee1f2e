/-
  No cell of these rows narrows 'for every input' (looked for: loops, veiled, ifaces, maps, wideKeys, modest, calm, conditions, laid).
  DERIVED. THE GIVEN ROWS OF THIS SEAT. 12 by the template 'for every input the law returns true; each argument reads behind the call as it read before'; 0 by the template 'total and deterministic' (their statements: YtcclcgapcnjcdaaTotals.lean).
  GIVEN WITH THE SEED: the statements are not yours to turn. If you find one false, say at which input.
  Laid BY PROGRAM, IN A SANDBOX (cutbox-rows.mjs): the forced cells as the released guide's own fill.sh prints them over the translation ba60597f9cbb70d1… (all of the seat's roots in one cut). By AI agents, Wed Nov 11 2026. No macro, syntax, notation, axiom, sorry.
-/
import Derived.Test.YtcclcgapcnjcdaaChecked
import GoSem.Claim
import GoSem.ClaimJoined
import GoSem.ClaimMapViews
import Derived.JoinedTies
import Derived.KernelRfl
namespace Go.Proofs.Ytcclcgapcnjcdaa
/- THE CELL 'sum', in the pinned program and in every row, IS THE sha256 OF THE DUMP (.gsa) THAT YtcclcgapcnjcdaaProg.lean LOADS. Nothing in Lean hashes anything: it is a label: what it is worth is what the hold of that sum in a sandbox is worth. -/
noncomputable def Try.pinned : Pinned := { name := "ytcclcgapcnjcdaa", sum := "ba60597f9cbb70d18251cbc083d2d7f4d9eec9dc042c2498451c4d0e7d3d97d6", checked := Try.checked }
namespace Rows
def none {H : Type} : Left H := { results := [], args := [] }

/-- 'scrivkeep.KeepMore': WHATEVER THE INPUT: true; the input reads as it did. -/
def keepMoreSpec : ChangeSpec := { name := "keepMore", fn := fun _ => fun
  | [d1, d2, d3, d4] => { results := [.lit (.bool true)], args := [d1, d2, d3, d4] }
  | _ => none }
def keepMoreRow : OpenClaim := { program := "ytcclcgapcnjcdaa", sum := "ba60597f9cbb70d18251cbc083d2d7f4d9eec9dc042c2498451c4d0e7d3d97d6", func := "scrivenry/scrivkeep.KeepMore", spec := "keepMore", unfollowed := true, recurses := true, apart := false }
def KeepMoreSaid : Prop := keepMoreRow.holds Try.pinned (OpenSpec.ofChange keepMoreSpec)

/-- ITS FALSE NEIGHBOUR: 'it returns false'. Refute it at one input. -/
def keepMoreWrong : ChangeSpec := { name := "keepMore", fn := fun _ => fun
  | [d1, d2, d3, d4] => { results := [.lit (.bool false)], args := [d1, d2, d3, d4] }
  | _ => none }
def KeepMoreWrongFalsely : Prop := keepMoreRow.holds Try.pinned (OpenSpec.ofChange keepMoreWrong)

/-- 'scrivkeep.FrameRows': WHATEVER THE INPUT: true; the input reads as it did. -/
def frameRowsSpec : ChangeSpec := { name := "frameRows", fn := fun _ => fun
  | [d1, d2, d3] => { results := [.lit (.bool true)], args := [d1, d2, d3] }
  | _ => none }
def frameRowsRow : OpenClaim := { program := "ytcclcgapcnjcdaa", sum := "ba60597f9cbb70d18251cbc083d2d7f4d9eec9dc042c2498451c4d0e7d3d97d6", func := "scrivenry/scrivkeep.FrameRows", spec := "frameRows", apart := false }
def FrameRowsSaid : Prop := frameRowsRow.holds Try.pinned (OpenSpec.ofChange frameRowsSpec)

/-- ITS FALSE NEIGHBOUR: 'it returns false'. Refute it at one input. -/
def frameRowsWrong : ChangeSpec := { name := "frameRows", fn := fun _ => fun
  | [d1, d2, d3] => { results := [.lit (.bool false)], args := [d1, d2, d3] }
  | _ => none }
def FrameRowsWrongFalsely : Prop := frameRowsRow.holds Try.pinned (OpenSpec.ofChange frameRowsWrong)

/-- 'scrivkeep.MeetApart': WHATEVER THE INPUT: true; the input reads as it did. -/
def meetApartSpec : ChangeSpec := { name := "meetApart", fn := fun _ => fun
  | [d1, d2] => { results := [.lit (.bool true)], args := [d1, d2] }
  | _ => none }
def meetApartRow : OpenClaim := { program := "ytcclcgapcnjcdaa", sum := "ba60597f9cbb70d18251cbc083d2d7f4d9eec9dc042c2498451c4d0e7d3d97d6", func := "scrivenry/scrivkeep.MeetApart", spec := "meetApart", unfollowed := true, recurses := true, apart := false }
def MeetApartSaid : Prop := meetApartRow.holds Try.pinned (OpenSpec.ofChange meetApartSpec)

/-- ITS FALSE NEIGHBOUR: 'it returns false'. Refute it at one input. -/
def meetApartWrong : ChangeSpec := { name := "meetApart", fn := fun _ => fun
  | [d1, d2] => { results := [.lit (.bool false)], args := [d1, d2] }
  | _ => none }
def MeetApartWrongFalsely : Prop := meetApartRow.holds Try.pinned (OpenSpec.ofChange meetApartWrong)

/-- 'scrivkeep.PartOwn': WHATEVER THE INPUT: true; the input reads as it did. -/
def partOwnSpec : ChangeSpec := { name := "partOwn", fn := fun _ => fun
  | [d1, d2] => { results := [.lit (.bool true)], args := [d1, d2] }
  | _ => none }
def partOwnRow : OpenClaim := { program := "ytcclcgapcnjcdaa", sum := "ba60597f9cbb70d18251cbc083d2d7f4d9eec9dc042c2498451c4d0e7d3d97d6", func := "scrivenry/scrivkeep.PartOwn", spec := "partOwn", apart := false }
def PartOwnSaid : Prop := partOwnRow.holds Try.pinned (OpenSpec.ofChange partOwnSpec)

/-- ITS FALSE NEIGHBOUR: 'it returns false'. Refute it at one input. -/
def partOwnWrong : ChangeSpec := { name := "partOwn", fn := fun _ => fun
  | [d1, d2] => { results := [.lit (.bool false)], args := [d1, d2] }
  | _ => none }
def PartOwnWrongFalsely : Prop := partOwnRow.holds Try.pinned (OpenSpec.ofChange partOwnWrong)

/-- 'scrivkeep.BlameEach': WHATEVER THE INPUT: true; the input reads as it did. -/
def blameEachSpec : ChangeSpec := { name := "blameEach", fn := fun _ => fun
  | [d1, d2] => { results := [.lit (.bool true)], args := [d1, d2] }
  | _ => none }
def blameEachRow : OpenClaim := { program := "ytcclcgapcnjcdaa", sum := "ba60597f9cbb70d18251cbc083d2d7f4d9eec9dc042c2498451c4d0e7d3d97d6", func := "scrivenry/scrivkeep.BlameEach", spec := "blameEach", inPlace := ["internal/abi.NoEscape"], apart := false }
def BlameEachSaid : Prop := blameEachRow.holds Try.pinned (OpenSpec.ofChange blameEachSpec)

/-- ITS FALSE NEIGHBOUR: 'it returns false'. Refute it at one input. -/
def blameEachWrong : ChangeSpec := { name := "blameEach", fn := fun _ => fun
  | [d1, d2] => { results := [.lit (.bool false)], args := [d1, d2] }
  | _ => none }
def BlameEachWrongFalsely : Prop := blameEachRow.holds Try.pinned (OpenSpec.ofChange blameEachWrong)

/-- 'scrivkeep.BlameParts': WHATEVER THE INPUT: true; the input reads as it did. -/
def blamePartsSpec : ChangeSpec := { name := "blameParts", fn := fun _ => fun
  | [d1, d2, d3] => { results := [.lit (.bool true)], args := [d1, d2, d3] }
  | _ => none }
def blamePartsRow : OpenClaim := { program := "ytcclcgapcnjcdaa", sum := "ba60597f9cbb70d18251cbc083d2d7f4d9eec9dc042c2498451c4d0e7d3d97d6", func := "scrivenry/scrivkeep.BlameParts", spec := "blameParts", inPlace := ["internal/abi.NoEscape"], apart := false }
def BlamePartsSaid : Prop := blamePartsRow.holds Try.pinned (OpenSpec.ofChange blamePartsSpec)

/-- ITS FALSE NEIGHBOUR: 'it returns false'. Refute it at one input. -/
def blamePartsWrong : ChangeSpec := { name := "blameParts", fn := fun _ => fun
  | [d1, d2, d3] => { results := [.lit (.bool false)], args := [d1, d2, d3] }
  | _ => none }
def BlamePartsWrongFalsely : Prop := blamePartsRow.holds Try.pinned (OpenSpec.ofChange blamePartsWrong)

/-- 'scrivkeep.DiffWays': WHATEVER THE INPUT: true; the input reads as it did. -/
def diffWaysSpec : ChangeSpec := { name := "diffWays", fn := fun _ => fun
  | [d1, d2, d3, d4, d5] => { results := [.lit (.bool true)], args := [d1, d2, d3, d4, d5] }
  | _ => none }
def diffWaysRow : OpenClaim := { program := "ytcclcgapcnjcdaa", sum := "ba60597f9cbb70d18251cbc083d2d7f4d9eec9dc042c2498451c4d0e7d3d97d6", func := "scrivenry/scrivkeep.DiffWays", spec := "diffWays", inPlace := ["internal/abi.NoEscape"], apart := false }
def DiffWaysSaid : Prop := diffWaysRow.holds Try.pinned (OpenSpec.ofChange diffWaysSpec)

/-- ITS FALSE NEIGHBOUR: 'it returns false'. Refute it at one input. -/
def diffWaysWrong : ChangeSpec := { name := "diffWays", fn := fun _ => fun
  | [d1, d2, d3, d4, d5] => { results := [.lit (.bool false)], args := [d1, d2, d3, d4, d5] }
  | _ => none }
def DiffWaysWrongFalsely : Prop := diffWaysRow.holds Try.pinned (OpenSpec.ofChange diffWaysWrong)

/-- 'scrivkeep.DiffBest': WHATEVER THE INPUT: true; the input reads as it did. -/
def diffBestSpec : ChangeSpec := { name := "diffBest", fn := fun _ => fun
  | [d1, d2] => { results := [.lit (.bool true)], args := [d1, d2] }
  | _ => none }
def diffBestRow : OpenClaim := { program := "ytcclcgapcnjcdaa", sum := "ba60597f9cbb70d18251cbc083d2d7f4d9eec9dc042c2498451c4d0e7d3d97d6", func := "scrivenry/scrivkeep.DiffBest", spec := "diffBest", inPlace := ["internal/abi.NoEscape"], apart := false }
def DiffBestSaid : Prop := diffBestRow.holds Try.pinned (OpenSpec.ofChange diffBestSpec)

/-- ITS FALSE NEIGHBOUR: 'it returns false'. Refute it at one input. -/
def diffBestWrong : ChangeSpec := { name := "diffBest", fn := fun _ => fun
  | [d1, d2] => { results := [.lit (.bool false)], args := [d1, d2] }
  | _ => none }
def DiffBestWrongFalsely : Prop := diffBestRow.holds Try.pinned (OpenSpec.ofChange diffBestWrong)

/-- 'scrivkeep.UndoLast': WHATEVER THE INPUT: true; the input reads as it did. -/
def undoLastSpec : ChangeSpec := { name := "undoLast", fn := fun _ => fun
  | [d1, d2] => { results := [.lit (.bool true)], args := [d1, d2] }
  | _ => none }
def undoLastRow : OpenClaim := { program := "ytcclcgapcnjcdaa", sum := "ba60597f9cbb70d18251cbc083d2d7f4d9eec9dc042c2498451c4d0e7d3d97d6", func := "scrivenry/scrivkeep.UndoLast", spec := "undoLast", inPlace := ["internal/abi.NoEscape"], apart := false }
def UndoLastSaid : Prop := undoLastRow.holds Try.pinned (OpenSpec.ofChange undoLastSpec)

/-- ITS FALSE NEIGHBOUR: 'it returns false'. Refute it at one input. -/
def undoLastWrong : ChangeSpec := { name := "undoLast", fn := fun _ => fun
  | [d1, d2] => { results := [.lit (.bool false)], args := [d1, d2] }
  | _ => none }
def UndoLastWrongFalsely : Prop := undoLastRow.holds Try.pinned (OpenSpec.ofChange undoLastWrong)

/-- 'scrivkeep.UndoPuts': WHATEVER THE INPUT: true; the input reads as it did. -/
def undoPutsSpec : ChangeSpec := { name := "undoPuts", fn := fun _ => fun
  | [d1, d2, d3] => { results := [.lit (.bool true)], args := [d1, d2, d3] }
  | _ => none }
def undoPutsRow : OpenClaim := { program := "ytcclcgapcnjcdaa", sum := "ba60597f9cbb70d18251cbc083d2d7f4d9eec9dc042c2498451c4d0e7d3d97d6", func := "scrivenry/scrivkeep.UndoPuts", spec := "undoPuts", inPlace := ["internal/abi.NoEscape"], apart := false }
def UndoPutsSaid : Prop := undoPutsRow.holds Try.pinned (OpenSpec.ofChange undoPutsSpec)

/-- ITS FALSE NEIGHBOUR: 'it returns false'. Refute it at one input. -/
def undoPutsWrong : ChangeSpec := { name := "undoPuts", fn := fun _ => fun
  | [d1, d2, d3] => { results := [.lit (.bool false)], args := [d1, d2, d3] }
  | _ => none }
def UndoPutsWrongFalsely : Prop := undoPutsRow.holds Try.pinned (OpenSpec.ofChange undoPutsWrong)

/-- 'scrivkeep.UndoIdle': WHATEVER THE INPUT: true; the input reads as it did. -/
def undoIdleSpec : ChangeSpec := { name := "undoIdle", fn := fun _ => fun
  | [d1, d2] => { results := [.lit (.bool true)], args := [d1, d2] }
  | _ => none }
def undoIdleRow : OpenClaim := { program := "ytcclcgapcnjcdaa", sum := "ba60597f9cbb70d18251cbc083d2d7f4d9eec9dc042c2498451c4d0e7d3d97d6", func := "scrivenry/scrivkeep.UndoIdle", spec := "undoIdle", inPlace := ["internal/abi.NoEscape"], apart := false }
def UndoIdleSaid : Prop := undoIdleRow.holds Try.pinned (OpenSpec.ofChange undoIdleSpec)

/-- ITS FALSE NEIGHBOUR: 'it returns false'. Refute it at one input. -/
def undoIdleWrong : ChangeSpec := { name := "undoIdle", fn := fun _ => fun
  | [d1, d2] => { results := [.lit (.bool false)], args := [d1, d2] }
  | _ => none }
def UndoIdleWrongFalsely : Prop := undoIdleRow.holds Try.pinned (OpenSpec.ofChange undoIdleWrong)

/-- 'scrivkeep.UndoOwn': WHATEVER THE INPUT: true; the input reads as it did. -/
def undoOwnSpec : ChangeSpec := { name := "undoOwn", fn := fun _ => fun
  | [d1, d2, d3] => { results := [.lit (.bool true)], args := [d1, d2, d3] }
  | _ => none }
def undoOwnRow : OpenClaim := { program := "ytcclcgapcnjcdaa", sum := "ba60597f9cbb70d18251cbc083d2d7f4d9eec9dc042c2498451c4d0e7d3d97d6", func := "scrivenry/scrivkeep.UndoOwn", spec := "undoOwn", inPlace := ["internal/abi.NoEscape"], apart := false }
def UndoOwnSaid : Prop := undoOwnRow.holds Try.pinned (OpenSpec.ofChange undoOwnSpec)

/-- ITS FALSE NEIGHBOUR: 'it returns false'. Refute it at one input. -/
def undoOwnWrong : ChangeSpec := { name := "undoOwn", fn := fun _ => fun
  | [d1, d2, d3] => { results := [.lit (.bool false)], args := [d1, d2, d3] }
  | _ => none }
def UndoOwnWrongFalsely : Prop := undoOwnRow.holds Try.pinned (OpenSpec.ofChange undoOwnWrong)

/- THE SECOND FORM. 'bulk': how many values and letters a reading holds, each counted each time it is reached (what is shared counts as often as it is met; a slice's spare places count too). A statement '..UptoSaid' is the law's where the arguments, and the package variables that the reading takes, are together of bulk at most 1048576: NARROWER than '..Said'. Prove '..Said' where nothing that the law and all that it calls make is longer than what came in: it says more and counts as full. Else prove '..UptoSaid'. A law counts once. -/
mutual
def uptoBulk {H : Type} : DataW H → Nat
  | .lit (.string bytes) => bytes.length + 1
  | .lit _ => 1
  | .nil => 1
  | .ptr d => uptoBulk d + 1
  | .slice elems spare => uptoBulkAll elems + uptoBulkAll spare + 1
  | .agg parts => uptoBulkAll parts + 1
  | .iface _ d => uptoBulk d + 1
  | .map entries => uptoBulkEntries entries + 1
  | .held _ => 1
def uptoBulkAll {H : Type} : List (DataW H) → Nat
  | [] => 0
  | d :: r => uptoBulk d + uptoBulkAll r
def uptoBulkEntries {H : Type} : List (Lit × DataW H) → Nat
  | [] => 0
  | x :: r => uptoBulkEntry x + uptoBulkEntries r
def uptoBulkEntry {H : Type} : Lit × DataW H → Nat
  | (.string bytes, d) => bytes.length + uptoBulk d + 1
  | (_, d) => uptoBulk d + 1
 end
def uptoSmall : (H : Type) → List (DataW H) → Bool := fun _ ds => decide (uptoBulkAll ds ≤ 1048576)
def OpenSpec.upto (s : _root_.Go.ChangeSpec) : _root_.Go.OpenSpec := { _root_.Go.OpenSpec.ofChange s with cond := some uptoSmall }

/-- 'scrivkeep.KeepMore', WHERE WHAT IT READS IS OF BULK AT MOST 1048576: true; the input reads as it did. -/
def keepMoreUptoRow : OpenClaim := { program := "ytcclcgapcnjcdaa", sum := "ba60597f9cbb70d18251cbc083d2d7f4d9eec9dc042c2498451c4d0e7d3d97d6", func := "scrivenry/scrivkeep.KeepMore", spec := "keepMore", unfollowed := true, recurses := true, apart := false, narrowed := true }
def KeepMoreUptoSaid : Prop := keepMoreUptoRow.holds Try.pinned (OpenSpec.upto keepMoreSpec)

/-- 'scrivkeep.FrameRows', WHERE WHAT IT READS IS OF BULK AT MOST 1048576: true; the input reads as it did. -/
def frameRowsUptoRow : OpenClaim := { program := "ytcclcgapcnjcdaa", sum := "ba60597f9cbb70d18251cbc083d2d7f4d9eec9dc042c2498451c4d0e7d3d97d6", func := "scrivenry/scrivkeep.FrameRows", spec := "frameRows", apart := false, narrowed := true }
def FrameRowsUptoSaid : Prop := frameRowsUptoRow.holds Try.pinned (OpenSpec.upto frameRowsSpec)

/-- 'scrivkeep.MeetApart', WHERE WHAT IT READS IS OF BULK AT MOST 1048576: true; the input reads as it did. -/
def meetApartUptoRow : OpenClaim := { program := "ytcclcgapcnjcdaa", sum := "ba60597f9cbb70d18251cbc083d2d7f4d9eec9dc042c2498451c4d0e7d3d97d6", func := "scrivenry/scrivkeep.MeetApart", spec := "meetApart", unfollowed := true, recurses := true, apart := false, narrowed := true }
def MeetApartUptoSaid : Prop := meetApartUptoRow.holds Try.pinned (OpenSpec.upto meetApartSpec)

/-- 'scrivkeep.PartOwn', WHERE WHAT IT READS IS OF BULK AT MOST 1048576: true; the input reads as it did. -/
def partOwnUptoRow : OpenClaim := { program := "ytcclcgapcnjcdaa", sum := "ba60597f9cbb70d18251cbc083d2d7f4d9eec9dc042c2498451c4d0e7d3d97d6", func := "scrivenry/scrivkeep.PartOwn", spec := "partOwn", apart := false, narrowed := true }
def PartOwnUptoSaid : Prop := partOwnUptoRow.holds Try.pinned (OpenSpec.upto partOwnSpec)

/-- 'scrivkeep.BlameEach', WHERE WHAT IT READS IS OF BULK AT MOST 1048576: true; the input reads as it did. -/
def blameEachUptoRow : OpenClaim := { program := "ytcclcgapcnjcdaa", sum := "ba60597f9cbb70d18251cbc083d2d7f4d9eec9dc042c2498451c4d0e7d3d97d6", func := "scrivenry/scrivkeep.BlameEach", spec := "blameEach", inPlace := ["internal/abi.NoEscape"], apart := false, narrowed := true }
def BlameEachUptoSaid : Prop := blameEachUptoRow.holds Try.pinned (OpenSpec.upto blameEachSpec)

/-- 'scrivkeep.BlameParts', WHERE WHAT IT READS IS OF BULK AT MOST 1048576: true; the input reads as it did. -/
def blamePartsUptoRow : OpenClaim := { program := "ytcclcgapcnjcdaa", sum := "ba60597f9cbb70d18251cbc083d2d7f4d9eec9dc042c2498451c4d0e7d3d97d6", func := "scrivenry/scrivkeep.BlameParts", spec := "blameParts", inPlace := ["internal/abi.NoEscape"], apart := false, narrowed := true }
def BlamePartsUptoSaid : Prop := blamePartsUptoRow.holds Try.pinned (OpenSpec.upto blamePartsSpec)

/-- 'scrivkeep.DiffWays', WHERE WHAT IT READS IS OF BULK AT MOST 1048576: true; the input reads as it did. -/
def diffWaysUptoRow : OpenClaim := { program := "ytcclcgapcnjcdaa", sum := "ba60597f9cbb70d18251cbc083d2d7f4d9eec9dc042c2498451c4d0e7d3d97d6", func := "scrivenry/scrivkeep.DiffWays", spec := "diffWays", inPlace := ["internal/abi.NoEscape"], apart := false, narrowed := true }
def DiffWaysUptoSaid : Prop := diffWaysUptoRow.holds Try.pinned (OpenSpec.upto diffWaysSpec)

/-- 'scrivkeep.DiffBest', WHERE WHAT IT READS IS OF BULK AT MOST 1048576: true; the input reads as it did. -/
def diffBestUptoRow : OpenClaim := { program := "ytcclcgapcnjcdaa", sum := "ba60597f9cbb70d18251cbc083d2d7f4d9eec9dc042c2498451c4d0e7d3d97d6", func := "scrivenry/scrivkeep.DiffBest", spec := "diffBest", inPlace := ["internal/abi.NoEscape"], apart := false, narrowed := true }
def DiffBestUptoSaid : Prop := diffBestUptoRow.holds Try.pinned (OpenSpec.upto diffBestSpec)

/-- 'scrivkeep.UndoLast', WHERE WHAT IT READS IS OF BULK AT MOST 1048576: true; the input reads as it did. -/
def undoLastUptoRow : OpenClaim := { program := "ytcclcgapcnjcdaa", sum := "ba60597f9cbb70d18251cbc083d2d7f4d9eec9dc042c2498451c4d0e7d3d97d6", func := "scrivenry/scrivkeep.UndoLast", spec := "undoLast", inPlace := ["internal/abi.NoEscape"], apart := false, narrowed := true }
def UndoLastUptoSaid : Prop := undoLastUptoRow.holds Try.pinned (OpenSpec.upto undoLastSpec)

/-- 'scrivkeep.UndoPuts', WHERE WHAT IT READS IS OF BULK AT MOST 1048576: true; the input reads as it did. -/
def undoPutsUptoRow : OpenClaim := { program := "ytcclcgapcnjcdaa", sum := "ba60597f9cbb70d18251cbc083d2d7f4d9eec9dc042c2498451c4d0e7d3d97d6", func := "scrivenry/scrivkeep.UndoPuts", spec := "undoPuts", inPlace := ["internal/abi.NoEscape"], apart := false, narrowed := true }
def UndoPutsUptoSaid : Prop := undoPutsUptoRow.holds Try.pinned (OpenSpec.upto undoPutsSpec)

/-- 'scrivkeep.UndoIdle', WHERE WHAT IT READS IS OF BULK AT MOST 1048576: true; the input reads as it did. -/
def undoIdleUptoRow : OpenClaim := { program := "ytcclcgapcnjcdaa", sum := "ba60597f9cbb70d18251cbc083d2d7f4d9eec9dc042c2498451c4d0e7d3d97d6", func := "scrivenry/scrivkeep.UndoIdle", spec := "undoIdle", inPlace := ["internal/abi.NoEscape"], apart := false, narrowed := true }
def UndoIdleUptoSaid : Prop := undoIdleUptoRow.holds Try.pinned (OpenSpec.upto undoIdleSpec)

/-- 'scrivkeep.UndoOwn', WHERE WHAT IT READS IS OF BULK AT MOST 1048576: true; the input reads as it did. -/
def undoOwnUptoRow : OpenClaim := { program := "ytcclcgapcnjcdaa", sum := "ba60597f9cbb70d18251cbc083d2d7f4d9eec9dc042c2498451c4d0e7d3d97d6", func := "scrivenry/scrivkeep.UndoOwn", spec := "undoOwn", inPlace := ["internal/abi.NoEscape"], apart := false, narrowed := true }
def UndoOwnUptoSaid : Prop := undoOwnUptoRow.holds Try.pinned (OpenSpec.upto undoOwnSpec)

end Rows
end Go.Proofs.Ytcclcgapcnjcdaa
