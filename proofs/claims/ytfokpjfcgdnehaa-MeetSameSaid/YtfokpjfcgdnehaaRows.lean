/-
  No cell of these rows narrows 'for every input' (looked for: loops, veiled, ifaces, maps, wideKeys, modest, calm, conditions, laid).
  DERIVED. THE GIVEN ROWS OF THIS SEAT. 6 by the template 'for every input the law returns true; each argument reads behind the call as it read before'; 0 by the template 'total and deterministic' (their statements: YtfokpjfcgdnehaaTotals.lean).
  GIVEN WITH THE SEED: the statements are not yours to turn. If you find one false, say at which input.
  Laid BY PROGRAM, IN A SANDBOX (cutbox-rows.mjs): the forced cells as the released guide's own fill.sh prints them over the translation c1c6a2359c30bdfb… (all of the seat's roots in one cut). By AI agents, Wed Nov 11 2026. No macro, syntax, notation, axiom, sorry.
-/
import Derived.Test.YtfokpjfcgdnehaaChecked
import GoSem.Claim
import GoSem.ClaimJoined
import GoSem.ClaimMapViews
import Derived.JoinedTies
import Derived.KernelRfl
namespace Go.Proofs.Ytfokpjfcgdnehaa
/- THE CELL 'sum', in the pinned program and in every row, IS THE sha256 OF THE DUMP (.gsa) THAT YtfokpjfcgdnehaaProg.lean LOADS. Nothing in Lean hashes anything: it is a label: what it is worth is what the hold of that sum in a sandbox is worth. -/
noncomputable def Try.pinned : Pinned := { name := "ytfokpjfcgdnehaa", sum := "c1c6a2359c30bdfb7e305bdd31a992f8bb310e60a01b89bb84dcacd924ea2820", checked := Try.checked }
namespace Rows
def none {H : Type} : Left H := { results := [], args := [] }

/-- 'scrivkeep.DiffWays': WHATEVER THE INPUT: true; the input reads as it did. -/
def diffWaysSpec : ChangeSpec := { name := "diffWays", fn := fun _ => fun
  | [d1, d2, d3, d4, d5] => { results := [.lit (.bool true)], args := [d1, d2, d3, d4, d5] }
  | _ => none }
def diffWaysRow : OpenClaim := { program := "ytfokpjfcgdnehaa", sum := "c1c6a2359c30bdfb7e305bdd31a992f8bb310e60a01b89bb84dcacd924ea2820", func := "scrivenry/scrivkeep.DiffWays", spec := "diffWays", inPlace := ["internal/abi.NoEscape"], apart := false }
def DiffWaysSaid : Prop := diffWaysRow.holds Try.pinned (OpenSpec.ofChange diffWaysSpec)

/-- ITS FALSE NEIGHBOUR: 'it returns false'. Refute it at one input. -/
def diffWaysWrong : ChangeSpec := { name := "diffWays", fn := fun _ => fun
  | [d1, d2, d3, d4, d5] => { results := [.lit (.bool false)], args := [d1, d2, d3, d4, d5] }
  | _ => none }
def DiffWaysWrongFalsely : Prop := diffWaysRow.holds Try.pinned (OpenSpec.ofChange diffWaysWrong)

/-- 'scrivkeep.DiffBest': WHATEVER THE INPUT: true; the input reads as it did. -/
def diffBestSpec : ChangeSpec := { name := "diffBest", fn := fun _ => fun
  | [d1, d2] => { results := [.lit (.bool true)], args := [d1, d2] }
  | _ => none }
def diffBestRow : OpenClaim := { program := "ytfokpjfcgdnehaa", sum := "c1c6a2359c30bdfb7e305bdd31a992f8bb310e60a01b89bb84dcacd924ea2820", func := "scrivenry/scrivkeep.DiffBest", spec := "diffBest", inPlace := ["internal/abi.NoEscape"], apart := false }
def DiffBestSaid : Prop := diffBestRow.holds Try.pinned (OpenSpec.ofChange diffBestSpec)

/-- ITS FALSE NEIGHBOUR: 'it returns false'. Refute it at one input. -/
def diffBestWrong : ChangeSpec := { name := "diffBest", fn := fun _ => fun
  | [d1, d2] => { results := [.lit (.bool false)], args := [d1, d2] }
  | _ => none }
def DiffBestWrongFalsely : Prop := diffBestRow.holds Try.pinned (OpenSpec.ofChange diffBestWrong)

/-- 'scrivkeep.BlameEach': WHATEVER THE INPUT: true; the input reads as it did. -/
def blameEachSpec : ChangeSpec := { name := "blameEach", fn := fun _ => fun
  | [d1, d2] => { results := [.lit (.bool true)], args := [d1, d2] }
  | _ => none }
def blameEachRow : OpenClaim := { program := "ytfokpjfcgdnehaa", sum := "c1c6a2359c30bdfb7e305bdd31a992f8bb310e60a01b89bb84dcacd924ea2820", func := "scrivenry/scrivkeep.BlameEach", spec := "blameEach", inPlace := ["internal/abi.NoEscape"], apart := false }
def BlameEachSaid : Prop := blameEachRow.holds Try.pinned (OpenSpec.ofChange blameEachSpec)

/-- ITS FALSE NEIGHBOUR: 'it returns false'. Refute it at one input. -/
def blameEachWrong : ChangeSpec := { name := "blameEach", fn := fun _ => fun
  | [d1, d2] => { results := [.lit (.bool false)], args := [d1, d2] }
  | _ => none }
def BlameEachWrongFalsely : Prop := blameEachRow.holds Try.pinned (OpenSpec.ofChange blameEachWrong)

/-- 'scrivkeep.BlameParts': WHATEVER THE INPUT: true; the input reads as it did. -/
def blamePartsSpec : ChangeSpec := { name := "blameParts", fn := fun _ => fun
  | [d1, d2, d3] => { results := [.lit (.bool true)], args := [d1, d2, d3] }
  | _ => none }
def blamePartsRow : OpenClaim := { program := "ytfokpjfcgdnehaa", sum := "c1c6a2359c30bdfb7e305bdd31a992f8bb310e60a01b89bb84dcacd924ea2820", func := "scrivenry/scrivkeep.BlameParts", spec := "blameParts", inPlace := ["internal/abi.NoEscape"], apart := false }
def BlamePartsSaid : Prop := blamePartsRow.holds Try.pinned (OpenSpec.ofChange blamePartsSpec)

/-- ITS FALSE NEIGHBOUR: 'it returns false'. Refute it at one input. -/
def blamePartsWrong : ChangeSpec := { name := "blameParts", fn := fun _ => fun
  | [d1, d2, d3] => { results := [.lit (.bool false)], args := [d1, d2, d3] }
  | _ => none }
def BlamePartsWrongFalsely : Prop := blamePartsRow.holds Try.pinned (OpenSpec.ofChange blamePartsWrong)

/-- 'scrivkeep.PartOwn': WHATEVER THE INPUT: true; the input reads as it did. -/
def partOwnSpec : ChangeSpec := { name := "partOwn", fn := fun _ => fun
  | [d1, d2] => { results := [.lit (.bool true)], args := [d1, d2] }
  | _ => none }
def partOwnRow : OpenClaim := { program := "ytfokpjfcgdnehaa", sum := "c1c6a2359c30bdfb7e305bdd31a992f8bb310e60a01b89bb84dcacd924ea2820", func := "scrivenry/scrivkeep.PartOwn", spec := "partOwn", apart := false }
def PartOwnSaid : Prop := partOwnRow.holds Try.pinned (OpenSpec.ofChange partOwnSpec)

/-- ITS FALSE NEIGHBOUR: 'it returns false'. Refute it at one input. -/
def partOwnWrong : ChangeSpec := { name := "partOwn", fn := fun _ => fun
  | [d1, d2] => { results := [.lit (.bool false)], args := [d1, d2] }
  | _ => none }
def PartOwnWrongFalsely : Prop := partOwnRow.holds Try.pinned (OpenSpec.ofChange partOwnWrong)

/-- 'scrivkeep.MeetSame': WHATEVER THE INPUT: true; the input reads as it did. -/
def meetSameSpec : ChangeSpec := { name := "meetSame", fn := fun _ => fun
  | [d1, d2, d3] => { results := [.lit (.bool true)], args := [d1, d2, d3] }
  | _ => none }
def meetSameRow : OpenClaim := { program := "ytfokpjfcgdnehaa", sum := "c1c6a2359c30bdfb7e305bdd31a992f8bb310e60a01b89bb84dcacd924ea2820", func := "scrivenry/scrivkeep.MeetSame", spec := "meetSame", inPlace := ["internal/abi.NoEscape"], apart := false }
def MeetSameSaid : Prop := meetSameRow.holds Try.pinned (OpenSpec.ofChange meetSameSpec)

/-- ITS FALSE NEIGHBOUR: 'it returns false'. Refute it at one input. -/
def meetSameWrong : ChangeSpec := { name := "meetSame", fn := fun _ => fun
  | [d1, d2, d3] => { results := [.lit (.bool false)], args := [d1, d2, d3] }
  | _ => none }
def MeetSameWrongFalsely : Prop := meetSameRow.holds Try.pinned (OpenSpec.ofChange meetSameWrong)

/- THE SECOND FORM. 'bulk': how many values and letters a reading holds, each counted each time it is reached (what is shared counts as often as it is met; a slice's spare places count too). A statement '..UptoSaid' is the law's where the arguments, and the package variables that the reading takes, are together of bulk at most 1048576: NARROWER than '..Said'. Prove '..Said' where nothing that the law and all that it calls make is longer than what came in: it says more and counts as full. Else prove '..UptoSaid'. A law counts once. -/
mutual
def uptoBulk {H : Type} : DataW H → Nat
  | .lit (.string bytes) => bytes.length + 1
  | .lit _ => 1
  | .nil => 1
  | .ptr d => uptoBulk d + 1
  | .slice elems spare => uptoBulkAll elems + uptoBulkAll spare + 1
  | .agg parts => uptoBulkAll parts + 1
  | .iface _ d => uptoBulk d + 1
  | .map entries => uptoBulkEntries entries + 1
  | .held _ => 1
def uptoBulkAll {H : Type} : List (DataW H) → Nat
  | [] => 0
  | d :: r => uptoBulk d + uptoBulkAll r
def uptoBulkEntries {H : Type} : List (Lit × DataW H) → Nat
  | [] => 0
  | x :: r => uptoBulkEntry x + uptoBulkEntries r
def uptoBulkEntry {H : Type} : Lit × DataW H → Nat
  | (.string bytes, d) => bytes.length + uptoBulk d + 1
  | (_, d) => uptoBulk d + 1
 end
def uptoSmall : (H : Type) → List (DataW H) → Bool := fun _ ds => decide (uptoBulkAll ds ≤ 1048576)
def OpenSpec.upto (s : _root_.Go.ChangeSpec) : _root_.Go.OpenSpec := { _root_.Go.OpenSpec.ofChange s with cond := some uptoSmall }

/-- 'scrivkeep.DiffWays', WHERE WHAT IT READS IS OF BULK AT MOST 1048576: true; the input reads as it did. -/
def diffWaysUptoRow : OpenClaim := { program := "ytfokpjfcgdnehaa", sum := "c1c6a2359c30bdfb7e305bdd31a992f8bb310e60a01b89bb84dcacd924ea2820", func := "scrivenry/scrivkeep.DiffWays", spec := "diffWays", inPlace := ["internal/abi.NoEscape"], apart := false, narrowed := true }
def DiffWaysUptoSaid : Prop := diffWaysUptoRow.holds Try.pinned (OpenSpec.upto diffWaysSpec)

/-- 'scrivkeep.DiffBest', WHERE WHAT IT READS IS OF BULK AT MOST 1048576: true; the input reads as it did. -/
def diffBestUptoRow : OpenClaim := { program := "ytfokpjfcgdnehaa", sum := "c1c6a2359c30bdfb7e305bdd31a992f8bb310e60a01b89bb84dcacd924ea2820", func := "scrivenry/scrivkeep.DiffBest", spec := "diffBest", inPlace := ["internal/abi.NoEscape"], apart := false, narrowed := true }
def DiffBestUptoSaid : Prop := diffBestUptoRow.holds Try.pinned (OpenSpec.upto diffBestSpec)

/-- 'scrivkeep.BlameEach', WHERE WHAT IT READS IS OF BULK AT MOST 1048576: true; the input reads as it did. -/
def blameEachUptoRow : OpenClaim := { program := "ytfokpjfcgdnehaa", sum := "c1c6a2359c30bdfb7e305bdd31a992f8bb310e60a01b89bb84dcacd924ea2820", func := "scrivenry/scrivkeep.BlameEach", spec := "blameEach", inPlace := ["internal/abi.NoEscape"], apart := false, narrowed := true }
def BlameEachUptoSaid : Prop := blameEachUptoRow.holds Try.pinned (OpenSpec.upto blameEachSpec)

/-- 'scrivkeep.BlameParts', WHERE WHAT IT READS IS OF BULK AT MOST 1048576: true; the input reads as it did. -/
def blamePartsUptoRow : OpenClaim := { program := "ytfokpjfcgdnehaa", sum := "c1c6a2359c30bdfb7e305bdd31a992f8bb310e60a01b89bb84dcacd924ea2820", func := "scrivenry/scrivkeep.BlameParts", spec := "blameParts", inPlace := ["internal/abi.NoEscape"], apart := false, narrowed := true }
def BlamePartsUptoSaid : Prop := blamePartsUptoRow.holds Try.pinned (OpenSpec.upto blamePartsSpec)

/-- 'scrivkeep.PartOwn', WHERE WHAT IT READS IS OF BULK AT MOST 1048576: true; the input reads as it did. -/
def partOwnUptoRow : OpenClaim := { program := "ytfokpjfcgdnehaa", sum := "c1c6a2359c30bdfb7e305bdd31a992f8bb310e60a01b89bb84dcacd924ea2820", func := "scrivenry/scrivkeep.PartOwn", spec := "partOwn", apart := false, narrowed := true }
def PartOwnUptoSaid : Prop := partOwnUptoRow.holds Try.pinned (OpenSpec.upto partOwnSpec)

/-- 'scrivkeep.MeetSame', WHERE WHAT IT READS IS OF BULK AT MOST 1048576: true; the input reads as it did. -/
def meetSameUptoRow : OpenClaim := { program := "ytfokpjfcgdnehaa", sum := "c1c6a2359c30bdfb7e305bdd31a992f8bb310e60a01b89bb84dcacd924ea2820", func := "scrivenry/scrivkeep.MeetSame", spec := "meetSame", inPlace := ["internal/abi.NoEscape"], apart := false, narrowed := true }
def MeetSameUptoSaid : Prop := meetSameUptoRow.holds Try.pinned (OpenSpec.upto meetSameSpec)

end Rows
end Go.Proofs.Ytfokpjfcgdnehaa
