/-
  No cell of these rows narrows 'for every input' (looked for: loops, veiled, ifaces, maps, wideKeys, modest, calm, conditions, laid).
  DERIVED. THE GIVEN ROWS OF THIS SEAT. 12 by the template 'for every input the law returns true; each argument reads behind the call as it read before'; 0 by the template 'total and deterministic' (their statements: YtokngfinnieccaaTotals.lean).
  GIVEN WITH THE SEED: the statements are not yours to turn. If you find one false, say at which input.
  Laid BY PROGRAM, IN A SANDBOX (cutbox-rows.mjs): the forced cells as the released guide's own fill.sh prints them over the translation b93de402f3c80e54… (all of the seat's roots in one cut). By AI agents, Wed Nov 11 2026. No macro, syntax, notation, axiom, sorry.
-/
import Derived.Test.YtokngfinnieccaaChecked
import GoSem.Claim
import GoSem.ClaimJoined
import GoSem.ClaimMapViews
import Derived.JoinedTies
import Derived.KernelRfl
namespace Go.Proofs.Ytokngfinnieccaa
/- THE CELL 'sum', in the pinned program and in every row, IS THE sha256 OF THE DUMP (.gsa) THAT YtokngfinnieccaaProg.lean LOADS. Nothing in Lean hashes anything: it is a label: what it is worth is what the hold of that sum in a sandbox is worth. -/
noncomputable def Try.pinned : Pinned := { name := "ytokngfinnieccaa", sum := "b93de402f3c80e54f0044aa2cc21764e6b2c8a5f6bcdf082f3618dff4a77e581", checked := Try.checked }
namespace Rows
def none {H : Type} : Left H := { results := [], args := [] }

/-- 'scrivtop.TopDiff': WHATEVER THE INPUT: true; the input reads as it did. -/
def topDiffSpec : ChangeSpec := { name := "topDiff", fn := fun _ => fun
  | [d] => { results := [.lit (.bool true)], args := [d] }
  | _ => none }
def topDiffRow : OpenClaim := { program := "ytokngfinnieccaa", sum := "b93de402f3c80e54f0044aa2cc21764e6b2c8a5f6bcdf082f3618dff4a77e581", func := "scrivenry/scrivtop.TopDiff", spec := "topDiff", inPlace := ["internal/abi.NoEscape"], apart := false }
def TopDiffSaid : Prop := topDiffRow.holds Try.pinned (OpenSpec.ofChange topDiffSpec)

/-- ITS FALSE NEIGHBOUR: 'it returns false'. Refute it at one input. -/
def topDiffWrong : ChangeSpec := { name := "topDiff", fn := fun _ => fun
  | [d] => { results := [.lit (.bool false)], args := [d] }
  | _ => none }
def TopDiffWrongFalsely : Prop := topDiffRow.holds Try.pinned (OpenSpec.ofChange topDiffWrong)

/-- 'scrivtop.TopCrowd': WHATEVER THE INPUT: true; the input reads as it did. -/
def topCrowdSpec : ChangeSpec := { name := "topCrowd", fn := fun _ => fun
  | [d1, d2, d3] => { results := [.lit (.bool true)], args := [d1, d2, d3] }
  | _ => none }
def topCrowdRow : OpenClaim := { program := "ytokngfinnieccaa", sum := "b93de402f3c80e54f0044aa2cc21764e6b2c8a5f6bcdf082f3618dff4a77e581", func := "scrivenry/scrivtop.TopCrowd", spec := "topCrowd", inPlace := ["internal/abi.NoEscape"], apart := false }
def TopCrowdSaid : Prop := topCrowdRow.holds Try.pinned (OpenSpec.ofChange topCrowdSpec)

/-- ITS FALSE NEIGHBOUR: 'it returns false'. Refute it at one input. -/
def topCrowdWrong : ChangeSpec := { name := "topCrowd", fn := fun _ => fun
  | [d1, d2, d3] => { results := [.lit (.bool false)], args := [d1, d2, d3] }
  | _ => none }
def TopCrowdWrongFalsely : Prop := topCrowdRow.holds Try.pinned (OpenSpec.ofChange topCrowdWrong)

/-- 'scrivkeep.ShopSafe': WHATEVER THE INPUT: true; the input reads as it did. -/
def shopSafeSpec : ChangeSpec := { name := "shopSafe", fn := fun _ => fun
  | [d1, d2, d3, d4, d5, d6, d7] => { results := [.lit (.bool true)], args := [d1, d2, d3, d4, d5, d6, d7] }
  | _ => none }
def shopSafeRow : OpenClaim := { program := "ytokngfinnieccaa", sum := "b93de402f3c80e54f0044aa2cc21764e6b2c8a5f6bcdf082f3618dff4a77e581", func := "scrivenry/scrivkeep.ShopSafe", spec := "shopSafe", inPlace := ["internal/abi.NoEscape"], apart := false }
def ShopSafeSaid : Prop := shopSafeRow.holds Try.pinned (OpenSpec.ofChange shopSafeSpec)

/-- ITS FALSE NEIGHBOUR: 'it returns false'. Refute it at one input. -/
def shopSafeWrong : ChangeSpec := { name := "shopSafe", fn := fun _ => fun
  | [d1, d2, d3, d4, d5, d6, d7] => { results := [.lit (.bool false)], args := [d1, d2, d3, d4, d5, d6, d7] }
  | _ => none }
def ShopSafeWrongFalsely : Prop := shopSafeRow.holds Try.pinned (OpenSpec.ofChange shopSafeWrong)

/-- 'scrivkeep.ShopHands': WHATEVER THE INPUT: true; the input reads as it did. -/
def shopHandsSpec : ChangeSpec := { name := "shopHands", fn := fun _ => fun
  | [d1, d2] => { results := [.lit (.bool true)], args := [d1, d2] }
  | _ => none }
def shopHandsRow : OpenClaim := { program := "ytokngfinnieccaa", sum := "b93de402f3c80e54f0044aa2cc21764e6b2c8a5f6bcdf082f3618dff4a77e581", func := "scrivenry/scrivkeep.ShopHands", spec := "shopHands", inPlace := ["internal/abi.NoEscape"], apart := false }
def ShopHandsSaid : Prop := shopHandsRow.holds Try.pinned (OpenSpec.ofChange shopHandsSpec)

/-- ITS FALSE NEIGHBOUR: 'it returns false'. Refute it at one input. -/
def shopHandsWrong : ChangeSpec := { name := "shopHands", fn := fun _ => fun
  | [d1, d2] => { results := [.lit (.bool false)], args := [d1, d2] }
  | _ => none }
def ShopHandsWrongFalsely : Prop := shopHandsRow.holds Try.pinned (OpenSpec.ofChange shopHandsWrong)

/-- 'scrivkeep.ServeOnce': WHATEVER THE INPUT: true; the input reads as it did. -/
def serveOnceSpec : ChangeSpec := { name := "serveOnce", fn := fun _ => fun
  | [d1, d2] => { results := [.lit (.bool true)], args := [d1, d2] }
  | _ => none }
def serveOnceRow : OpenClaim := { program := "ytokngfinnieccaa", sum := "b93de402f3c80e54f0044aa2cc21764e6b2c8a5f6bcdf082f3618dff4a77e581", func := "scrivenry/scrivkeep.ServeOnce", spec := "serveOnce", inPlace := ["internal/abi.NoEscape"], apart := false }
def ServeOnceSaid : Prop := serveOnceRow.holds Try.pinned (OpenSpec.ofChange serveOnceSpec)

/-- ITS FALSE NEIGHBOUR: 'it returns false'. Refute it at one input. -/
def serveOnceWrong : ChangeSpec := { name := "serveOnce", fn := fun _ => fun
  | [d1, d2] => { results := [.lit (.bool false)], args := [d1, d2] }
  | _ => none }
def ServeOnceWrongFalsely : Prop := serveOnceRow.holds Try.pinned (OpenSpec.ofChange serveOnceWrong)

/-- 'scrivkeep.WorldNumbers': WHATEVER THE INPUT: true; the input reads as it did. -/
def worldNumbersSpec : ChangeSpec := { name := "worldNumbers", fn := fun _ => fun
  | [d1, d2, d3] => { results := [.lit (.bool true)], args := [d1, d2, d3] }
  | _ => none }
def worldNumbersRow : OpenClaim := { program := "ytokngfinnieccaa", sum := "b93de402f3c80e54f0044aa2cc21764e6b2c8a5f6bcdf082f3618dff4a77e581", func := "scrivenry/scrivkeep.WorldNumbers", spec := "worldNumbers", inPlace := ["internal/abi.NoEscape"], apart := false }
def WorldNumbersSaid : Prop := worldNumbersRow.holds Try.pinned (OpenSpec.ofChange worldNumbersSpec)

/-- ITS FALSE NEIGHBOUR: 'it returns false'. Refute it at one input. -/
def worldNumbersWrong : ChangeSpec := { name := "worldNumbers", fn := fun _ => fun
  | [d1, d2, d3] => { results := [.lit (.bool false)], args := [d1, d2, d3] }
  | _ => none }
def WorldNumbersWrongFalsely : Prop := worldNumbersRow.holds Try.pinned (OpenSpec.ofChange worldNumbersWrong)

/-- 'scrivkeep.WorldHolds': WHATEVER THE INPUT: true; the input reads as it did. -/
def worldHoldsSpec : ChangeSpec := { name := "worldHolds", fn := fun _ => fun
  | [d1, d2, d3] => { results := [.lit (.bool true)], args := [d1, d2, d3] }
  | _ => none }
def worldHoldsRow : OpenClaim := { program := "ytokngfinnieccaa", sum := "b93de402f3c80e54f0044aa2cc21764e6b2c8a5f6bcdf082f3618dff4a77e581", func := "scrivenry/scrivkeep.WorldHolds", spec := "worldHolds", inPlace := ["internal/abi.NoEscape"], apart := false }
def WorldHoldsSaid : Prop := worldHoldsRow.holds Try.pinned (OpenSpec.ofChange worldHoldsSpec)

/-- ITS FALSE NEIGHBOUR: 'it returns false'. Refute it at one input. -/
def worldHoldsWrong : ChangeSpec := { name := "worldHolds", fn := fun _ => fun
  | [d1, d2, d3] => { results := [.lit (.bool false)], args := [d1, d2, d3] }
  | _ => none }
def WorldHoldsWrongFalsely : Prop := worldHoldsRow.holds Try.pinned (OpenSpec.ofChange worldHoldsWrong)

/-- 'scrivkeep.WorldBytes': WHATEVER THE INPUT: true; the input reads as it did. -/
def worldBytesSpec : ChangeSpec := { name := "worldBytes", fn := fun _ => fun
  | [d1, d2, d3] => { results := [.lit (.bool true)], args := [d1, d2, d3] }
  | _ => none }
def worldBytesRow : OpenClaim := { program := "ytokngfinnieccaa", sum := "b93de402f3c80e54f0044aa2cc21764e6b2c8a5f6bcdf082f3618dff4a77e581", func := "scrivenry/scrivkeep.WorldBytes", spec := "worldBytes", inPlace := ["internal/abi.NoEscape"], apart := false }
def WorldBytesSaid : Prop := worldBytesRow.holds Try.pinned (OpenSpec.ofChange worldBytesSpec)

/-- ITS FALSE NEIGHBOUR: 'it returns false'. Refute it at one input. -/
def worldBytesWrong : ChangeSpec := { name := "worldBytes", fn := fun _ => fun
  | [d1, d2, d3] => { results := [.lit (.bool false)], args := [d1, d2, d3] }
  | _ => none }
def WorldBytesWrongFalsely : Prop := worldBytesRow.holds Try.pinned (OpenSpec.ofChange worldBytesWrong)

/-- 'scrivkeep.WorldAlone': WHATEVER THE INPUT: true; the input reads as it did. -/
def worldAloneSpec : ChangeSpec := { name := "worldAlone", fn := fun _ => fun
  | [d1, d2] => { results := [.lit (.bool true)], args := [d1, d2] }
  | _ => none }
def worldAloneRow : OpenClaim := { program := "ytokngfinnieccaa", sum := "b93de402f3c80e54f0044aa2cc21764e6b2c8a5f6bcdf082f3618dff4a77e581", func := "scrivenry/scrivkeep.WorldAlone", spec := "worldAlone", inPlace := ["internal/abi.NoEscape"], apart := false }
def WorldAloneSaid : Prop := worldAloneRow.holds Try.pinned (OpenSpec.ofChange worldAloneSpec)

/-- ITS FALSE NEIGHBOUR: 'it returns false'. Refute it at one input. -/
def worldAloneWrong : ChangeSpec := { name := "worldAlone", fn := fun _ => fun
  | [d1, d2] => { results := [.lit (.bool false)], args := [d1, d2] }
  | _ => none }
def WorldAloneWrongFalsely : Prop := worldAloneRow.holds Try.pinned (OpenSpec.ofChange worldAloneWrong)

/-- 'scrivkeep.WorldMeets': WHATEVER THE INPUT: true; the input reads as it did. -/
def worldMeetsSpec : ChangeSpec := { name := "worldMeets", fn := fun _ => fun
  | [d1, d2, d3] => { results := [.lit (.bool true)], args := [d1, d2, d3] }
  | _ => none }
def worldMeetsRow : OpenClaim := { program := "ytokngfinnieccaa", sum := "b93de402f3c80e54f0044aa2cc21764e6b2c8a5f6bcdf082f3618dff4a77e581", func := "scrivenry/scrivkeep.WorldMeets", spec := "worldMeets", inPlace := ["internal/abi.NoEscape"], apart := false }
def WorldMeetsSaid : Prop := worldMeetsRow.holds Try.pinned (OpenSpec.ofChange worldMeetsSpec)

/-- ITS FALSE NEIGHBOUR: 'it returns false'. Refute it at one input. -/
def worldMeetsWrong : ChangeSpec := { name := "worldMeets", fn := fun _ => fun
  | [d1, d2, d3] => { results := [.lit (.bool false)], args := [d1, d2, d3] }
  | _ => none }
def WorldMeetsWrongFalsely : Prop := worldMeetsRow.holds Try.pinned (OpenSpec.ofChange worldMeetsWrong)

/-- 'scrivkeep.WorldOwn': WHATEVER THE INPUT: true; the input reads as it did. -/
def worldOwnSpec : ChangeSpec := { name := "worldOwn", fn := fun _ => fun
  | [d1, d2] => { results := [.lit (.bool true)], args := [d1, d2] }
  | _ => none }
def worldOwnRow : OpenClaim := { program := "ytokngfinnieccaa", sum := "b93de402f3c80e54f0044aa2cc21764e6b2c8a5f6bcdf082f3618dff4a77e581", func := "scrivenry/scrivkeep.WorldOwn", spec := "worldOwn", inPlace := ["internal/abi.NoEscape"], unfollowed := true, recurses := true, apart := false }
def WorldOwnSaid : Prop := worldOwnRow.holds Try.pinned (OpenSpec.ofChange worldOwnSpec)

/-- ITS FALSE NEIGHBOUR: 'it returns false'. Refute it at one input. -/
def worldOwnWrong : ChangeSpec := { name := "worldOwn", fn := fun _ => fun
  | [d1, d2] => { results := [.lit (.bool false)], args := [d1, d2] }
  | _ => none }
def WorldOwnWrongFalsely : Prop := worldOwnRow.holds Try.pinned (OpenSpec.ofChange worldOwnWrong)

/-- 'scrivtop.TopReplay': WHATEVER THE INPUT: true; the input reads as it did. -/
def topReplaySpec : ChangeSpec := { name := "topReplay", fn := fun _ => fun
  | [d1, d2, d3] => { results := [.lit (.bool true)], args := [d1, d2, d3] }
  | _ => none }
def topReplayRow : OpenClaim := { program := "ytokngfinnieccaa", sum := "b93de402f3c80e54f0044aa2cc21764e6b2c8a5f6bcdf082f3618dff4a77e581", func := "scrivenry/scrivtop.TopReplay", spec := "topReplay", inPlace := ["internal/abi.NoEscape"], unfollowed := true, recurses := true, apart := false }
def TopReplaySaid : Prop := topReplayRow.holds Try.pinned (OpenSpec.ofChange topReplaySpec)

/-- ITS FALSE NEIGHBOUR: 'it returns false'. Refute it at one input. -/
def topReplayWrong : ChangeSpec := { name := "topReplay", fn := fun _ => fun
  | [d1, d2, d3] => { results := [.lit (.bool false)], args := [d1, d2, d3] }
  | _ => none }
def TopReplayWrongFalsely : Prop := topReplayRow.holds Try.pinned (OpenSpec.ofChange topReplayWrong)

/- THE SECOND FORM. 'bulk': how many values and letters a reading holds, each counted each time it is reached (what is shared counts as often as it is met; a slice's spare places count too). A statement '..UptoSaid' is the law's where the arguments, and the package variables that the reading takes, are together of bulk at most 1048576: NARROWER than '..Said'. Prove '..Said' where nothing that the law and all that it calls make is longer than what came in: it says more and counts as full. Else prove '..UptoSaid'. A law counts once. -/
mutual
def uptoBulk {H : Type} : DataW H → Nat
  | .lit (.string bytes) => bytes.length + 1
  | .lit _ => 1
  | .nil => 1
  | .ptr d => uptoBulk d + 1
  | .slice elems spare => uptoBulkAll elems + uptoBulkAll spare + 1
  | .agg parts => uptoBulkAll parts + 1
  | .iface _ d => uptoBulk d + 1
  | .map entries => uptoBulkEntries entries + 1
  | .held _ => 1
def uptoBulkAll {H : Type} : List (DataW H) → Nat
  | [] => 0
  | d :: r => uptoBulk d + uptoBulkAll r
def uptoBulkEntries {H : Type} : List (Lit × DataW H) → Nat
  | [] => 0
  | x :: r => uptoBulkEntry x + uptoBulkEntries r
def uptoBulkEntry {H : Type} : Lit × DataW H → Nat
  | (.string bytes, d) => bytes.length + uptoBulk d + 1
  | (_, d) => uptoBulk d + 1
 end
def uptoSmall : (H : Type) → List (DataW H) → Bool := fun _ ds => decide (uptoBulkAll ds ≤ 1048576)
def OpenSpec.upto (s : _root_.Go.ChangeSpec) : _root_.Go.OpenSpec := { _root_.Go.OpenSpec.ofChange s with cond := some uptoSmall }

/-- 'scrivtop.TopDiff', WHERE WHAT IT READS IS OF BULK AT MOST 1048576: true; the input reads as it did. -/
def topDiffUptoRow : OpenClaim := { program := "ytokngfinnieccaa", sum := "b93de402f3c80e54f0044aa2cc21764e6b2c8a5f6bcdf082f3618dff4a77e581", func := "scrivenry/scrivtop.TopDiff", spec := "topDiff", inPlace := ["internal/abi.NoEscape"], apart := false, narrowed := true }
def TopDiffUptoSaid : Prop := topDiffUptoRow.holds Try.pinned (OpenSpec.upto topDiffSpec)

/-- 'scrivtop.TopCrowd', WHERE WHAT IT READS IS OF BULK AT MOST 1048576: true; the input reads as it did. -/
def topCrowdUptoRow : OpenClaim := { program := "ytokngfinnieccaa", sum := "b93de402f3c80e54f0044aa2cc21764e6b2c8a5f6bcdf082f3618dff4a77e581", func := "scrivenry/scrivtop.TopCrowd", spec := "topCrowd", inPlace := ["internal/abi.NoEscape"], apart := false, narrowed := true }
def TopCrowdUptoSaid : Prop := topCrowdUptoRow.holds Try.pinned (OpenSpec.upto topCrowdSpec)

/-- 'scrivkeep.ShopSafe', WHERE WHAT IT READS IS OF BULK AT MOST 1048576: true; the input reads as it did. -/
def shopSafeUptoRow : OpenClaim := { program := "ytokngfinnieccaa", sum := "b93de402f3c80e54f0044aa2cc21764e6b2c8a5f6bcdf082f3618dff4a77e581", func := "scrivenry/scrivkeep.ShopSafe", spec := "shopSafe", inPlace := ["internal/abi.NoEscape"], apart := false, narrowed := true }
def ShopSafeUptoSaid : Prop := shopSafeUptoRow.holds Try.pinned (OpenSpec.upto shopSafeSpec)

/-- 'scrivkeep.ShopHands', WHERE WHAT IT READS IS OF BULK AT MOST 1048576: true; the input reads as it did. -/
def shopHandsUptoRow : OpenClaim := { program := "ytokngfinnieccaa", sum := "b93de402f3c80e54f0044aa2cc21764e6b2c8a5f6bcdf082f3618dff4a77e581", func := "scrivenry/scrivkeep.ShopHands", spec := "shopHands", inPlace := ["internal/abi.NoEscape"], apart := false, narrowed := true }
def ShopHandsUptoSaid : Prop := shopHandsUptoRow.holds Try.pinned (OpenSpec.upto shopHandsSpec)

/-- 'scrivkeep.ServeOnce', WHERE WHAT IT READS IS OF BULK AT MOST 1048576: true; the input reads as it did. -/
def serveOnceUptoRow : OpenClaim := { program := "ytokngfinnieccaa", sum := "b93de402f3c80e54f0044aa2cc21764e6b2c8a5f6bcdf082f3618dff4a77e581", func := "scrivenry/scrivkeep.ServeOnce", spec := "serveOnce", inPlace := ["internal/abi.NoEscape"], apart := false, narrowed := true }
def ServeOnceUptoSaid : Prop := serveOnceUptoRow.holds Try.pinned (OpenSpec.upto serveOnceSpec)

/-- 'scrivkeep.WorldNumbers', WHERE WHAT IT READS IS OF BULK AT MOST 1048576: true; the input reads as it did. -/
def worldNumbersUptoRow : OpenClaim := { program := "ytokngfinnieccaa", sum := "b93de402f3c80e54f0044aa2cc21764e6b2c8a5f6bcdf082f3618dff4a77e581", func := "scrivenry/scrivkeep.WorldNumbers", spec := "worldNumbers", inPlace := ["internal/abi.NoEscape"], apart := false, narrowed := true }
def WorldNumbersUptoSaid : Prop := worldNumbersUptoRow.holds Try.pinned (OpenSpec.upto worldNumbersSpec)

/-- 'scrivkeep.WorldHolds', WHERE WHAT IT READS IS OF BULK AT MOST 1048576: true; the input reads as it did. -/
def worldHoldsUptoRow : OpenClaim := { program := "ytokngfinnieccaa", sum := "b93de402f3c80e54f0044aa2cc21764e6b2c8a5f6bcdf082f3618dff4a77e581", func := "scrivenry/scrivkeep.WorldHolds", spec := "worldHolds", inPlace := ["internal/abi.NoEscape"], apart := false, narrowed := true }
def WorldHoldsUptoSaid : Prop := worldHoldsUptoRow.holds Try.pinned (OpenSpec.upto worldHoldsSpec)

/-- 'scrivkeep.WorldBytes', WHERE WHAT IT READS IS OF BULK AT MOST 1048576: true; the input reads as it did. -/
def worldBytesUptoRow : OpenClaim := { program := "ytokngfinnieccaa", sum := "b93de402f3c80e54f0044aa2cc21764e6b2c8a5f6bcdf082f3618dff4a77e581", func := "scrivenry/scrivkeep.WorldBytes", spec := "worldBytes", inPlace := ["internal/abi.NoEscape"], apart := false, narrowed := true }
def WorldBytesUptoSaid : Prop := worldBytesUptoRow.holds Try.pinned (OpenSpec.upto worldBytesSpec)

/-- 'scrivkeep.WorldAlone', WHERE WHAT IT READS IS OF BULK AT MOST 1048576: true; the input reads as it did. -/
def worldAloneUptoRow : OpenClaim := { program := "ytokngfinnieccaa", sum := "b93de402f3c80e54f0044aa2cc21764e6b2c8a5f6bcdf082f3618dff4a77e581", func := "scrivenry/scrivkeep.WorldAlone", spec := "worldAlone", inPlace := ["internal/abi.NoEscape"], apart := false, narrowed := true }
def WorldAloneUptoSaid : Prop := worldAloneUptoRow.holds Try.pinned (OpenSpec.upto worldAloneSpec)

/-- 'scrivkeep.WorldMeets', WHERE WHAT IT READS IS OF BULK AT MOST 1048576: true; the input reads as it did. -/
def worldMeetsUptoRow : OpenClaim := { program := "ytokngfinnieccaa", sum := "b93de402f3c80e54f0044aa2cc21764e6b2c8a5f6bcdf082f3618dff4a77e581", func := "scrivenry/scrivkeep.WorldMeets", spec := "worldMeets", inPlace := ["internal/abi.NoEscape"], apart := false, narrowed := true }
def WorldMeetsUptoSaid : Prop := worldMeetsUptoRow.holds Try.pinned (OpenSpec.upto worldMeetsSpec)

/-- 'scrivkeep.WorldOwn', WHERE WHAT IT READS IS OF BULK AT MOST 1048576: true; the input reads as it did. -/
def worldOwnUptoRow : OpenClaim := { program := "ytokngfinnieccaa", sum := "b93de402f3c80e54f0044aa2cc21764e6b2c8a5f6bcdf082f3618dff4a77e581", func := "scrivenry/scrivkeep.WorldOwn", spec := "worldOwn", inPlace := ["internal/abi.NoEscape"], unfollowed := true, recurses := true, apart := false, narrowed := true }
def WorldOwnUptoSaid : Prop := worldOwnUptoRow.holds Try.pinned (OpenSpec.upto worldOwnSpec)

/-- 'scrivtop.TopReplay', WHERE WHAT IT READS IS OF BULK AT MOST 1048576: true; the input reads as it did. -/
def topReplayUptoRow : OpenClaim := { program := "ytokngfinnieccaa", sum := "b93de402f3c80e54f0044aa2cc21764e6b2c8a5f6bcdf082f3618dff4a77e581", func := "scrivenry/scrivtop.TopReplay", spec := "topReplay", inPlace := ["internal/abi.NoEscape"], unfollowed := true, recurses := true, apart := false, narrowed := true }
def TopReplayUptoSaid : Prop := topReplayUptoRow.holds Try.pinned (OpenSpec.upto topReplaySpec)

end Rows
end Go.Proofs.Ytokngfinnieccaa
