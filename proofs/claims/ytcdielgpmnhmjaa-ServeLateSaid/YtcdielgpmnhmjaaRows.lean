/-
  No cell of these rows narrows 'for every input' (looked for: loops, veiled, ifaces, maps, wideKeys, modest, calm, conditions, laid).
  DERIVED. THE GIVEN ROWS OF THIS SEAT. 12 by the template 'for every input the law returns true; each argument reads behind the call as it read before'; 0 by the template 'total and deterministic' (their statements: YtcdielgpmnhmjaaTotals.lean).
  GIVEN WITH THE SEED: the statements are not yours to turn. If you find one false, say at which input.
  Laid BY PROGRAM, IN A SANDBOX (cutbox-rows.mjs): the forced cells as the released guide's own fill.sh prints them over the translation 20076f77dd1c697c… (all of the seat's roots in one cut). By AI agents, Wed Nov 11 2026. No macro, syntax, notation, axiom, sorry.
-/
import Derived.Test.YtcdielgpmnhmjaaChecked
import GoSem.Claim
import GoSem.ClaimJoined
import GoSem.ClaimMapViews
import Derived.JoinedTies
import Derived.KernelRfl
namespace Go.Proofs.Ytcdielgpmnhmjaa
/- THE CELL 'sum', in the pinned program and in every row, IS THE sha256 OF THE DUMP (.gsa) THAT YtcdielgpmnhmjaaProg.lean LOADS. Nothing in Lean hashes anything: it is a label: what it is worth is what the hold of that sum in a sandbox is worth. -/
noncomputable def Try.pinned : Pinned := { name := "ytcdielgpmnhmjaa", sum := "20076f77dd1c697c17a879fef29a1b241a9fb1634e71056fceb560365970ab83", checked := Try.checked }
namespace Rows
def none {H : Type} : Left H := { results := [], args := [] }

/-- 'scrivkeep.ShopEnds': WHATEVER THE INPUT: true; the input reads as it did. -/
def shopEndsSpec : ChangeSpec := { name := "shopEnds", fn := fun _ => fun
  | [d1, d2] => { results := [.lit (.bool true)], args := [d1, d2] }
  | _ => none }
def shopEndsRow : OpenClaim := { program := "ytcdielgpmnhmjaa", sum := "20076f77dd1c697c17a879fef29a1b241a9fb1634e71056fceb560365970ab83", func := "scrivenry/scrivkeep.ShopEnds", spec := "shopEnds", inPlace := ["internal/abi.NoEscape"], apart := false }
def ShopEndsSaid : Prop := shopEndsRow.holds Try.pinned (OpenSpec.ofChange shopEndsSpec)

/-- ITS FALSE NEIGHBOUR: 'it returns false'. Refute it at one input. -/
def shopEndsWrong : ChangeSpec := { name := "shopEnds", fn := fun _ => fun
  | [d1, d2] => { results := [.lit (.bool false)], args := [d1, d2] }
  | _ => none }
def ShopEndsWrongFalsely : Prop := shopEndsRow.holds Try.pinned (OpenSpec.ofChange shopEndsWrong)

/-- 'scrivkeep.ShopSafe': WHATEVER THE INPUT: true; the input reads as it did. -/
def shopSafeSpec : ChangeSpec := { name := "shopSafe", fn := fun _ => fun
  | [d1, d2, d3, d4, d5, d6, d7] => { results := [.lit (.bool true)], args := [d1, d2, d3, d4, d5, d6, d7] }
  | _ => none }
def shopSafeRow : OpenClaim := { program := "ytcdielgpmnhmjaa", sum := "20076f77dd1c697c17a879fef29a1b241a9fb1634e71056fceb560365970ab83", func := "scrivenry/scrivkeep.ShopSafe", spec := "shopSafe", inPlace := ["internal/abi.NoEscape"], apart := false }
def ShopSafeSaid : Prop := shopSafeRow.holds Try.pinned (OpenSpec.ofChange shopSafeSpec)

/-- ITS FALSE NEIGHBOUR: 'it returns false'. Refute it at one input. -/
def shopSafeWrong : ChangeSpec := { name := "shopSafe", fn := fun _ => fun
  | [d1, d2, d3, d4, d5, d6, d7] => { results := [.lit (.bool false)], args := [d1, d2, d3, d4, d5, d6, d7] }
  | _ => none }
def ShopSafeWrongFalsely : Prop := shopSafeRow.holds Try.pinned (OpenSpec.ofChange shopSafeWrong)

/-- 'scrivkeep.ShopHands': WHATEVER THE INPUT: true; the input reads as it did. -/
def shopHandsSpec : ChangeSpec := { name := "shopHands", fn := fun _ => fun
  | [d1, d2] => { results := [.lit (.bool true)], args := [d1, d2] }
  | _ => none }
def shopHandsRow : OpenClaim := { program := "ytcdielgpmnhmjaa", sum := "20076f77dd1c697c17a879fef29a1b241a9fb1634e71056fceb560365970ab83", func := "scrivenry/scrivkeep.ShopHands", spec := "shopHands", inPlace := ["internal/abi.NoEscape"], apart := false }
def ShopHandsSaid : Prop := shopHandsRow.holds Try.pinned (OpenSpec.ofChange shopHandsSpec)

/-- ITS FALSE NEIGHBOUR: 'it returns false'. Refute it at one input. -/
def shopHandsWrong : ChangeSpec := { name := "shopHands", fn := fun _ => fun
  | [d1, d2] => { results := [.lit (.bool false)], args := [d1, d2] }
  | _ => none }
def ShopHandsWrongFalsely : Prop := shopHandsRow.holds Try.pinned (OpenSpec.ofChange shopHandsWrong)

/-- 'scrivkeep.ServePassed': WHATEVER THE INPUT: true; the input reads as it did. -/
def servePassedSpec : ChangeSpec := { name := "servePassed", fn := fun _ => fun
  | [d1, d2] => { results := [.lit (.bool true)], args := [d1, d2] }
  | _ => none }
def servePassedRow : OpenClaim := { program := "ytcdielgpmnhmjaa", sum := "20076f77dd1c697c17a879fef29a1b241a9fb1634e71056fceb560365970ab83", func := "scrivenry/scrivkeep.ServePassed", spec := "servePassed", inPlace := ["internal/abi.NoEscape"], apart := false }
def ServePassedSaid : Prop := servePassedRow.holds Try.pinned (OpenSpec.ofChange servePassedSpec)

/-- ITS FALSE NEIGHBOUR: 'it returns false'. Refute it at one input. -/
def servePassedWrong : ChangeSpec := { name := "servePassed", fn := fun _ => fun
  | [d1, d2] => { results := [.lit (.bool false)], args := [d1, d2] }
  | _ => none }
def ServePassedWrongFalsely : Prop := servePassedRow.holds Try.pinned (OpenSpec.ofChange servePassedWrong)

/-- 'scrivkeep.ServeOnce': WHATEVER THE INPUT: true; the input reads as it did. -/
def serveOnceSpec : ChangeSpec := { name := "serveOnce", fn := fun _ => fun
  | [d1, d2] => { results := [.lit (.bool true)], args := [d1, d2] }
  | _ => none }
def serveOnceRow : OpenClaim := { program := "ytcdielgpmnhmjaa", sum := "20076f77dd1c697c17a879fef29a1b241a9fb1634e71056fceb560365970ab83", func := "scrivenry/scrivkeep.ServeOnce", spec := "serveOnce", inPlace := ["internal/abi.NoEscape"], apart := false }
def ServeOnceSaid : Prop := serveOnceRow.holds Try.pinned (OpenSpec.ofChange serveOnceSpec)

/-- ITS FALSE NEIGHBOUR: 'it returns false'. Refute it at one input. -/
def serveOnceWrong : ChangeSpec := { name := "serveOnce", fn := fun _ => fun
  | [d1, d2] => { results := [.lit (.bool false)], args := [d1, d2] }
  | _ => none }
def ServeOnceWrongFalsely : Prop := serveOnceRow.holds Try.pinned (OpenSpec.ofChange serveOnceWrong)

/-- 'scrivkeep.ServeLate': WHATEVER THE INPUT: true; the input reads as it did. -/
def serveLateSpec : ChangeSpec := { name := "serveLate", fn := fun _ => fun
  | [d1, d2] => { results := [.lit (.bool true)], args := [d1, d2] }
  | _ => none }
def serveLateRow : OpenClaim := { program := "ytcdielgpmnhmjaa", sum := "20076f77dd1c697c17a879fef29a1b241a9fb1634e71056fceb560365970ab83", func := "scrivenry/scrivkeep.ServeLate", spec := "serveLate", inPlace := ["internal/abi.NoEscape"], unfollowed := true, recurses := true, apart := false }
def ServeLateSaid : Prop := serveLateRow.holds Try.pinned (OpenSpec.ofChange serveLateSpec)

/-- ITS FALSE NEIGHBOUR: 'it returns false'. Refute it at one input. -/
def serveLateWrong : ChangeSpec := { name := "serveLate", fn := fun _ => fun
  | [d1, d2] => { results := [.lit (.bool false)], args := [d1, d2] }
  | _ => none }
def ServeLateWrongFalsely : Prop := serveLateRow.holds Try.pinned (OpenSpec.ofChange serveLateWrong)

/-- 'scrivtop.TopDiff': WHATEVER THE INPUT: true; the input reads as it did. -/
def topDiffSpec : ChangeSpec := { name := "topDiff", fn := fun _ => fun
  | [d] => { results := [.lit (.bool true)], args := [d] }
  | _ => none }
def topDiffRow : OpenClaim := { program := "ytcdielgpmnhmjaa", sum := "20076f77dd1c697c17a879fef29a1b241a9fb1634e71056fceb560365970ab83", func := "scrivenry/scrivtop.TopDiff", spec := "topDiff", inPlace := ["internal/abi.NoEscape"], apart := false }
def TopDiffSaid : Prop := topDiffRow.holds Try.pinned (OpenSpec.ofChange topDiffSpec)

/-- ITS FALSE NEIGHBOUR: 'it returns false'. Refute it at one input. -/
def topDiffWrong : ChangeSpec := { name := "topDiff", fn := fun _ => fun
  | [d] => { results := [.lit (.bool false)], args := [d] }
  | _ => none }
def TopDiffWrongFalsely : Prop := topDiffRow.holds Try.pinned (OpenSpec.ofChange topDiffWrong)

/-- 'scrivtop.TopTiers': WHATEVER THE INPUT: true; the input reads as it did. -/
def topTiersSpec : ChangeSpec := { name := "topTiers", fn := fun _ => fun
  | [d1, d2] => { results := [.lit (.bool true)], args := [d1, d2] }
  | _ => none }
def topTiersRow : OpenClaim := { program := "ytcdielgpmnhmjaa", sum := "20076f77dd1c697c17a879fef29a1b241a9fb1634e71056fceb560365970ab83", func := "scrivenry/scrivtop.TopTiers", spec := "topTiers", inPlace := ["internal/abi.NoEscape"], apart := false }
def TopTiersSaid : Prop := topTiersRow.holds Try.pinned (OpenSpec.ofChange topTiersSpec)

/-- ITS FALSE NEIGHBOUR: 'it returns false'. Refute it at one input. -/
def topTiersWrong : ChangeSpec := { name := "topTiers", fn := fun _ => fun
  | [d1, d2] => { results := [.lit (.bool false)], args := [d1, d2] }
  | _ => none }
def TopTiersWrongFalsely : Prop := topTiersRow.holds Try.pinned (OpenSpec.ofChange topTiersWrong)

/-- 'scrivkeep.WorldNumbers': WHATEVER THE INPUT: true; the input reads as it did. -/
def worldNumbersSpec : ChangeSpec := { name := "worldNumbers", fn := fun _ => fun
  | [d1, d2, d3] => { results := [.lit (.bool true)], args := [d1, d2, d3] }
  | _ => none }
def worldNumbersRow : OpenClaim := { program := "ytcdielgpmnhmjaa", sum := "20076f77dd1c697c17a879fef29a1b241a9fb1634e71056fceb560365970ab83", func := "scrivenry/scrivkeep.WorldNumbers", spec := "worldNumbers", inPlace := ["internal/abi.NoEscape"], apart := false }
def WorldNumbersSaid : Prop := worldNumbersRow.holds Try.pinned (OpenSpec.ofChange worldNumbersSpec)

/-- ITS FALSE NEIGHBOUR: 'it returns false'. Refute it at one input. -/
def worldNumbersWrong : ChangeSpec := { name := "worldNumbers", fn := fun _ => fun
  | [d1, d2, d3] => { results := [.lit (.bool false)], args := [d1, d2, d3] }
  | _ => none }
def WorldNumbersWrongFalsely : Prop := worldNumbersRow.holds Try.pinned (OpenSpec.ofChange worldNumbersWrong)

/-- 'scrivkeep.WorldHolds': WHATEVER THE INPUT: true; the input reads as it did. -/
def worldHoldsSpec : ChangeSpec := { name := "worldHolds", fn := fun _ => fun
  | [d1, d2, d3] => { results := [.lit (.bool true)], args := [d1, d2, d3] }
  | _ => none }
def worldHoldsRow : OpenClaim := { program := "ytcdielgpmnhmjaa", sum := "20076f77dd1c697c17a879fef29a1b241a9fb1634e71056fceb560365970ab83", func := "scrivenry/scrivkeep.WorldHolds", spec := "worldHolds", inPlace := ["internal/abi.NoEscape"], apart := false }
def WorldHoldsSaid : Prop := worldHoldsRow.holds Try.pinned (OpenSpec.ofChange worldHoldsSpec)

/-- ITS FALSE NEIGHBOUR: 'it returns false'. Refute it at one input. -/
def worldHoldsWrong : ChangeSpec := { name := "worldHolds", fn := fun _ => fun
  | [d1, d2, d3] => { results := [.lit (.bool false)], args := [d1, d2, d3] }
  | _ => none }
def WorldHoldsWrongFalsely : Prop := worldHoldsRow.holds Try.pinned (OpenSpec.ofChange worldHoldsWrong)

/-- 'scrivkeep.WorldBytes': WHATEVER THE INPUT: true; the input reads as it did. -/
def worldBytesSpec : ChangeSpec := { name := "worldBytes", fn := fun _ => fun
  | [d1, d2, d3] => { results := [.lit (.bool true)], args := [d1, d2, d3] }
  | _ => none }
def worldBytesRow : OpenClaim := { program := "ytcdielgpmnhmjaa", sum := "20076f77dd1c697c17a879fef29a1b241a9fb1634e71056fceb560365970ab83", func := "scrivenry/scrivkeep.WorldBytes", spec := "worldBytes", inPlace := ["internal/abi.NoEscape"], apart := false }
def WorldBytesSaid : Prop := worldBytesRow.holds Try.pinned (OpenSpec.ofChange worldBytesSpec)

/-- ITS FALSE NEIGHBOUR: 'it returns false'. Refute it at one input. -/
def worldBytesWrong : ChangeSpec := { name := "worldBytes", fn := fun _ => fun
  | [d1, d2, d3] => { results := [.lit (.bool false)], args := [d1, d2, d3] }
  | _ => none }
def WorldBytesWrongFalsely : Prop := worldBytesRow.holds Try.pinned (OpenSpec.ofChange worldBytesWrong)

/-- 'scrivkeep.WorldAlone': WHATEVER THE INPUT: true; the input reads as it did. -/
def worldAloneSpec : ChangeSpec := { name := "worldAlone", fn := fun _ => fun
  | [d1, d2] => { results := [.lit (.bool true)], args := [d1, d2] }
  | _ => none }
def worldAloneRow : OpenClaim := { program := "ytcdielgpmnhmjaa", sum := "20076f77dd1c697c17a879fef29a1b241a9fb1634e71056fceb560365970ab83", func := "scrivenry/scrivkeep.WorldAlone", spec := "worldAlone", inPlace := ["internal/abi.NoEscape"], apart := false }
def WorldAloneSaid : Prop := worldAloneRow.holds Try.pinned (OpenSpec.ofChange worldAloneSpec)

/-- ITS FALSE NEIGHBOUR: 'it returns false'. Refute it at one input. -/
def worldAloneWrong : ChangeSpec := { name := "worldAlone", fn := fun _ => fun
  | [d1, d2] => { results := [.lit (.bool false)], args := [d1, d2] }
  | _ => none }
def WorldAloneWrongFalsely : Prop := worldAloneRow.holds Try.pinned (OpenSpec.ofChange worldAloneWrong)

/- THE SECOND FORM. 'bulk': how many values and letters a reading holds, each counted each time it is reached (what is shared counts as often as it is met; a slice's spare places count too). A statement '..UptoSaid' is the law's where the arguments, and the package variables that the reading takes, are together of bulk at most 1048576: NARROWER than '..Said'. Prove '..Said' where nothing that the law and all that it calls make is longer than what came in: it says more and counts as full. Else prove '..UptoSaid'. A law counts once. -/
mutual
def uptoBulk {H : Type} : DataW H → Nat
  | .lit (.string bytes) => bytes.length + 1
  | .lit _ => 1
  | .nil => 1
  | .ptr d => uptoBulk d + 1
  | .slice elems spare => uptoBulkAll elems + uptoBulkAll spare + 1
  | .agg parts => uptoBulkAll parts + 1
  | .iface _ d => uptoBulk d + 1
  | .map entries => uptoBulkEntries entries + 1
  | .held _ => 1
def uptoBulkAll {H : Type} : List (DataW H) → Nat
  | [] => 0
  | d :: r => uptoBulk d + uptoBulkAll r
def uptoBulkEntries {H : Type} : List (Lit × DataW H) → Nat
  | [] => 0
  | x :: r => uptoBulkEntry x + uptoBulkEntries r
def uptoBulkEntry {H : Type} : Lit × DataW H → Nat
  | (.string bytes, d) => bytes.length + uptoBulk d + 1
  | (_, d) => uptoBulk d + 1
 end
def uptoSmall : (H : Type) → List (DataW H) → Bool := fun _ ds => decide (uptoBulkAll ds ≤ 1048576)
def OpenSpec.upto (s : _root_.Go.ChangeSpec) : _root_.Go.OpenSpec := { _root_.Go.OpenSpec.ofChange s with cond := some uptoSmall }

/-- 'scrivkeep.ShopEnds', WHERE WHAT IT READS IS OF BULK AT MOST 1048576: true; the input reads as it did. -/
def shopEndsUptoRow : OpenClaim := { program := "ytcdielgpmnhmjaa", sum := "20076f77dd1c697c17a879fef29a1b241a9fb1634e71056fceb560365970ab83", func := "scrivenry/scrivkeep.ShopEnds", spec := "shopEnds", inPlace := ["internal/abi.NoEscape"], apart := false, narrowed := true }
def ShopEndsUptoSaid : Prop := shopEndsUptoRow.holds Try.pinned (OpenSpec.upto shopEndsSpec)

/-- 'scrivkeep.ShopSafe', WHERE WHAT IT READS IS OF BULK AT MOST 1048576: true; the input reads as it did. -/
def shopSafeUptoRow : OpenClaim := { program := "ytcdielgpmnhmjaa", sum := "20076f77dd1c697c17a879fef29a1b241a9fb1634e71056fceb560365970ab83", func := "scrivenry/scrivkeep.ShopSafe", spec := "shopSafe", inPlace := ["internal/abi.NoEscape"], apart := false, narrowed := true }
def ShopSafeUptoSaid : Prop := shopSafeUptoRow.holds Try.pinned (OpenSpec.upto shopSafeSpec)

/-- 'scrivkeep.ShopHands', WHERE WHAT IT READS IS OF BULK AT MOST 1048576: true; the input reads as it did. -/
def shopHandsUptoRow : OpenClaim := { program := "ytcdielgpmnhmjaa", sum := "20076f77dd1c697c17a879fef29a1b241a9fb1634e71056fceb560365970ab83", func := "scrivenry/scrivkeep.ShopHands", spec := "shopHands", inPlace := ["internal/abi.NoEscape"], apart := false, narrowed := true }
def ShopHandsUptoSaid : Prop := shopHandsUptoRow.holds Try.pinned (OpenSpec.upto shopHandsSpec)

/-- 'scrivkeep.ServePassed', WHERE WHAT IT READS IS OF BULK AT MOST 1048576: true; the input reads as it did. -/
def servePassedUptoRow : OpenClaim := { program := "ytcdielgpmnhmjaa", sum := "20076f77dd1c697c17a879fef29a1b241a9fb1634e71056fceb560365970ab83", func := "scrivenry/scrivkeep.ServePassed", spec := "servePassed", inPlace := ["internal/abi.NoEscape"], apart := false, narrowed := true }
def ServePassedUptoSaid : Prop := servePassedUptoRow.holds Try.pinned (OpenSpec.upto servePassedSpec)

/-- 'scrivkeep.ServeOnce', WHERE WHAT IT READS IS OF BULK AT MOST 1048576: true; the input reads as it did. -/
def serveOnceUptoRow : OpenClaim := { program := "ytcdielgpmnhmjaa", sum := "20076f77dd1c697c17a879fef29a1b241a9fb1634e71056fceb560365970ab83", func := "scrivenry/scrivkeep.ServeOnce", spec := "serveOnce", inPlace := ["internal/abi.NoEscape"], apart := false, narrowed := true }
def ServeOnceUptoSaid : Prop := serveOnceUptoRow.holds Try.pinned (OpenSpec.upto serveOnceSpec)

/-- 'scrivkeep.ServeLate', WHERE WHAT IT READS IS OF BULK AT MOST 1048576: true; the input reads as it did. -/
def serveLateUptoRow : OpenClaim := { program := "ytcdielgpmnhmjaa", sum := "20076f77dd1c697c17a879fef29a1b241a9fb1634e71056fceb560365970ab83", func := "scrivenry/scrivkeep.ServeLate", spec := "serveLate", inPlace := ["internal/abi.NoEscape"], unfollowed := true, recurses := true, apart := false, narrowed := true }
def ServeLateUptoSaid : Prop := serveLateUptoRow.holds Try.pinned (OpenSpec.upto serveLateSpec)

/-- 'scrivtop.TopDiff', WHERE WHAT IT READS IS OF BULK AT MOST 1048576: true; the input reads as it did. -/
def topDiffUptoRow : OpenClaim := { program := "ytcdielgpmnhmjaa", sum := "20076f77dd1c697c17a879fef29a1b241a9fb1634e71056fceb560365970ab83", func := "scrivenry/scrivtop.TopDiff", spec := "topDiff", inPlace := ["internal/abi.NoEscape"], apart := false, narrowed := true }
def TopDiffUptoSaid : Prop := topDiffUptoRow.holds Try.pinned (OpenSpec.upto topDiffSpec)

/-- 'scrivtop.TopTiers', WHERE WHAT IT READS IS OF BULK AT MOST 1048576: true; the input reads as it did. -/
def topTiersUptoRow : OpenClaim := { program := "ytcdielgpmnhmjaa", sum := "20076f77dd1c697c17a879fef29a1b241a9fb1634e71056fceb560365970ab83", func := "scrivenry/scrivtop.TopTiers", spec := "topTiers", inPlace := ["internal/abi.NoEscape"], apart := false, narrowed := true }
def TopTiersUptoSaid : Prop := topTiersUptoRow.holds Try.pinned (OpenSpec.upto topTiersSpec)

/-- 'scrivkeep.WorldNumbers', WHERE WHAT IT READS IS OF BULK AT MOST 1048576: true; the input reads as it did. -/
def worldNumbersUptoRow : OpenClaim := { program := "ytcdielgpmnhmjaa", sum := "20076f77dd1c697c17a879fef29a1b241a9fb1634e71056fceb560365970ab83", func := "scrivenry/scrivkeep.WorldNumbers", spec := "worldNumbers", inPlace := ["internal/abi.NoEscape"], apart := false, narrowed := true }
def WorldNumbersUptoSaid : Prop := worldNumbersUptoRow.holds Try.pinned (OpenSpec.upto worldNumbersSpec)

/-- 'scrivkeep.WorldHolds', WHERE WHAT IT READS IS OF BULK AT MOST 1048576: true; the input reads as it did. -/
def worldHoldsUptoRow : OpenClaim := { program := "ytcdielgpmnhmjaa", sum := "20076f77dd1c697c17a879fef29a1b241a9fb1634e71056fceb560365970ab83", func := "scrivenry/scrivkeep.WorldHolds", spec := "worldHolds", inPlace := ["internal/abi.NoEscape"], apart := false, narrowed := true }
def WorldHoldsUptoSaid : Prop := worldHoldsUptoRow.holds Try.pinned (OpenSpec.upto worldHoldsSpec)

/-- 'scrivkeep.WorldBytes', WHERE WHAT IT READS IS OF BULK AT MOST 1048576: true; the input reads as it did. -/
def worldBytesUptoRow : OpenClaim := { program := "ytcdielgpmnhmjaa", sum := "20076f77dd1c697c17a879fef29a1b241a9fb1634e71056fceb560365970ab83", func := "scrivenry/scrivkeep.WorldBytes", spec := "worldBytes", inPlace := ["internal/abi.NoEscape"], apart := false, narrowed := true }
def WorldBytesUptoSaid : Prop := worldBytesUptoRow.holds Try.pinned (OpenSpec.upto worldBytesSpec)

/-- 'scrivkeep.WorldAlone', WHERE WHAT IT READS IS OF BULK AT MOST 1048576: true; the input reads as it did. -/
def worldAloneUptoRow : OpenClaim := { program := "ytcdielgpmnhmjaa", sum := "20076f77dd1c697c17a879fef29a1b241a9fb1634e71056fceb560365970ab83", func := "scrivenry/scrivkeep.WorldAlone", spec := "worldAlone", inPlace := ["internal/abi.NoEscape"], apart := false, narrowed := true }
def WorldAloneUptoSaid : Prop := worldAloneUptoRow.holds Try.pinned (OpenSpec.upto worldAloneSpec)

end Rows
end Go.Proofs.Ytcdielgpmnhmjaa
