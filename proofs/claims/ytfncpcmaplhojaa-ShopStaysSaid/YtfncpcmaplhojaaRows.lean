/-
  No cell of these rows narrows 'for every input' (looked for: loops, veiled, ifaces, maps, wideKeys, modest, calm, conditions, laid).
  DERIVED. THE GIVEN ROWS OF THIS SEAT. 12 by the template 'for every input the law returns true; each argument reads behind the call as it read before'; 0 by the template 'total and deterministic' (their statements: YtfncpcmaplhojaaTotals.lean).
  GIVEN WITH THE SEED: the statements are not yours to turn. If you find one false, say at which input.
  Laid BY PROGRAM, IN A SANDBOX (cutbox-rows.mjs): the forced cells as the released guide's own fill.sh prints them over the translation b48a4a9af6fd9c58… (all of the seat's roots in one cut). By AI agents, Wed Nov 11 2026. No macro, syntax, notation, axiom, sorry.
-/
import Derived.Test.YtfncpcmaplhojaaChecked
import GoSem.Claim
import GoSem.ClaimJoined
import GoSem.ClaimMapViews
import Derived.JoinedTies
import Derived.KernelRfl
namespace Go.Proofs.Ytfncpcmaplhojaa
/- THE CELL 'sum', in the pinned program and in every row, IS THE sha256 OF THE DUMP (.gsa) THAT YtfncpcmaplhojaaProg.lean LOADS. Nothing in Lean hashes anything: it is a label: what it is worth is what the hold of that sum in a sandbox is worth. -/
noncomputable def Try.pinned : Pinned := { name := "ytfncpcmaplhojaa", sum := "b48a4a9af6fd9c5871b20484fe635b77e109f60519efae5b6683cff855c9dac6", checked := Try.checked }
namespace Rows
def none {H : Type} : Left H := { results := [], args := [] }

/-- 'scrivkeep.TierRows': WHATEVER THE INPUT: true; the input reads as it did. -/
def tierRowsSpec : ChangeSpec := { name := "tierRows", fn := fun _ => fun
  | [d1, d2, d3, d4] => { results := [.lit (.bool true)], args := [d1, d2, d3, d4] }
  | _ => none }
def tierRowsRow : OpenClaim := { program := "ytfncpcmaplhojaa", sum := "b48a4a9af6fd9c5871b20484fe635b77e109f60519efae5b6683cff855c9dac6", func := "scrivenry/scrivkeep.TierRows", spec := "tierRows", inPlace := ["internal/abi.NoEscape"], apart := false }
def TierRowsSaid : Prop := tierRowsRow.holds Try.pinned (OpenSpec.ofChange tierRowsSpec)

/-- ITS FALSE NEIGHBOUR: 'it returns false'. Refute it at one input. -/
def tierRowsWrong : ChangeSpec := { name := "tierRows", fn := fun _ => fun
  | [d1, d2, d3, d4] => { results := [.lit (.bool false)], args := [d1, d2, d3, d4] }
  | _ => none }
def TierRowsWrongFalsely : Prop := tierRowsRow.holds Try.pinned (OpenSpec.ofChange tierRowsWrong)

/-- 'scrivkeep.TierSame': WHATEVER THE INPUT: true; the input reads as it did. -/
def tierSameSpec : ChangeSpec := { name := "tierSame", fn := fun _ => fun
  | [d1, d2, d3, d4] => { results := [.lit (.bool true)], args := [d1, d2, d3, d4] }
  | _ => none }
def tierSameRow : OpenClaim := { program := "ytfncpcmaplhojaa", sum := "b48a4a9af6fd9c5871b20484fe635b77e109f60519efae5b6683cff855c9dac6", func := "scrivenry/scrivkeep.TierSame", spec := "tierSame", inPlace := ["internal/abi.NoEscape"], apart := false }
def TierSameSaid : Prop := tierSameRow.holds Try.pinned (OpenSpec.ofChange tierSameSpec)

/-- ITS FALSE NEIGHBOUR: 'it returns false'. Refute it at one input. -/
def tierSameWrong : ChangeSpec := { name := "tierSame", fn := fun _ => fun
  | [d1, d2, d3, d4] => { results := [.lit (.bool false)], args := [d1, d2, d3, d4] }
  | _ => none }
def TierSameWrongFalsely : Prop := tierSameRow.holds Try.pinned (OpenSpec.ofChange tierSameWrong)

/-- 'scrivkeep.TierOwn': WHATEVER THE INPUT: true; the input reads as it did. -/
def tierOwnSpec : ChangeSpec := { name := "tierOwn", fn := fun _ => fun
  | [d1, d2, d3, d4] => { results := [.lit (.bool true)], args := [d1, d2, d3, d4] }
  | _ => none }
def tierOwnRow : OpenClaim := { program := "ytfncpcmaplhojaa", sum := "b48a4a9af6fd9c5871b20484fe635b77e109f60519efae5b6683cff855c9dac6", func := "scrivenry/scrivkeep.TierOwn", spec := "tierOwn", inPlace := ["internal/abi.NoEscape"], unfollowed := true, recurses := true, apart := false }
def TierOwnSaid : Prop := tierOwnRow.holds Try.pinned (OpenSpec.ofChange tierOwnSpec)

/-- ITS FALSE NEIGHBOUR: 'it returns false'. Refute it at one input. -/
def tierOwnWrong : ChangeSpec := { name := "tierOwn", fn := fun _ => fun
  | [d1, d2, d3, d4] => { results := [.lit (.bool false)], args := [d1, d2, d3, d4] }
  | _ => none }
def TierOwnWrongFalsely : Prop := tierOwnRow.holds Try.pinned (OpenSpec.ofChange tierOwnWrong)

/-- 'scrivkeep.ClientHolds': WHATEVER THE INPUT: true; the input reads as it did. -/
def clientHoldsSpec : ChangeSpec := { name := "clientHolds", fn := fun _ => fun
  | [d1, d2, d3, d4] => { results := [.lit (.bool true)], args := [d1, d2, d3, d4] }
  | _ => none }
def clientHoldsRow : OpenClaim := { program := "ytfncpcmaplhojaa", sum := "b48a4a9af6fd9c5871b20484fe635b77e109f60519efae5b6683cff855c9dac6", func := "scrivenry/scrivkeep.ClientHolds", spec := "clientHolds", inPlace := ["internal/abi.NoEscape"], apart := false }
def ClientHoldsSaid : Prop := clientHoldsRow.holds Try.pinned (OpenSpec.ofChange clientHoldsSpec)

/-- ITS FALSE NEIGHBOUR: 'it returns false'. Refute it at one input. -/
def clientHoldsWrong : ChangeSpec := { name := "clientHolds", fn := fun _ => fun
  | [d1, d2, d3, d4] => { results := [.lit (.bool false)], args := [d1, d2, d3, d4] }
  | _ => none }
def ClientHoldsWrongFalsely : Prop := clientHoldsRow.holds Try.pinned (OpenSpec.ofChange clientHoldsWrong)

/-- 'scrivkeep.ClientOwn': WHATEVER THE INPUT: true; the input reads as it did. -/
def clientOwnSpec : ChangeSpec := { name := "clientOwn", fn := fun _ => fun
  | [d1, d2, d3] => { results := [.lit (.bool true)], args := [d1, d2, d3] }
  | _ => none }
def clientOwnRow : OpenClaim := { program := "ytfncpcmaplhojaa", sum := "b48a4a9af6fd9c5871b20484fe635b77e109f60519efae5b6683cff855c9dac6", func := "scrivenry/scrivkeep.ClientOwn", spec := "clientOwn", inPlace := ["internal/abi.NoEscape"], apart := false }
def ClientOwnSaid : Prop := clientOwnRow.holds Try.pinned (OpenSpec.ofChange clientOwnSpec)

/-- ITS FALSE NEIGHBOUR: 'it returns false'. Refute it at one input. -/
def clientOwnWrong : ChangeSpec := { name := "clientOwn", fn := fun _ => fun
  | [d1, d2, d3] => { results := [.lit (.bool false)], args := [d1, d2, d3] }
  | _ => none }
def ClientOwnWrongFalsely : Prop := clientOwnRow.holds Try.pinned (OpenSpec.ofChange clientOwnWrong)

/-- 'scrivkeep.ClientOwns': WHATEVER THE INPUT: true; the input reads as it did. -/
def clientOwnsSpec : ChangeSpec := { name := "clientOwns", fn := fun _ => fun
  | [d1, d2, d3, d4] => { results := [.lit (.bool true)], args := [d1, d2, d3, d4] }
  | _ => none }
def clientOwnsRow : OpenClaim := { program := "ytfncpcmaplhojaa", sum := "b48a4a9af6fd9c5871b20484fe635b77e109f60519efae5b6683cff855c9dac6", func := "scrivenry/scrivkeep.ClientOwns", spec := "clientOwns", inPlace := ["internal/abi.NoEscape"], apart := false }
def ClientOwnsSaid : Prop := clientOwnsRow.holds Try.pinned (OpenSpec.ofChange clientOwnsSpec)

/-- ITS FALSE NEIGHBOUR: 'it returns false'. Refute it at one input. -/
def clientOwnsWrong : ChangeSpec := { name := "clientOwns", fn := fun _ => fun
  | [d1, d2, d3, d4] => { results := [.lit (.bool false)], args := [d1, d2, d3, d4] }
  | _ => none }
def ClientOwnsWrongFalsely : Prop := clientOwnsRow.holds Try.pinned (OpenSpec.ofChange clientOwnsWrong)

/-- 'scrivkeep.HotTorn': WHATEVER THE INPUT: true; the input reads as it did. -/
def hotTornSpec : ChangeSpec := { name := "hotTorn", fn := fun _ => fun
  | [d1, d2] => { results := [.lit (.bool true)], args := [d1, d2] }
  | _ => none }
def hotTornRow : OpenClaim := { program := "ytfncpcmaplhojaa", sum := "b48a4a9af6fd9c5871b20484fe635b77e109f60519efae5b6683cff855c9dac6", func := "scrivenry/scrivkeep.HotTorn", spec := "hotTorn", inPlace := ["internal/abi.NoEscape"], unfollowed := true, recurses := true, apart := false }
def HotTornSaid : Prop := hotTornRow.holds Try.pinned (OpenSpec.ofChange hotTornSpec)

/-- ITS FALSE NEIGHBOUR: 'it returns false'. Refute it at one input. -/
def hotTornWrong : ChangeSpec := { name := "hotTorn", fn := fun _ => fun
  | [d1, d2] => { results := [.lit (.bool false)], args := [d1, d2] }
  | _ => none }
def HotTornWrongFalsely : Prop := hotTornRow.holds Try.pinned (OpenSpec.ofChange hotTornWrong)

/-- 'scrivkeep.HotBack': WHATEVER THE INPUT: true; the input reads as it did. -/
def hotBackSpec : ChangeSpec := { name := "hotBack", fn := fun _ => fun
  | [d1, d2, d3, d4] => { results := [.lit (.bool true)], args := [d1, d2, d3, d4] }
  | _ => none }
def hotBackRow : OpenClaim := { program := "ytfncpcmaplhojaa", sum := "b48a4a9af6fd9c5871b20484fe635b77e109f60519efae5b6683cff855c9dac6", func := "scrivenry/scrivkeep.HotBack", spec := "hotBack", inPlace := ["internal/abi.NoEscape"], unfollowed := true, recurses := true, apart := false }
def HotBackSaid : Prop := hotBackRow.holds Try.pinned (OpenSpec.ofChange hotBackSpec)

/-- ITS FALSE NEIGHBOUR: 'it returns false'. Refute it at one input. -/
def hotBackWrong : ChangeSpec := { name := "hotBack", fn := fun _ => fun
  | [d1, d2, d3, d4] => { results := [.lit (.bool false)], args := [d1, d2, d3, d4] }
  | _ => none }
def HotBackWrongFalsely : Prop := hotBackRow.holds Try.pinned (OpenSpec.ofChange hotBackWrong)

/-- 'scrivkeep.HotMore': WHATEVER THE INPUT: true; the input reads as it did. -/
def hotMoreSpec : ChangeSpec := { name := "hotMore", fn := fun _ => fun
  | [d1, d2] => { results := [.lit (.bool true)], args := [d1, d2] }
  | _ => none }
def hotMoreRow : OpenClaim := { program := "ytfncpcmaplhojaa", sum := "b48a4a9af6fd9c5871b20484fe635b77e109f60519efae5b6683cff855c9dac6", func := "scrivenry/scrivkeep.HotMore", spec := "hotMore", inPlace := ["internal/abi.NoEscape"], unfollowed := true, recurses := true, apart := false }
def HotMoreSaid : Prop := hotMoreRow.holds Try.pinned (OpenSpec.ofChange hotMoreSpec)

/-- ITS FALSE NEIGHBOUR: 'it returns false'. Refute it at one input. -/
def hotMoreWrong : ChangeSpec := { name := "hotMore", fn := fun _ => fun
  | [d1, d2] => { results := [.lit (.bool false)], args := [d1, d2] }
  | _ => none }
def HotMoreWrongFalsely : Prop := hotMoreRow.holds Try.pinned (OpenSpec.ofChange hotMoreWrong)

/-- 'scrivkeep.ShopOwn': WHATEVER THE INPUT: true; the input reads as it did. -/
def shopOwnSpec : ChangeSpec := { name := "shopOwn", fn := fun _ => fun
  | [d] => { results := [.lit (.bool true)], args := [d] }
  | _ => none }
def shopOwnRow : OpenClaim := { program := "ytfncpcmaplhojaa", sum := "b48a4a9af6fd9c5871b20484fe635b77e109f60519efae5b6683cff855c9dac6", func := "scrivenry/scrivkeep.ShopOwn", spec := "shopOwn", inPlace := ["internal/abi.NoEscape"], unfollowed := true, recurses := true, apart := false }
def ShopOwnSaid : Prop := shopOwnRow.holds Try.pinned (OpenSpec.ofChange shopOwnSpec)

/-- ITS FALSE NEIGHBOUR: 'it returns false'. Refute it at one input. -/
def shopOwnWrong : ChangeSpec := { name := "shopOwn", fn := fun _ => fun
  | [d] => { results := [.lit (.bool false)], args := [d] }
  | _ => none }
def ShopOwnWrongFalsely : Prop := shopOwnRow.holds Try.pinned (OpenSpec.ofChange shopOwnWrong)

/-- 'scrivkeep.ShopStays': WHATEVER THE INPUT: true; the input reads as it did. -/
def shopStaysSpec : ChangeSpec := { name := "shopStays", fn := fun _ => fun
  | [d1, d2, d3] => { results := [.lit (.bool true)], args := [d1, d2, d3] }
  | _ => none }
def shopStaysRow : OpenClaim := { program := "ytfncpcmaplhojaa", sum := "b48a4a9af6fd9c5871b20484fe635b77e109f60519efae5b6683cff855c9dac6", func := "scrivenry/scrivkeep.ShopStays", spec := "shopStays", inPlace := ["internal/abi.NoEscape"], apart := false }
def ShopStaysSaid : Prop := shopStaysRow.holds Try.pinned (OpenSpec.ofChange shopStaysSpec)

/-- ITS FALSE NEIGHBOUR: 'it returns false'. Refute it at one input. -/
def shopStaysWrong : ChangeSpec := { name := "shopStays", fn := fun _ => fun
  | [d1, d2, d3] => { results := [.lit (.bool false)], args := [d1, d2, d3] }
  | _ => none }
def ShopStaysWrongFalsely : Prop := shopStaysRow.holds Try.pinned (OpenSpec.ofChange shopStaysWrong)

/-- 'scrivkeep.ShopFrames': WHATEVER THE INPUT: true; the input reads as it did. -/
def shopFramesSpec : ChangeSpec := { name := "shopFrames", fn := fun _ => fun
  | [d1, d2, d3] => { results := [.lit (.bool true)], args := [d1, d2, d3] }
  | _ => none }
def shopFramesRow : OpenClaim := { program := "ytfncpcmaplhojaa", sum := "b48a4a9af6fd9c5871b20484fe635b77e109f60519efae5b6683cff855c9dac6", func := "scrivenry/scrivkeep.ShopFrames", spec := "shopFrames", inPlace := ["internal/abi.NoEscape"], apart := false }
def ShopFramesSaid : Prop := shopFramesRow.holds Try.pinned (OpenSpec.ofChange shopFramesSpec)

/-- ITS FALSE NEIGHBOUR: 'it returns false'. Refute it at one input. -/
def shopFramesWrong : ChangeSpec := { name := "shopFrames", fn := fun _ => fun
  | [d1, d2, d3] => { results := [.lit (.bool false)], args := [d1, d2, d3] }
  | _ => none }
def ShopFramesWrongFalsely : Prop := shopFramesRow.holds Try.pinned (OpenSpec.ofChange shopFramesWrong)

/- THE SECOND FORM. 'bulk': how many values and letters a reading holds, each counted each time it is reached (what is shared counts as often as it is met; a slice's spare places count too). A statement '..UptoSaid' is the law's where the arguments, and the package variables that the reading takes, are together of bulk at most 1048576: NARROWER than '..Said'. Prove '..Said' where nothing that the law and all that it calls make is longer than what came in: it says more and counts as full. Else prove '..UptoSaid'. A law counts once. -/
mutual
def uptoBulk {H : Type} : DataW H → Nat
  | .lit (.string bytes) => bytes.length + 1
  | .lit _ => 1
  | .nil => 1
  | .ptr d => uptoBulk d + 1
  | .slice elems spare => uptoBulkAll elems + uptoBulkAll spare + 1
  | .agg parts => uptoBulkAll parts + 1
  | .iface _ d => uptoBulk d + 1
  | .map entries => uptoBulkEntries entries + 1
  | .held _ => 1
def uptoBulkAll {H : Type} : List (DataW H) → Nat
  | [] => 0
  | d :: r => uptoBulk d + uptoBulkAll r
def uptoBulkEntries {H : Type} : List (Lit × DataW H) → Nat
  | [] => 0
  | x :: r => uptoBulkEntry x + uptoBulkEntries r
def uptoBulkEntry {H : Type} : Lit × DataW H → Nat
  | (.string bytes, d) => bytes.length + uptoBulk d + 1
  | (_, d) => uptoBulk d + 1
 end
def uptoSmall : (H : Type) → List (DataW H) → Bool := fun _ ds => decide (uptoBulkAll ds ≤ 1048576)
def OpenSpec.upto (s : _root_.Go.ChangeSpec) : _root_.Go.OpenSpec := { _root_.Go.OpenSpec.ofChange s with cond := some uptoSmall }

/-- 'scrivkeep.TierRows', WHERE WHAT IT READS IS OF BULK AT MOST 1048576: true; the input reads as it did. -/
def tierRowsUptoRow : OpenClaim := { program := "ytfncpcmaplhojaa", sum := "b48a4a9af6fd9c5871b20484fe635b77e109f60519efae5b6683cff855c9dac6", func := "scrivenry/scrivkeep.TierRows", spec := "tierRows", inPlace := ["internal/abi.NoEscape"], apart := false, narrowed := true }
def TierRowsUptoSaid : Prop := tierRowsUptoRow.holds Try.pinned (OpenSpec.upto tierRowsSpec)

/-- 'scrivkeep.TierSame', WHERE WHAT IT READS IS OF BULK AT MOST 1048576: true; the input reads as it did. -/
def tierSameUptoRow : OpenClaim := { program := "ytfncpcmaplhojaa", sum := "b48a4a9af6fd9c5871b20484fe635b77e109f60519efae5b6683cff855c9dac6", func := "scrivenry/scrivkeep.TierSame", spec := "tierSame", inPlace := ["internal/abi.NoEscape"], apart := false, narrowed := true }
def TierSameUptoSaid : Prop := tierSameUptoRow.holds Try.pinned (OpenSpec.upto tierSameSpec)

/-- 'scrivkeep.TierOwn', WHERE WHAT IT READS IS OF BULK AT MOST 1048576: true; the input reads as it did. -/
def tierOwnUptoRow : OpenClaim := { program := "ytfncpcmaplhojaa", sum := "b48a4a9af6fd9c5871b20484fe635b77e109f60519efae5b6683cff855c9dac6", func := "scrivenry/scrivkeep.TierOwn", spec := "tierOwn", inPlace := ["internal/abi.NoEscape"], unfollowed := true, recurses := true, apart := false, narrowed := true }
def TierOwnUptoSaid : Prop := tierOwnUptoRow.holds Try.pinned (OpenSpec.upto tierOwnSpec)

/-- 'scrivkeep.ClientHolds', WHERE WHAT IT READS IS OF BULK AT MOST 1048576: true; the input reads as it did. -/
def clientHoldsUptoRow : OpenClaim := { program := "ytfncpcmaplhojaa", sum := "b48a4a9af6fd9c5871b20484fe635b77e109f60519efae5b6683cff855c9dac6", func := "scrivenry/scrivkeep.ClientHolds", spec := "clientHolds", inPlace := ["internal/abi.NoEscape"], apart := false, narrowed := true }
def ClientHoldsUptoSaid : Prop := clientHoldsUptoRow.holds Try.pinned (OpenSpec.upto clientHoldsSpec)

/-- 'scrivkeep.ClientOwn', WHERE WHAT IT READS IS OF BULK AT MOST 1048576: true; the input reads as it did. -/
def clientOwnUptoRow : OpenClaim := { program := "ytfncpcmaplhojaa", sum := "b48a4a9af6fd9c5871b20484fe635b77e109f60519efae5b6683cff855c9dac6", func := "scrivenry/scrivkeep.ClientOwn", spec := "clientOwn", inPlace := ["internal/abi.NoEscape"], apart := false, narrowed := true }
def ClientOwnUptoSaid : Prop := clientOwnUptoRow.holds Try.pinned (OpenSpec.upto clientOwnSpec)

/-- 'scrivkeep.ClientOwns', WHERE WHAT IT READS IS OF BULK AT MOST 1048576: true; the input reads as it did. -/
def clientOwnsUptoRow : OpenClaim := { program := "ytfncpcmaplhojaa", sum := "b48a4a9af6fd9c5871b20484fe635b77e109f60519efae5b6683cff855c9dac6", func := "scrivenry/scrivkeep.ClientOwns", spec := "clientOwns", inPlace := ["internal/abi.NoEscape"], apart := false, narrowed := true }
def ClientOwnsUptoSaid : Prop := clientOwnsUptoRow.holds Try.pinned (OpenSpec.upto clientOwnsSpec)

/-- 'scrivkeep.HotTorn', WHERE WHAT IT READS IS OF BULK AT MOST 1048576: true; the input reads as it did. -/
def hotTornUptoRow : OpenClaim := { program := "ytfncpcmaplhojaa", sum := "b48a4a9af6fd9c5871b20484fe635b77e109f60519efae5b6683cff855c9dac6", func := "scrivenry/scrivkeep.HotTorn", spec := "hotTorn", inPlace := ["internal/abi.NoEscape"], unfollowed := true, recurses := true, apart := false, narrowed := true }
def HotTornUptoSaid : Prop := hotTornUptoRow.holds Try.pinned (OpenSpec.upto hotTornSpec)

/-- 'scrivkeep.HotBack', WHERE WHAT IT READS IS OF BULK AT MOST 1048576: true; the input reads as it did. -/
def hotBackUptoRow : OpenClaim := { program := "ytfncpcmaplhojaa", sum := "b48a4a9af6fd9c5871b20484fe635b77e109f60519efae5b6683cff855c9dac6", func := "scrivenry/scrivkeep.HotBack", spec := "hotBack", inPlace := ["internal/abi.NoEscape"], unfollowed := true, recurses := true, apart := false, narrowed := true }
def HotBackUptoSaid : Prop := hotBackUptoRow.holds Try.pinned (OpenSpec.upto hotBackSpec)

/-- 'scrivkeep.HotMore', WHERE WHAT IT READS IS OF BULK AT MOST 1048576: true; the input reads as it did. -/
def hotMoreUptoRow : OpenClaim := { program := "ytfncpcmaplhojaa", sum := "b48a4a9af6fd9c5871b20484fe635b77e109f60519efae5b6683cff855c9dac6", func := "scrivenry/scrivkeep.HotMore", spec := "hotMore", inPlace := ["internal/abi.NoEscape"], unfollowed := true, recurses := true, apart := false, narrowed := true }
def HotMoreUptoSaid : Prop := hotMoreUptoRow.holds Try.pinned (OpenSpec.upto hotMoreSpec)

/-- 'scrivkeep.ShopOwn', WHERE WHAT IT READS IS OF BULK AT MOST 1048576: true; the input reads as it did. -/
def shopOwnUptoRow : OpenClaim := { program := "ytfncpcmaplhojaa", sum := "b48a4a9af6fd9c5871b20484fe635b77e109f60519efae5b6683cff855c9dac6", func := "scrivenry/scrivkeep.ShopOwn", spec := "shopOwn", inPlace := ["internal/abi.NoEscape"], unfollowed := true, recurses := true, apart := false, narrowed := true }
def ShopOwnUptoSaid : Prop := shopOwnUptoRow.holds Try.pinned (OpenSpec.upto shopOwnSpec)

/-- 'scrivkeep.ShopStays', WHERE WHAT IT READS IS OF BULK AT MOST 1048576: true; the input reads as it did. -/
def shopStaysUptoRow : OpenClaim := { program := "ytfncpcmaplhojaa", sum := "b48a4a9af6fd9c5871b20484fe635b77e109f60519efae5b6683cff855c9dac6", func := "scrivenry/scrivkeep.ShopStays", spec := "shopStays", inPlace := ["internal/abi.NoEscape"], apart := false, narrowed := true }
def ShopStaysUptoSaid : Prop := shopStaysUptoRow.holds Try.pinned (OpenSpec.upto shopStaysSpec)

/-- 'scrivkeep.ShopFrames', WHERE WHAT IT READS IS OF BULK AT MOST 1048576: true; the input reads as it did. -/
def shopFramesUptoRow : OpenClaim := { program := "ytfncpcmaplhojaa", sum := "b48a4a9af6fd9c5871b20484fe635b77e109f60519efae5b6683cff855c9dac6", func := "scrivenry/scrivkeep.ShopFrames", spec := "shopFrames", inPlace := ["internal/abi.NoEscape"], apart := false, narrowed := true }
def ShopFramesUptoSaid : Prop := shopFramesUptoRow.holds Try.pinned (OpenSpec.upto shopFramesSpec)

end Rows
end Go.Proofs.Ytfncpcmaplhojaa
