/-
  No cell of these rows narrows 'for every input' (looked for: loops, veiled, ifaces, maps, wideKeys, modest, calm, conditions, laid).
  DERIVED. THE GIVEN ROWS OF THIS SEAT. 12 by the template 'for every input the law returns true; each argument reads behind the call as it read before'; 0 by the template 'total and deterministic' (their statements: YtchnbmdfpgkefaaTotals.lean).
  GIVEN WITH THE SEED: the statements are not yours to turn. If you find one false, say at which input.
  Laid BY PROGRAM, IN A SANDBOX (cutbox-rows.mjs): the forced cells as the released guide's own fill.sh prints them over the translation 2d9699ccde3becc2… (all of the seat's roots in one cut). By AI agents, Wed Nov 11 2026. No macro, syntax, notation, axiom, sorry.
-/
import Derived.Test.YtchnbmdfpgkefaaChecked
import GoSem.Claim
import GoSem.ClaimJoined
import GoSem.ClaimMapViews
import Derived.JoinedTies
import Derived.KernelRfl
namespace Go.Proofs.Ytchnbmdfpgkefaa
/- THE CELL 'sum', in the pinned program and in every row, IS THE sha256 OF THE DUMP (.gsa) THAT YtchnbmdfpgkefaaProg.lean LOADS. Nothing in Lean hashes anything: it is a label: what it is worth is what the hold of that sum in a sandbox is worth. -/
noncomputable def Try.pinned : Pinned := { name := "ytchnbmdfpgkefaa", sum := "2d9699ccde3becc20b34285797c3baee0b089fc7def4d1f4c9643ffb798f0f3c", checked := Try.checked }
namespace Rows
def none {H : Type} : Left H := { results := [], args := [] }

/-- 'scrivkeep.CatchMeets': WHATEVER THE INPUT: true; the input reads as it did. -/
def catchMeetsSpec : ChangeSpec := { name := "catchMeets", fn := fun _ => fun
  | [d1, d2, d3, d4] => { results := [.lit (.bool true)], args := [d1, d2, d3, d4] }
  | _ => none }
def catchMeetsRow : OpenClaim := { program := "ytchnbmdfpgkefaa", sum := "2d9699ccde3becc20b34285797c3baee0b089fc7def4d1f4c9643ffb798f0f3c", func := "scrivenry/scrivkeep.CatchMeets", spec := "catchMeets", inPlace := ["internal/abi.NoEscape"], apart := false }
def CatchMeetsSaid : Prop := catchMeetsRow.holds Try.pinned (OpenSpec.ofChange catchMeetsSpec)

/-- ITS FALSE NEIGHBOUR: 'it returns false'. Refute it at one input. -/
def catchMeetsWrong : ChangeSpec := { name := "catchMeets", fn := fun _ => fun
  | [d1, d2, d3, d4] => { results := [.lit (.bool false)], args := [d1, d2, d3, d4] }
  | _ => none }
def CatchMeetsWrongFalsely : Prop := catchMeetsRow.holds Try.pinned (OpenSpec.ofChange catchMeetsWrong)

/-- 'scrivkeep.CatchIdle': WHATEVER THE INPUT: true; the input reads as it did. -/
def catchIdleSpec : ChangeSpec := { name := "catchIdle", fn := fun _ => fun
  | [d1, d2, d3, d4] => { results := [.lit (.bool true)], args := [d1, d2, d3, d4] }
  | _ => none }
def catchIdleRow : OpenClaim := { program := "ytchnbmdfpgkefaa", sum := "2d9699ccde3becc20b34285797c3baee0b089fc7def4d1f4c9643ffb798f0f3c", func := "scrivenry/scrivkeep.CatchIdle", spec := "catchIdle", inPlace := ["internal/abi.NoEscape"], apart := false }
def CatchIdleSaid : Prop := catchIdleRow.holds Try.pinned (OpenSpec.ofChange catchIdleSpec)

/-- ITS FALSE NEIGHBOUR: 'it returns false'. Refute it at one input. -/
def catchIdleWrong : ChangeSpec := { name := "catchIdle", fn := fun _ => fun
  | [d1, d2, d3, d4] => { results := [.lit (.bool false)], args := [d1, d2, d3, d4] }
  | _ => none }
def CatchIdleWrongFalsely : Prop := catchIdleRow.holds Try.pinned (OpenSpec.ofChange catchIdleWrong)

/-- 'scrivkeep.CatchEach': WHATEVER THE INPUT: true; the input reads as it did. -/
def catchEachSpec : ChangeSpec := { name := "catchEach", fn := fun _ => fun
  | [d1, d2, d3, d4] => { results := [.lit (.bool true)], args := [d1, d2, d3, d4] }
  | _ => none }
def catchEachRow : OpenClaim := { program := "ytchnbmdfpgkefaa", sum := "2d9699ccde3becc20b34285797c3baee0b089fc7def4d1f4c9643ffb798f0f3c", func := "scrivenry/scrivkeep.CatchEach", spec := "catchEach", inPlace := ["internal/abi.NoEscape"], unfollowed := true, recurses := true, apart := false }
def CatchEachSaid : Prop := catchEachRow.holds Try.pinned (OpenSpec.ofChange catchEachSpec)

/-- ITS FALSE NEIGHBOUR: 'it returns false'. Refute it at one input. -/
def catchEachWrong : ChangeSpec := { name := "catchEach", fn := fun _ => fun
  | [d1, d2, d3, d4] => { results := [.lit (.bool false)], args := [d1, d2, d3, d4] }
  | _ => none }
def CatchEachWrongFalsely : Prop := catchEachRow.holds Try.pinned (OpenSpec.ofChange catchEachWrong)

/-- 'scrivkeep.RevsParts': WHATEVER THE INPUT: true; the input reads as it did. -/
def revsPartsSpec : ChangeSpec := { name := "revsParts", fn := fun _ => fun
  | [d1, d2, d3, d4, d5] => { results := [.lit (.bool true)], args := [d1, d2, d3, d4, d5] }
  | _ => none }
def revsPartsRow : OpenClaim := { program := "ytchnbmdfpgkefaa", sum := "2d9699ccde3becc20b34285797c3baee0b089fc7def4d1f4c9643ffb798f0f3c", func := "scrivenry/scrivkeep.RevsParts", spec := "revsParts", inPlace := ["internal/abi.NoEscape"], recurses := true, apart := false }
def RevsPartsSaid : Prop := revsPartsRow.holds Try.pinned (OpenSpec.ofChange revsPartsSpec)

/-- ITS FALSE NEIGHBOUR: 'it returns false'. Refute it at one input. -/
def revsPartsWrong : ChangeSpec := { name := "revsParts", fn := fun _ => fun
  | [d1, d2, d3, d4, d5] => { results := [.lit (.bool false)], args := [d1, d2, d3, d4, d5] }
  | _ => none }
def RevsPartsWrongFalsely : Prop := revsPartsRow.holds Try.pinned (OpenSpec.ofChange revsPartsWrong)

/-- 'scrivkeep.TierRows': WHATEVER THE INPUT: true; the input reads as it did. -/
def tierRowsSpec : ChangeSpec := { name := "tierRows", fn := fun _ => fun
  | [d1, d2, d3, d4] => { results := [.lit (.bool true)], args := [d1, d2, d3, d4] }
  | _ => none }
def tierRowsRow : OpenClaim := { program := "ytchnbmdfpgkefaa", sum := "2d9699ccde3becc20b34285797c3baee0b089fc7def4d1f4c9643ffb798f0f3c", func := "scrivenry/scrivkeep.TierRows", spec := "tierRows", inPlace := ["internal/abi.NoEscape"], apart := false }
def TierRowsSaid : Prop := tierRowsRow.holds Try.pinned (OpenSpec.ofChange tierRowsSpec)

/-- ITS FALSE NEIGHBOUR: 'it returns false'. Refute it at one input. -/
def tierRowsWrong : ChangeSpec := { name := "tierRows", fn := fun _ => fun
  | [d1, d2, d3, d4] => { results := [.lit (.bool false)], args := [d1, d2, d3, d4] }
  | _ => none }
def TierRowsWrongFalsely : Prop := tierRowsRow.holds Try.pinned (OpenSpec.ofChange tierRowsWrong)

/-- 'scrivkeep.TierOwn': WHATEVER THE INPUT: true; the input reads as it did. -/
def tierOwnSpec : ChangeSpec := { name := "tierOwn", fn := fun _ => fun
  | [d1, d2, d3, d4] => { results := [.lit (.bool true)], args := [d1, d2, d3, d4] }
  | _ => none }
def tierOwnRow : OpenClaim := { program := "ytchnbmdfpgkefaa", sum := "2d9699ccde3becc20b34285797c3baee0b089fc7def4d1f4c9643ffb798f0f3c", func := "scrivenry/scrivkeep.TierOwn", spec := "tierOwn", inPlace := ["internal/abi.NoEscape"], unfollowed := true, recurses := true, apart := false }
def TierOwnSaid : Prop := tierOwnRow.holds Try.pinned (OpenSpec.ofChange tierOwnSpec)

/-- ITS FALSE NEIGHBOUR: 'it returns false'. Refute it at one input. -/
def tierOwnWrong : ChangeSpec := { name := "tierOwn", fn := fun _ => fun
  | [d1, d2, d3, d4] => { results := [.lit (.bool false)], args := [d1, d2, d3, d4] }
  | _ => none }
def TierOwnWrongFalsely : Prop := tierOwnRow.holds Try.pinned (OpenSpec.ofChange tierOwnWrong)

/-- 'scrivkeep.TierSame': WHATEVER THE INPUT: true; the input reads as it did. -/
def tierSameSpec : ChangeSpec := { name := "tierSame", fn := fun _ => fun
  | [d1, d2, d3, d4] => { results := [.lit (.bool true)], args := [d1, d2, d3, d4] }
  | _ => none }
def tierSameRow : OpenClaim := { program := "ytchnbmdfpgkefaa", sum := "2d9699ccde3becc20b34285797c3baee0b089fc7def4d1f4c9643ffb798f0f3c", func := "scrivenry/scrivkeep.TierSame", spec := "tierSame", inPlace := ["internal/abi.NoEscape"], apart := false }
def TierSameSaid : Prop := tierSameRow.holds Try.pinned (OpenSpec.ofChange tierSameSpec)

/-- ITS FALSE NEIGHBOUR: 'it returns false'. Refute it at one input. -/
def tierSameWrong : ChangeSpec := { name := "tierSame", fn := fun _ => fun
  | [d1, d2, d3, d4] => { results := [.lit (.bool false)], args := [d1, d2, d3, d4] }
  | _ => none }
def TierSameWrongFalsely : Prop := tierSameRow.holds Try.pinned (OpenSpec.ofChange tierSameWrong)

/-- 'scrivkeep.ClientHolds': WHATEVER THE INPUT: true; the input reads as it did. -/
def clientHoldsSpec : ChangeSpec := { name := "clientHolds", fn := fun _ => fun
  | [d1, d2, d3, d4] => { results := [.lit (.bool true)], args := [d1, d2, d3, d4] }
  | _ => none }
def clientHoldsRow : OpenClaim := { program := "ytchnbmdfpgkefaa", sum := "2d9699ccde3becc20b34285797c3baee0b089fc7def4d1f4c9643ffb798f0f3c", func := "scrivenry/scrivkeep.ClientHolds", spec := "clientHolds", inPlace := ["internal/abi.NoEscape"], apart := false }
def ClientHoldsSaid : Prop := clientHoldsRow.holds Try.pinned (OpenSpec.ofChange clientHoldsSpec)

/-- ITS FALSE NEIGHBOUR: 'it returns false'. Refute it at one input. -/
def clientHoldsWrong : ChangeSpec := { name := "clientHolds", fn := fun _ => fun
  | [d1, d2, d3, d4] => { results := [.lit (.bool false)], args := [d1, d2, d3, d4] }
  | _ => none }
def ClientHoldsWrongFalsely : Prop := clientHoldsRow.holds Try.pinned (OpenSpec.ofChange clientHoldsWrong)

/-- 'scrivkeep.ClientOwn': WHATEVER THE INPUT: true; the input reads as it did. -/
def clientOwnSpec : ChangeSpec := { name := "clientOwn", fn := fun _ => fun
  | [d1, d2, d3] => { results := [.lit (.bool true)], args := [d1, d2, d3] }
  | _ => none }
def clientOwnRow : OpenClaim := { program := "ytchnbmdfpgkefaa", sum := "2d9699ccde3becc20b34285797c3baee0b089fc7def4d1f4c9643ffb798f0f3c", func := "scrivenry/scrivkeep.ClientOwn", spec := "clientOwn", inPlace := ["internal/abi.NoEscape"], apart := false }
def ClientOwnSaid : Prop := clientOwnRow.holds Try.pinned (OpenSpec.ofChange clientOwnSpec)

/-- ITS FALSE NEIGHBOUR: 'it returns false'. Refute it at one input. -/
def clientOwnWrong : ChangeSpec := { name := "clientOwn", fn := fun _ => fun
  | [d1, d2, d3] => { results := [.lit (.bool false)], args := [d1, d2, d3] }
  | _ => none }
def ClientOwnWrongFalsely : Prop := clientOwnRow.holds Try.pinned (OpenSpec.ofChange clientOwnWrong)

/-- 'scrivkeep.ClientOwns': WHATEVER THE INPUT: true; the input reads as it did. -/
def clientOwnsSpec : ChangeSpec := { name := "clientOwns", fn := fun _ => fun
  | [d1, d2, d3, d4] => { results := [.lit (.bool true)], args := [d1, d2, d3, d4] }
  | _ => none }
def clientOwnsRow : OpenClaim := { program := "ytchnbmdfpgkefaa", sum := "2d9699ccde3becc20b34285797c3baee0b089fc7def4d1f4c9643ffb798f0f3c", func := "scrivenry/scrivkeep.ClientOwns", spec := "clientOwns", inPlace := ["internal/abi.NoEscape"], apart := false }
def ClientOwnsSaid : Prop := clientOwnsRow.holds Try.pinned (OpenSpec.ofChange clientOwnsSpec)

/-- ITS FALSE NEIGHBOUR: 'it returns false'. Refute it at one input. -/
def clientOwnsWrong : ChangeSpec := { name := "clientOwns", fn := fun _ => fun
  | [d1, d2, d3, d4] => { results := [.lit (.bool false)], args := [d1, d2, d3, d4] }
  | _ => none }
def ClientOwnsWrongFalsely : Prop := clientOwnsRow.holds Try.pinned (OpenSpec.ofChange clientOwnsWrong)

/-- 'scrivkeep.HotTorn': WHATEVER THE INPUT: true; the input reads as it did. -/
def hotTornSpec : ChangeSpec := { name := "hotTorn", fn := fun _ => fun
  | [d1, d2] => { results := [.lit (.bool true)], args := [d1, d2] }
  | _ => none }
def hotTornRow : OpenClaim := { program := "ytchnbmdfpgkefaa", sum := "2d9699ccde3becc20b34285797c3baee0b089fc7def4d1f4c9643ffb798f0f3c", func := "scrivenry/scrivkeep.HotTorn", spec := "hotTorn", inPlace := ["internal/abi.NoEscape"], unfollowed := true, recurses := true, apart := false }
def HotTornSaid : Prop := hotTornRow.holds Try.pinned (OpenSpec.ofChange hotTornSpec)

/-- ITS FALSE NEIGHBOUR: 'it returns false'. Refute it at one input. -/
def hotTornWrong : ChangeSpec := { name := "hotTorn", fn := fun _ => fun
  | [d1, d2] => { results := [.lit (.bool false)], args := [d1, d2] }
  | _ => none }
def HotTornWrongFalsely : Prop := hotTornRow.holds Try.pinned (OpenSpec.ofChange hotTornWrong)

/-- 'scrivkeep.HotBack': WHATEVER THE INPUT: true; the input reads as it did. -/
def hotBackSpec : ChangeSpec := { name := "hotBack", fn := fun _ => fun
  | [d1, d2, d3, d4] => { results := [.lit (.bool true)], args := [d1, d2, d3, d4] }
  | _ => none }
def hotBackRow : OpenClaim := { program := "ytchnbmdfpgkefaa", sum := "2d9699ccde3becc20b34285797c3baee0b089fc7def4d1f4c9643ffb798f0f3c", func := "scrivenry/scrivkeep.HotBack", spec := "hotBack", inPlace := ["internal/abi.NoEscape"], unfollowed := true, recurses := true, apart := false }
def HotBackSaid : Prop := hotBackRow.holds Try.pinned (OpenSpec.ofChange hotBackSpec)

/-- ITS FALSE NEIGHBOUR: 'it returns false'. Refute it at one input. -/
def hotBackWrong : ChangeSpec := { name := "hotBack", fn := fun _ => fun
  | [d1, d2, d3, d4] => { results := [.lit (.bool false)], args := [d1, d2, d3, d4] }
  | _ => none }
def HotBackWrongFalsely : Prop := hotBackRow.holds Try.pinned (OpenSpec.ofChange hotBackWrong)

/- THE SECOND FORM. 'bulk': how many values and letters a reading holds, each counted each time it is reached (what is shared counts as often as it is met; a slice's spare places count too). A statement '..UptoSaid' is the law's where the arguments, and the package variables that the reading takes, are together of bulk at most 1048576: NARROWER than '..Said'. Prove '..Said' where nothing that the law and all that it calls make is longer than what came in: it says more and counts as full. Else prove '..UptoSaid'. A law counts once. -/
mutual
def uptoBulk {H : Type} : DataW H → Nat
  | .lit (.string bytes) => bytes.length + 1
  | .lit _ => 1
  | .nil => 1
  | .ptr d => uptoBulk d + 1
  | .slice elems spare => uptoBulkAll elems + uptoBulkAll spare + 1
  | .agg parts => uptoBulkAll parts + 1
  | .iface _ d => uptoBulk d + 1
  | .map entries => uptoBulkEntries entries + 1
  | .held _ => 1
def uptoBulkAll {H : Type} : List (DataW H) → Nat
  | [] => 0
  | d :: r => uptoBulk d + uptoBulkAll r
def uptoBulkEntries {H : Type} : List (Lit × DataW H) → Nat
  | [] => 0
  | x :: r => uptoBulkEntry x + uptoBulkEntries r
def uptoBulkEntry {H : Type} : Lit × DataW H → Nat
  | (.string bytes, d) => bytes.length + uptoBulk d + 1
  | (_, d) => uptoBulk d + 1
 end
def uptoSmall : (H : Type) → List (DataW H) → Bool := fun _ ds => decide (uptoBulkAll ds ≤ 1048576)
def OpenSpec.upto (s : _root_.Go.ChangeSpec) : _root_.Go.OpenSpec := { _root_.Go.OpenSpec.ofChange s with cond := some uptoSmall }

/-- 'scrivkeep.CatchMeets', WHERE WHAT IT READS IS OF BULK AT MOST 1048576: true; the input reads as it did. -/
def catchMeetsUptoRow : OpenClaim := { program := "ytchnbmdfpgkefaa", sum := "2d9699ccde3becc20b34285797c3baee0b089fc7def4d1f4c9643ffb798f0f3c", func := "scrivenry/scrivkeep.CatchMeets", spec := "catchMeets", inPlace := ["internal/abi.NoEscape"], apart := false, narrowed := true }
def CatchMeetsUptoSaid : Prop := catchMeetsUptoRow.holds Try.pinned (OpenSpec.upto catchMeetsSpec)

/-- 'scrivkeep.CatchIdle', WHERE WHAT IT READS IS OF BULK AT MOST 1048576: true; the input reads as it did. -/
def catchIdleUptoRow : OpenClaim := { program := "ytchnbmdfpgkefaa", sum := "2d9699ccde3becc20b34285797c3baee0b089fc7def4d1f4c9643ffb798f0f3c", func := "scrivenry/scrivkeep.CatchIdle", spec := "catchIdle", inPlace := ["internal/abi.NoEscape"], apart := false, narrowed := true }
def CatchIdleUptoSaid : Prop := catchIdleUptoRow.holds Try.pinned (OpenSpec.upto catchIdleSpec)

/-- 'scrivkeep.CatchEach', WHERE WHAT IT READS IS OF BULK AT MOST 1048576: true; the input reads as it did. -/
def catchEachUptoRow : OpenClaim := { program := "ytchnbmdfpgkefaa", sum := "2d9699ccde3becc20b34285797c3baee0b089fc7def4d1f4c9643ffb798f0f3c", func := "scrivenry/scrivkeep.CatchEach", spec := "catchEach", inPlace := ["internal/abi.NoEscape"], unfollowed := true, recurses := true, apart := false, narrowed := true }
def CatchEachUptoSaid : Prop := catchEachUptoRow.holds Try.pinned (OpenSpec.upto catchEachSpec)

/-- 'scrivkeep.RevsParts', WHERE WHAT IT READS IS OF BULK AT MOST 1048576: true; the input reads as it did. -/
def revsPartsUptoRow : OpenClaim := { program := "ytchnbmdfpgkefaa", sum := "2d9699ccde3becc20b34285797c3baee0b089fc7def4d1f4c9643ffb798f0f3c", func := "scrivenry/scrivkeep.RevsParts", spec := "revsParts", inPlace := ["internal/abi.NoEscape"], recurses := true, apart := false, narrowed := true }
def RevsPartsUptoSaid : Prop := revsPartsUptoRow.holds Try.pinned (OpenSpec.upto revsPartsSpec)

/-- 'scrivkeep.TierRows', WHERE WHAT IT READS IS OF BULK AT MOST 1048576: true; the input reads as it did. -/
def tierRowsUptoRow : OpenClaim := { program := "ytchnbmdfpgkefaa", sum := "2d9699ccde3becc20b34285797c3baee0b089fc7def4d1f4c9643ffb798f0f3c", func := "scrivenry/scrivkeep.TierRows", spec := "tierRows", inPlace := ["internal/abi.NoEscape"], apart := false, narrowed := true }
def TierRowsUptoSaid : Prop := tierRowsUptoRow.holds Try.pinned (OpenSpec.upto tierRowsSpec)

/-- 'scrivkeep.TierOwn', WHERE WHAT IT READS IS OF BULK AT MOST 1048576: true; the input reads as it did. -/
def tierOwnUptoRow : OpenClaim := { program := "ytchnbmdfpgkefaa", sum := "2d9699ccde3becc20b34285797c3baee0b089fc7def4d1f4c9643ffb798f0f3c", func := "scrivenry/scrivkeep.TierOwn", spec := "tierOwn", inPlace := ["internal/abi.NoEscape"], unfollowed := true, recurses := true, apart := false, narrowed := true }
def TierOwnUptoSaid : Prop := tierOwnUptoRow.holds Try.pinned (OpenSpec.upto tierOwnSpec)

/-- 'scrivkeep.TierSame', WHERE WHAT IT READS IS OF BULK AT MOST 1048576: true; the input reads as it did. -/
def tierSameUptoRow : OpenClaim := { program := "ytchnbmdfpgkefaa", sum := "2d9699ccde3becc20b34285797c3baee0b089fc7def4d1f4c9643ffb798f0f3c", func := "scrivenry/scrivkeep.TierSame", spec := "tierSame", inPlace := ["internal/abi.NoEscape"], apart := false, narrowed := true }
def TierSameUptoSaid : Prop := tierSameUptoRow.holds Try.pinned (OpenSpec.upto tierSameSpec)

/-- 'scrivkeep.ClientHolds', WHERE WHAT IT READS IS OF BULK AT MOST 1048576: true; the input reads as it did. -/
def clientHoldsUptoRow : OpenClaim := { program := "ytchnbmdfpgkefaa", sum := "2d9699ccde3becc20b34285797c3baee0b089fc7def4d1f4c9643ffb798f0f3c", func := "scrivenry/scrivkeep.ClientHolds", spec := "clientHolds", inPlace := ["internal/abi.NoEscape"], apart := false, narrowed := true }
def ClientHoldsUptoSaid : Prop := clientHoldsUptoRow.holds Try.pinned (OpenSpec.upto clientHoldsSpec)

/-- 'scrivkeep.ClientOwn', WHERE WHAT IT READS IS OF BULK AT MOST 1048576: true; the input reads as it did. -/
def clientOwnUptoRow : OpenClaim := { program := "ytchnbmdfpgkefaa", sum := "2d9699ccde3becc20b34285797c3baee0b089fc7def4d1f4c9643ffb798f0f3c", func := "scrivenry/scrivkeep.ClientOwn", spec := "clientOwn", inPlace := ["internal/abi.NoEscape"], apart := false, narrowed := true }
def ClientOwnUptoSaid : Prop := clientOwnUptoRow.holds Try.pinned (OpenSpec.upto clientOwnSpec)

/-- 'scrivkeep.ClientOwns', WHERE WHAT IT READS IS OF BULK AT MOST 1048576: true; the input reads as it did. -/
def clientOwnsUptoRow : OpenClaim := { program := "ytchnbmdfpgkefaa", sum := "2d9699ccde3becc20b34285797c3baee0b089fc7def4d1f4c9643ffb798f0f3c", func := "scrivenry/scrivkeep.ClientOwns", spec := "clientOwns", inPlace := ["internal/abi.NoEscape"], apart := false, narrowed := true }
def ClientOwnsUptoSaid : Prop := clientOwnsUptoRow.holds Try.pinned (OpenSpec.upto clientOwnsSpec)

/-- 'scrivkeep.HotTorn', WHERE WHAT IT READS IS OF BULK AT MOST 1048576: true; the input reads as it did. -/
def hotTornUptoRow : OpenClaim := { program := "ytchnbmdfpgkefaa", sum := "2d9699ccde3becc20b34285797c3baee0b089fc7def4d1f4c9643ffb798f0f3c", func := "scrivenry/scrivkeep.HotTorn", spec := "hotTorn", inPlace := ["internal/abi.NoEscape"], unfollowed := true, recurses := true, apart := false, narrowed := true }
def HotTornUptoSaid : Prop := hotTornUptoRow.holds Try.pinned (OpenSpec.upto hotTornSpec)

/-- 'scrivkeep.HotBack', WHERE WHAT IT READS IS OF BULK AT MOST 1048576: true; the input reads as it did. -/
def hotBackUptoRow : OpenClaim := { program := "ytchnbmdfpgkefaa", sum := "2d9699ccde3becc20b34285797c3baee0b089fc7def4d1f4c9643ffb798f0f3c", func := "scrivenry/scrivkeep.HotBack", spec := "hotBack", inPlace := ["internal/abi.NoEscape"], unfollowed := true, recurses := true, apart := false, narrowed := true }
def HotBackUptoSaid : Prop := hotBackUptoRow.holds Try.pinned (OpenSpec.upto hotBackSpec)

end Rows
end Go.Proofs.Ytchnbmdfpgkefaa
