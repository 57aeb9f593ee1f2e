/- put of the laws; what is put at the beginning; what the ends need. Contract of world.Client. -/
import Derived.Test.YtokngfinnieccaaU29
import Derived.Test.YtokngfinnieccaaU26
import Derived.Test.YtokngfinnieccaaU11
import Derived.Test.YtokngfinnieccaaU27
namespace Go.Proofs.Ytokngfinnieccaa
open Go.ChangeShapes Go.WideShapes Go.RowKit
set_option linter.unusedVariables false
set_option linter.unusedSimpArgs false
set_option maxRecDepth 100000
set_option maxHeartbeats 4000000
def X0 (n : Nat) : List St := (seatsN n).set 0 (editS (seat0 0) [(2, 0, ⟨#[97]⟩)])

end Go.Proofs.Ytokngfinnieccaa
