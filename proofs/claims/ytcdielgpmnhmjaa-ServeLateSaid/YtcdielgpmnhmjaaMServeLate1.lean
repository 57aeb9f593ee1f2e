/- Contract of turn.Of. Contracts of undo.Of. -/
import Derived.Test.YtcdielgpmnhmjaaK10
import Derived.Test.YtcdielgpmnhmjaaK5
import Derived.Test.YtcdielgpmnhmjaaK19
import Derived.Test.YtcdielgpmnhmjaaK6
import Derived.Test.YtcdielgpmnhmjaaK14
import Derived.Test.YtcdielgpmnhmjaaK20
namespace Go.Proofs.Ytcdielgpmnhmjaa
open Go.ChangeShapes Go.WideShapes Go.RowKit
set_option linter.unusedVariables false
set_option linter.unusedSimpArgs false
set_option maxRecDepth 100000
set_option maxHeartbeats 4000000

end Go.Proofs.Ytcdielgpmnhmjaa
namespace Go.Proofs.Ytcdielgpmnhmjaa
open Go.ChangeShapes Go.WideShapes Go.RowKit
set_option linter.unusedVariables false
set_option linter.unusedSimpArgs false
set_option maxRecDepth 100000
set_option maxHeartbeats 4000000

theorem meet_rdn (a b : List Pt) (A A' : Option Addr) (n n' c c' : Nat) (w : World) (h : RdP w w.heap.size A n c a) (h' : RdP w w.heap.size A' n' c' b) (z : Int) (x y : List Pt) (hz : meetE a b = z) (hx : meetC a b = x) (hy : meetD a b = y) :
    Calls Try.prog 73 #[.slice A n c, .slice A' n' c'] w fun e w' => ∃ A1 n1 c1 A2 n2 c2, e = .returned (.tuple #[.slice A1 n1 c1, .slice A2 n2 c2, .int .i64 z]) ∧
      RdP w' w'.heap.size A1 n1 c1 x ∧ RdP w' w'.heap.size A2 n2 c2 y ∧ Below w.heap.size w w' := by
  subst hz; subst hx; subst hy
  refine (meet_rd a b A A' n n' c c' w h h').mono ?_
  rintro e w' ⟨A1, c1, A2, c2, rfl, h1, h2, hb⟩
  exact ⟨_, _, _, _, _, _, rfl, h1, h2, hb⟩
end Go.Proofs.Ytcdielgpmnhmjaa
