/- code.Read's contract, the result as a slice that is read. -/
import Derived.Test.YtbgaoehpljnolaaCodeRead
import Derived.Test.YtbgaoehpljnolaaNorm
namespace Go.Proofs.Ytbgaoehpljnolaa
open Go.ChangeShapes Go.WideShapes Go.RowKit
set_option linter.unusedVariables false
set_option linter.unusedSimpArgs false
set_option maxRecDepth 100000
set_option maxHeartbeats 4000000

theorem readL_small (s : List UInt8) : ∀ p ∈ readL s, p.2.2.size ≤ 140737488351232 := by
  intro p hp
  by_cases h : readE s = 0
  · have hk := (read_one h).1
    have hf := (chk_parts hk).2.2.2.2.2 p hp
    rcases fit_bounds p hf with ⟨_, _, _, h4⟩ | ⟨_, _, _, h4⟩
    · rw [h4]; decide
    · omega
  · unfold readL at hp
    rw [if_neg h] at hp
    cases hp
theorem cread_rd (s : ByteArray) (w : World) (hs : s.size ≤ 140737488351232) :
    Calls Try.prog 43 #[.string s] w fun e w' => ∃ A c, e = .returned (.tuple #[.slice A (readL s.data.toList).length c, .int .i64 (readE s.data.toList)]) ∧ RdP w' w'.heap.size A (readL s.data.toList).length c (readL s.data.toList) ∧ Below w.heap.size w w' := by
  refine (cread_any s w hs).mono ?_
  rintro e w1 h
  exact ResP.rd h (readL_small _)
end Go.Proofs.Ytbgaoehpljnolaa
