/- Contract of scrivref.In. -/
import Derived.Test.YtcclcgapcnjcdaaNorm
namespace Go.Proofs.Ytcclcgapcnjcdaa
open Go.ChangeShapes Go.WideShapes Go.RowKit
set_option linter.unusedVariables false
set_option linter.unusedSimpArgs false
set_option maxRecDepth 100000
set_option maxHeartbeats 4000000

theorem szN_snoc (l : List Pt) (p : Pt) : szN (l ++ [p]) = szN l + p.2.1 := by
  induction l with
  | nil => simp [szN]
  | cons q l ih => simp only [List.cons_append, szN, ih]; omega
theorem nok_num {p : Pt} (h : NOk p) : 0 ≤ p.2.1 ∧ p.2.1 ≤ 500 := by
  rcases h with ⟨h1, h2, h3, h4⟩ | ⟨h1, h2, h3⟩ <;> omega
end Go.Proofs.Ytcclcgapcnjcdaa
