/- Who comes late; plain lists, no program. -/
import Derived.Test.YtfncpcmaplhojaaUndoLaw
namespace Go.Proofs.Ytfncpcmaplhojaa
set_option linter.unusedVariables false
set_option linter.unusedSimpArgs false

theorem meet_do {a b : List Pt} {s : ByteArray} (h : meetE a b = 0) (h1 : doE a s = 0) (h2 : doE b s = 0) : doE (meetD a b) (doS a s) = 0 ∧ doE (meetC a b) (doS b s) = 0 ∧ doS (meetD a b) (doS a s) = doS (meetC a b) (doS b s) := by
  have hg := meet_good h
  have hz := meet_sizes h
  have e1 : doE (meetD a b) (doS a s) = 0 := do_zero hg.2 (by rw [do_size h1, hz.2.1])
  have e2 : doE (meetC a b) (doS b s) = 0 := do_zero hg.1 (by rw [do_size h2, hz.1])
  refine ⟨e1, e2, ?_⟩
  rw [← (comp_do h1 e1).2.2, ← (comp_do h2 e2).2.2, (meet_comp h).2.2]
end Go.Proofs.Ytfncpcmaplhojaa
