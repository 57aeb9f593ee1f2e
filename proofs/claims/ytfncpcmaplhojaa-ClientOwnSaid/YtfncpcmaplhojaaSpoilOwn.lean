/- spoil of a row of the call's own. -/
import Derived.Test.YtfncpcmaplhojaaCloneP
namespace Go.Proofs.Ytfncpcmaplhojaa
open Go.ChangeShapes Go.WideShapes Go.RowKit
set_option linter.unusedVariables false
set_option linter.unusedSimpArgs false
set_option maxRecDepth 100000
set_option maxHeartbeats 4000000

theorem spoil_nil (p : Pt) (w : World) :
    Calls Try.prog 29 #[.slice none 0 0, pval p] w fun e w' => e = .returned (.tuple #[]) ∧ Below w.heap.size w w' := by
  obtain ⟨kd, m, t⟩ := p
  unfold pval
  go_enter Try.func29, Try.ntmps29
  go_wp2_with fail
  have hb := (Below.refl w.heap.size w).alloc (Nat.le_refl _) (.cells #[.int .i64 kd, .int .i64 m, .string t] 45)
  generalize w.alloc (.cells #[.int .i64 kd, .int .i64 m, .string t] 45) = W at *
  go_loopw [4, 11] (fun uv iv wr => iv = .int .i64 0 ∧ Hid (Below w.heap.size w wr)) (fun _ iv _ => 0)
  case atStart => exact ⟨rfl, Lib.hid hb⟩
  case round =>
    obtain ⟨rfl, hbw⟩ := hrel
    go_wp2_with fail
    go_end0
    exact ⟨rfl, hbw.out⟩
theorem spoil_own (p : Pt) (v : Value) (l : List Pt) (B : Nat) (w : World) (h : OwnP w B v l) :
    Calls Try.prog 29 #[v, pval p] w fun e w' => e = .returned (.tuple #[]) ∧ Only w w' (fun k => v.ownBlock = some k) := by
  rcases h.2 with ⟨rfl, h0⟩ | ⟨g, cap, cur, rfl, hb, hg, hnc, hcm, hcs, htake⟩
  · clear h0
    refine (spoil_nil p w).mono ?_
    rintro e w' ⟨rfl, hb⟩
    exact ⟨rfl, Only.of_below hb⟩
  · refine (spoil_any p g l.length cap cur w hg hcs hnc hcm).mono ?_
    rintro e w' ⟨rfl, ho⟩
    exact ⟨rfl, ho.mono fun k _ hk => by subst hk; rfl⟩
/-- a list of parts as it came in, nil where it has no place -/
def IsPartsN (w : World) (v : Value) (l : List Pt) : Prop := ∃ A n c, v = .slice A n c ∧ RdP w w.heap.size A n c l ∧ n ≤ 4398046511104 ∧ (A = none → c = 0)
end Go.Proofs.Ytfncpcmaplhojaa
