/- Contract of the laws' helper Within: a number from 0 to n-1. -/
import Derived.Test.YtfncpcmaplhojaaBase
namespace Go.Proofs.Ytfncpcmaplhojaa
open Go.ChangeShapes Go.WideShapes Go.RowKit
set_option linter.unusedVariables false
set_option linter.unusedSimpArgs false
set_option maxRecDepth 100000
set_option maxHeartbeats 4000000

def wi (k : Int) (n : Nat) : Nat := (IntKind.u64.wrap k).toNat % n
theorem wi_lt (k : Int) (n : Nat) (h : 0 < n) : wi k n < n := Nat.mod_lt _ h

theorem within_any (k : Int) (n : Nat) (w : World) (h1 : 0 < n) (h2 : (n : Int) ≤ 1000000000000000000) :
    Calls Try.prog 20 #[.int .i64 k, .int .i64 n] w fun e w' => e = .returned (.int .i64 (wi k n)) ∧ w = w' := by
  go_enter Try.func20, Try.ntmps20
  go_wp2_with fail
  go_ret
  refine ⟨?_, rfl⟩
  have h0 : 0 ≤ IntKind.u64.wrap k := by
    simp only [IntKind.wrap, IntKind.signed, IntKind.bits]
    exact Int.emod_nonneg _ (by decide)
  obtain ⟨x, hx⟩ := Int.eq_ofNat_of_zero_le h0
  have hlt : x % n < n := Nat.mod_lt _ h1
  have e : wrap64 ((IntKind.u64.wrap k).tmod n) = (wi k n : Int) := by
    unfold wi
    rw [hx, Int.toNat_natCast, show (x : Int).tmod n = ((x % n : Nat) : Int) from rfl]
    exact IntWalk.wrap64_in _ ⟨by omega, by omega⟩
  show Ending.returned (.int .i64 (wrap64 ((IntKind.u64.wrap k).tmod n))) = _
  rw [e]
end Go.Proofs.Ytfncpcmaplhojaa
