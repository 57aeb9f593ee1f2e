/- Small laws for the laws over tiers. -/
import Derived.Test.YtfncpcmaplhojaaTierBet
namespace Go.Proofs.Ytfncpcmaplhojaa
open Go.ChangeShapes Go.WideShapes Go.RowKit
set_option linter.unusedVariables false
set_option linter.unusedSimpArgs false
set_option maxRecDepth 100000
set_option maxHeartbeats 4000000

theorem OwnTier.form {w : World} {B : Nat} {v : Value} {rs : List Value} {uss : List (List Value)} {lss : List (List (List Pt))} (h : OwnTier w B v rs uss lss) : ∃ A c, v = .slice A lss.length c := by
  have h1 := h.len1
  rcases h.own.2 with ⟨rfl, h0⟩ | ⟨g, cap, cur, rfl, _⟩
  · exact ⟨none, 0, by rw [← h1, h0]⟩
  · exact ⟨_, _, by rw [← h1]⟩
theorem OwnTier.stepA {w : World} {B : Nat} {v : Value} {rs : List Value} {uss : List (List Value)} {lss : List (List (List Pt))} (h : OwnTier w B v rs uss lss) (o : Obj) : OwnTier (w.alloc o) B v rs uss lss :=
  h.step ((Below.refl w.heap.size w).alloc (Nat.le_refl _) o)
/-- tier.Build of a good history, its slice with its length -/
theorem build_rd (base : ByteArray) (l : List Rv) (A : Option Addr) (n c : Nat) (w : World) (h : RdR w w.heap.size A n c l) (he : txE base l = 0) (m : Nat) (hm : (tiersL l).length = m) :
    Calls Try.prog 15 #[.string base, .slice A n c] w fun e w' => ∃ A1 c1 rs uss, e = .returned (.tuple #[.slice A1 m c1, .int .i64 0]) ∧ OwnTier w' w.heap.size (.slice A1 m c1) rs uss (tiersL l) ∧ Inc uss.flatten ∧ Below w.heap.size w w' := by
  refine (build_good base l A n c _ w h (Nat.le_refl _) he).mono ?_
  rintro e w' ⟨v, rs, uss, rfl, h1, h2, h3⟩
  obtain ⟨A1, c1, rfl⟩ := h1.form
  rw [hm] at h1 ⊢
  exact ⟨_, _, _, _, rfl, h1, h2, h3⟩
end Go.Proofs.Ytfncpcmaplhojaa
