/- Slices of ints, and a policy, opened. -/
import Derived.Test.YtcclcgapcnjcdaaOpen
import Derived.Test.YtcclcgapcnjcdaaKeep
import Derived.OpenShut
namespace Go.Proofs.Ytcclcgapcnjcdaa
open Go.ChangeShapes Go.WideShapes Go.RowKit Go.Joins
set_option linter.unusedVariables false
set_option linter.unusedSimpArgs false
set_option maxRecDepth 100000

/-- a policy as it came in -/
def IsPolicy (w : World) (v : Value) (x : Int × Int × List Int) : Prop := ∃ A n c, v = pol x.1 x.2.1 A n c ∧ RdI w w.heap.size A n c x.2.2
section
variable {H : Type} {enc : TypeId × Value → H} {w : World} {base : Nat} {spare : Nat → Bool} {held : Bool}
theorem read_ints {fuel : Nat} {v : Value} {x : DataW H × List MemPlace} (h : DataW.trod enc Try.prog w base spare held fuel 22 [v] = some x) : ∃ A n c l, v = .slice A n c ∧ RdI w w.heap.size A n c l := by
  rcases open_ints Try.underlying22 Try.underlying3 (by kernel_rfl) h with ⟨hc, _⟩ | ⟨a, len, cap, zs, hc, _, h1, h2, h3, _, h4, _⟩
  · simp only [List.cons.injEq, and_true] at hc
    exact ⟨_, _, _, [], hc, rfl, Rd.nil _ _ _⟩
  · simp only [List.cons.injEq, and_true] at hc
    have hl : len ≤ zs.length := by rw [h3]; split <;> omega
    have hl2 : (zs.take len).length = len := by rw [List.length_take]; omega
    refine ⟨_, _, _, zs.take len, hc, hl2.symm, rd_of (by omega) h1 h2 (by rw [ic_len, hl2, Nat.mul_one]) fun j u hj => ?_⟩
    have hjl : j < len := by
      rcases Nat.lt_or_ge j (ic (zs.take len)).length with hlt | hge
      · rw [ic_len, hl2] at hlt; exact hlt
      · rw [List.getElem?_eq_none hge] at hj; cases hj
    rw [ic_at _ j (by omega)] at hj
    injection hj with hj
    rw [h4 j (by omega), ← hj]
    simp [List.getD_eq_getElem?_getD, List.getElem?_eq_getElem (show j < zs.length by omega)]
theorem open_policy_said {r : Reach} {b0 : Nat} {v : Value} {d : DataW H} {p : List MemPlace} (hv : Value.okWide Try.prog w r b0 24 v) (h : DataW.Trod enc Try.prog w base spare held 24 v d p) (_ : ∀ x ∈ p, x.block < w.heap.size)
    (hb : ∀ x ∈ DataW.weights Try.prog 24 d, x ≤ 140737488351232) : ∃ x, IsPolicy w v x := by
  obtain ⟨v0, v1, v2, y0, y1, y2, n, rfl, rfl, rfl, h0, h1, h2⟩ := open_agg3 Try.underlying24 (by kernel_rfl) (by kernel_rfl) hv h
  obtain ⟨a, e0, rfl, _⟩ := DataW.trod_int Try.underlying3 h0
  obtain ⟨b, e1, rfl, _⟩ := DataW.trod_int Try.underlying3 h1
  obtain ⟨A, m, c, l, e2, hr⟩ := read_ints h2
  simp only [List.cons.injEq, and_true] at e0 e1
  subst e0 e1 e2
  exact ⟨(a, b, l), A, m, c, rfl, hr⟩
end
end Go.Proofs.Ytcclcgapcnjcdaa
