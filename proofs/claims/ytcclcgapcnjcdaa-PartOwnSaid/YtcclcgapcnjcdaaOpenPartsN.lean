/- opens a list of parts that may have room behind it (nil told apart). -/
import Derived.Test.YtcclcgapcnjcdaaSpoilOwn
import Derived.Test.YtcclcgapcnjcdaaOpenParts
namespace Go.Proofs.Ytcclcgapcnjcdaa
open Go.ChangeShapes Go.WideShapes Go.RowKit Go.Joins Go.Deep
set_option linter.unusedVariables false
set_option linter.unusedSimpArgs false
set_option maxRecDepth 100000
set_option maxHeartbeats 4000000
section
variable {H : Type} {enc : TypeId × Value → H} {w : World} {base : Nat} {spare : Nat → Bool} {held : Bool}
theorem open_partsN_said {r : Reach} {b0 : Nat} {v : Value} {d : DataW H} {p : List MemPlace} (hv : Value.okWide Try.prog w r b0 45 v) (h : DataW.Trod enc Try.prog w base spare held 45 v d p) (h2 : ∀ x ∈ p, x.block < w.heap.size)
    (hb : ∀ x ∈ DataW.weights Try.prog 45 d, x ≤ 140737488351232) : ∃ x, IsPartsN w v x := by
  obtain ⟨x, A, n, c, rfl, hr⟩ := open_parts_said hv h h2 hb
  refine ⟨x, A, n, c, rfl, hr, ?_⟩
  obtain ⟨fuel, hf⟩ := h
  rcases open_slice_fields Try.underlying45 Try.underlying56 (by kernel_rfl) (by kernel_rfl) hf with ⟨hc, _⟩ | ⟨a, len, cap, m, D, Pl, hc, _, h1, _, h3, hx, _⟩
  · injection hc with hc _
    injection hc with e1 e2 e3
    exact ⟨by omega, fun _ => e3⟩
  · injection hc with hc _
    injection hc with e1 e2 e3
    have hl : len ≤ m := by rw [h3]; split <;> omega
    have hd : d = .slice ((List.range len).map D) ((List.range (m - len)).map fun j => D (len + j)) := congrArg Prod.fst hx
    have hbo : Try.prog.bytesOf 56 = 32 := by kernel_rfl
    have := hb ((((List.range len).map D).length + ((List.range (m - len)).map fun j => D (len + j)).length) * 32) (by
      rw [hd]
      simp only [DataW.weights, Try.underlying45, hbo]
      exact List.mem_cons_self)
    simp only [List.length_map, List.length_range] at this
    exact ⟨by omega, fun e => by rw [e1] at e; cases e⟩
end
end Go.Proofs.Ytcclcgapcnjcdaa
