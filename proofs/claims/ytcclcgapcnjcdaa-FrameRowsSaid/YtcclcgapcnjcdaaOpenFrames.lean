/- Slices of frames, opened. -/
import Derived.Test.YtcclcgapcnjcdaaScan
import Derived.Test.YtcclcgapcnjcdaaOpen
namespace Go.Proofs.Ytcclcgapcnjcdaa
open Go.ChangeShapes Go.WideShapes Go.RowKit Go.Joins Go.Deep
set_option linter.unusedVariables false
set_option linter.unusedSimpArgs false
set_option maxRecDepth 100000

def IsFrames (w : World) (v : Value) (l : List Fm) : Prop := ∃ A n c, v = .slice A n c ∧ RdF w w.heap.size A n c l ∧ n ≤ 5864062014634
section
variable {H : Type} {enc : TypeId × Value → H} {w : World} {base : Nat} {spare : Nat → Bool} {held : Bool}
theorem read_frames {fuel : Nat} {v : Value} {x : DataW H × List MemPlace} (h : DataW.trod enc Try.prog w base spare held fuel 35 [v] = some x) (hb : ∀ n ∈ DataW.weights Try.prog 35 x.1, n ≤ 140737488351232) : ∃ l, IsFrames w v l := by
  rcases open_slice_fields Try.underlying35 Try.underlying37 (by kernel_rfl) (by kernel_rfl) h with ⟨hc, _⟩ | ⟨a, len, cap, m, D, Pl, hc, _, h1, h2, h3, hx, h4⟩
  · simp only [List.cons.injEq, and_true] at hc
    exact ⟨[], _, _, _, hc, ⟨rfl, Rd.nil _ _ _⟩, by decide⟩
  · simp only [List.cons.injEq, and_true] at hc
    have hl : len ≤ m := by rw [h3]; split <;> omega
    subst hx
    have hbo : Try.prog.bytesOf 37 = 24 := by kernel_rfl
    have hlen := hb ((((List.range len).map D).length + ((List.range (m - len)).map fun j => D (len + j)).length) * 24) (by
      simp only [DataW.weights, Try.underlying35, hbo]
      exact List.mem_cons_self)
    simp only [List.length_map, List.length_range] at hlen
    have h5 : ∀ i, i < len → ∃ p : Fm, w.cell? (a.add (i * 2)) = some (.int .i64 p.1) ∧ w.cell? (a.add (i * 2 + 1)) = some (.string p.2) := by
      intro i hi
      obtain ⟨ys, n, hD, _, hyl, hf⟩ := h4 i (by omega)
      obtain ⟨v0, y0, c0, e0, t0⟩ := hf 0 _ rfl
      obtain ⟨v1, y1, c1, e1, t1⟩ := hf 1 _ rfl
      obtain ⟨k0, z0, rfl, _⟩ := DataW.trod_int Try.underlying3 t0
      obtain ⟨s, z2, rfl, _⟩ := DataW.trod_string Try.underlying9 t1
      simp only [List.cons.injEq, and_true] at z0 z2
      subst z0 z2
      exact ⟨(k0, s), c0, c1⟩
    obtain ⟨l, hll, hp⟩ := pick_lt ((0, emp) : Fm) h5
    refine ⟨l, _, len, cap, hc, ⟨hll.symm, rd_of (by omega) h1 h2 (by rw [fc_len, hll]) fun j u hj => ?_⟩, by omega⟩
    have hjl : j < l.length * 2 := by
      rcases Nat.lt_or_ge j (fc l).length with hlt | hge
      · rw [fc_len] at hlt; exact hlt
      · rw [List.getElem?_eq_none hge] at hj; cases hj
    obtain ⟨q0, q1⟩ := fc_at l (j / 2) (by omega)
    obtain ⟨b0, b1⟩ := hp (j / 2) (by omega)
    have e : j = j / 2 * 2 + j % 2 := by omega
    rcases (show j % 2 = 0 ∨ j % 2 = 1 by omega) with h | h
    · rw [e, h, Nat.add_zero] at hj ⊢; rw [q0] at hj; rw [b0]; exact hj
    · rw [e, h] at hj ⊢; rw [q1] at hj; rw [b1]; exact hj
theorem open_frames_said {r : Reach} {b0 : Nat} {v : Value} {d : DataW H} {p : List MemPlace} (hv : Value.okWide Try.prog w r b0 35 v) (h : DataW.Trod enc Try.prog w base spare held 35 v d p) (_ : ∀ x ∈ p, x.block < w.heap.size)
    (hb : ∀ x ∈ DataW.weights Try.prog 35 d, x ≤ 140737488351232) : ∃ x, IsFrames w v x := by
  obtain ⟨A, n, c, rfl⟩ := okWide_slice Try.underlying35 hv
  obtain ⟨fuel, hf⟩ := h
  exact read_frames hf hb
end
end Go.Proofs.Ytcclcgapcnjcdaa
