/- A []byte that a conversion from a string has made (its row bears a mark behind its end): read, written, made a string again. -/
import Derived.Test.YtcclcgapcnjcdaaBase
namespace Go.Proofs.Ytcclcgapcnjcdaa
open Go.ChangeShapes Go.WideShapes Go.RowKit
set_option linter.unusedVariables false
set_option linter.unusedSimpArgs false
set_option maxRecDepth 100000

def RowU8 (w : World) (g : Nat) (l : List UInt8) : Prop :=
  ∃ cs fr, w.heap[g]? = some (.cells cs 5 fr) ∧ l.length ≤ cs.size ∧ cs.toList.take l.length = l.map u8v ∧ ∀ j, j < l.length → ¬ (fr.1 ≤ j ∧ j < fr.2)
section
variable {w w' : World} {g : Nat} {l : List UInt8}
theorem RowU8.lt (h : RowU8 w g l) : g < w.heap.size := by
  obtain ⟨cs, fr, hh, _⟩ := h
  rcases Nat.lt_or_ge g w.heap.size with hlt | hge
  · exact hlt
  · rw [Array.getElem?_eq_none hge] at hh; cases hh
theorem RowU8.cell (h : RowU8 w g l) (j : Nat) (hj : j < l.length) : w.cell? ⟨g, j, none⟩ = some (.int .u8 (l[j].toNat : Int)) := by
  obtain ⟨cs, fr, hh, hl, htk, hf⟩ := h
  rw [cell_of_row _ _ j _ _ _ hh]
  have e : (l.map u8v)[j]? = some (.int .u8 (l[j].toNat : Int)) := by simp [hj, u8v]
  rw [← htk, List.getElem?_take, if_pos hj] at e
  simpa using e
theorem RowU8.frozen (h : RowU8 w g l) (j : Nat) (hj : j < l.length) : w.frozen? ⟨g, j, none⟩ = false := by
  obtain ⟨cs, fr, hh, hl, htk, hf⟩ := h
  have := hf j hj
  simp only [World.frozen?, hh]
  simp
  omega
theorem RowU8.stored (h : RowU8 w g l) (j : Nat) (hj : j < l.length) (u : UInt8) : RowU8 (w.setCell ⟨g, j, none⟩ (.int .u8 (u.toNat : Int))) g (l.set j u) := by
  obtain ⟨cs, fr, hh, hl, htk, hf⟩ := h
  refine ⟨cs.setIfInBounds j (u8v u), fr, ?_, by simpa using hl, ?_, by simpa using hf⟩
  · simp [World.setCell, Array.getElem?_modify, hh]; rfl
  · rw [Array.toList_setIfInBounds, List.length_set, List.map_set, ← htk, List.take_set]
theorem RowU8.heap (h : RowU8 w g l) (e : w'.heap[g]? = w.heap[g]?) : RowU8 w' g l := by
  obtain ⟨cs, fr, hh, r⟩ := h
  exact ⟨cs, fr, e.trans hh, r⟩
theorem RowU8.drew (h : RowU8 w g l) : RowU8 w.drew g l := h
theorem RowU8.below {B : Nat} (h : RowU8 w g l) (hb : Below B w w') (hg : g < B) : RowU8 w' g l := h.heap (hb.block g hg)
theorem RowU8.string (h : RowU8 w g l) (cap : Nat) : (convert 87 9 (.slice (some ⟨g, 0, none⟩) l.length cap)).run Try.prog w = .ok (.string ⟨l.toArray⟩) w :=
  run_convert_bytes_back w _ _ 5 _ _ l Try.underlying87 Try.underlying5 Try.underlying9 fun j hj => by rw [add0]; exact h.cell j hj
theorem RowU8.new (w : World) (s : ByteArray) (cap : Nat) (fr : Nat × Nat) (hfr : s.size ≤ fr.1) : RowU8 (w.alloc (.cells (bytesRow s cap) 5 fr)) w.heap.size s.data.toList := by
  have hb : s.data.size = s.size := rfl
  refine ⟨_, fr, heap_alloc_new w _, ?_, ?_, ?_⟩
  · simp [bytesRow]
  · simp [bytesRow, u8v, Function.comp_def]
  · intro j hj
    rw [bs_len] at hj
    omega
/-- string([]byte{..}) -/
theorem run_string_new (w : World) (cs : Array Value) (l : List UInt8) (hc : cs.toList = l.map u8v) (n cap : Nat) (hn : n = l.length) (g : Nat) (hg : w.heap.size = g) :
    (convert 87 9 (.slice (some ⟨g, 0, none⟩) n cap)).run Try.prog (w.alloc (.cells cs 5)) = .ok (.string ⟨l.toArray⟩) (w.alloc (.cells cs 5)) := by
  subst hn hg
  have hl : cs.toList.length = l.length := by rw [hc]; simp
  have h : RowU8 (w.alloc (.cells cs 5)) w.heap.size l := ⟨cs, (0, 0), heap_alloc_new w _, by simpa using Nat.le_of_eq hl.symm, by rw [← hl, List.take_length, hc], by intro j hj; omega⟩
  exact h.string cap
theorem run_bytes (w : World) (s : ByteArray) : (convert 9 87 (.string s)).run Try.prog w = .ok (.slice (some ⟨w.heap.size, 0, none⟩) s.size (grownCap w s.size 0 5))
      (w.drew.alloc (.cells (bytesRow s (grownCap w s.size 0 5)) 5 ((bytesRow s (grownCap w s.size 0 5)).size, (bytesRow s (grownCap w s.size 0 5)).size + 1))) :=
  run_bytes_of_string w _ _ _ s Try.underlying9 Try.underlying87 Try.underlying5
theorem bytesRow_ge (s : ByteArray) (cap : Nat) : s.size ≤ (bytesRow s cap).size := by
  have hb : s.data.size = s.size := rfl
  simp [bytesRow]
end
end Go.Proofs.Ytcclcgapcnjcdaa
