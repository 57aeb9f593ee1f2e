/- A disk opened. -/
import Derived.Test.YtdaiemhepaakfaaOpen
import Derived.Test.YtdaiemhepaakfaaDisk
import Derived.OpenShut
namespace Go.Proofs.Ytdaiemhepaakfaa
open Go.ChangeShapes Go.WideShapes Go.RowKit Go.Joins
set_option linter.unusedVariables false
set_option linter.unusedSimpArgs false

def IsDisk (v : Value) (d : Slt × Slt) : Prop := v = dvl d.1 d.2 ∧ d.1.1.size ≤ 140737488351232 ∧ d.2.1.size ≤ 140737488351232
theorem list4 {α : Type} {l : List α} (h : l.length = 4) : ∃ a b c d, l = [a, b, c, d] := by
  match l, h with
  | [a, b, c, d], _ => exact ⟨a, b, c, d, rfl⟩
section
variable {H : Type} {enc : TypeId × Value → H} {w : World} {base : Nat} {spare : Nat → Bool} {held : Bool}
theorem read_slot {fuel : Nat} {v0 v1 : Value} {x : DataW H × List MemPlace} (h : DataW.trod enc Try.prog w base spare held fuel 53 [v0, v1] = some x) :
    ∃ (s : ByteArray) (k : Int), v0 = .string s ∧ v1 = .int .i64 k ∧ x.1 = .agg [.lit (.string s.data.toList), .lit (.int .i64 k)] := by
  obtain ⟨y0, y1, n, rfl, _, h0, h1⟩ := trod_struct2 Try.underlying53 h
  obtain ⟨s, e0, rfl, _⟩ := DataW.trod_string Try.underlying9 h0
  obtain ⟨k, e1, rfl, _⟩ := DataW.trod_int Try.underlying3 h1
  have c0 : Try.prog.cellsOf 9 = 1 := by kernel_rfl
  have c1 : Try.prog.cellsOf 3 = 1 := by kernel_rfl
  simp only [c0, c1, List.drop_zero, List.take_succ_cons, List.take_zero, List.drop_succ_cons, List.cons.injEq, and_true] at e0 e1
  exact ⟨s, k, e0, e1, rfl⟩
theorem open_disk_said {r : Reach} {b0 : Nat} {v : Value} {d : DataW H} {p : List MemPlace} (hv : Value.okWide Try.prog w r b0 56 v) (h : DataW.Trod enc Try.prog w base spare held 56 v d p) (_ : ∀ x ∈ p, x.block < w.heap.size)
    (hb : ∀ x ∈ DataW.weights Try.prog 56 d, x ≤ 140737488351232) : ∃ x, IsDisk v x := by
  obtain ⟨cs, rfl, hsz⟩ := okWide_struct Try.underlying56 hv
  have c0 : Try.prog.cellsOf 56 = 4 := by kernel_rfl
  rw [c0] at hsz
  obtain ⟨l⟩ := cs
  obtain ⟨v0, v1, v2, v3, rfl⟩ := list4 (l := l) hsz
  obtain ⟨fuel, hf⟩ := h
  obtain ⟨xs, n, rfl, hx, _, hlen, hg⟩ := DataW.trod_struct Try.underlying56 hf
  have g0 := hg 0 _ rfl
  have c1 : Try.prog.cellsOf 54 = 4 := by kernel_rfl
  simp only [c1, Value.cells, List.drop_zero] at g0
  match xs, hlen with
  | [x0], _ =>
    obtain ⟨ys, m, rfl, hy, _, hl2, hg2⟩ := DataW.trod_array Try.underlying54 g0
    have c2 : Try.prog.cellsOf 53 = 2 := by kernel_rfl
    match ys, hl2 with
    | [y0, y1], _ =>
      have q0 := hg2 0 (by omega)
      have q1 := hg2 1 (by omega)
      simp only [c2] at q0 q1
      obtain ⟨s, k, rfl, rfl, ey⟩ := read_slot q0
      obtain ⟨s', k', rfl, rfl, ey'⟩ := read_slot q1
      simp only [Prod.mk.injEq] at hx
      have hd := hx.1
      simp only [List.map_cons, List.map_nil, hy, ey, ey'] at hd
      subst hd
      simp [DataW.weights, DataW.weightsEach, DataW.weightsAll, Try.underlying56, Try.underlying54, Try.underlying53] at hb
      exact ⟨((s, k), (s', k')), rfl, hb.1, hb.2⟩
end
end Go.Proofs.Ytdaiemhepaakfaa
