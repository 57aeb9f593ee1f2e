/- diff.Of's table in memory. -/
import Derived.Test.YtcclcgapcnjcdaaInts
namespace Go.Proofs.Ytcclcgapcnjcdaa
open Go.ChangeShapes Go.WideShapes Go.RowKit
set_option linter.unusedVariables false
set_option linter.unusedSimpArgs false
set_option maxRecDepth 100000
set_option maxHeartbeats 4000000

theorem blk_own {w : World} {base g m : Nat} {e : TypeId} {xs : List Value} (h : w.ownsRow base e 1 (.slice (some ⟨g, 0, none⟩) m m) m xs) : Blk w g e xs.toArray := by
  rcases h.2 with ⟨hv, _⟩ | ⟨g', cap, cur, hv, hg, hh, hn, hc, hcs, htk⟩
  · injection hv with h1; cases h1
  · injection hv with h1 h2 h3
    injection h1 with h1
    injection h1 with h1
    subst h1; subst h3
    unfold Blk
    rw [hh]
    have : cur = xs.toArray := by
      rw [← htk, List.take_of_length_le (by simp; omega)]
    rw [this]
def sl (m g : Nat) : Value := .slice (some ⟨g, 0, none⟩) m m
/-- the table: rows in blocks of their own -/
def DT (w : World) (G m : Nat) (gs : List Nat) (rows : List (List Int)) (N : Nat) : Prop :=
  gs.length = rows.length ∧ gs.length ≤ N ∧ Blk w G 22 (gs.map (sl m) ++ List.replicate (N - gs.length) (Value.slice none 0 0)).toArray ∧
  (∀ i (h : i < gs.length) (h' : i < rows.length), Blk w gs[i] 3 (ic rows[i]).toArray) ∧ gs.Pairwise (· < ·) ∧ ∀ g ∈ gs, G < g
section
variable {w w' : World} {G m N : Nat} {gs : List Nat} {rows : List (List Int)}
theorem DT.below {B : Nat} (h : DT w G m gs rows N) (hB : w.heap.size ≤ B) (hb : Below B w w') : DT w' G m gs rows N := by
  obtain ⟨h1, h2, h3, h4, h5, h6⟩ := h
  exact ⟨h1, h2, h3.below hb (by have := h3.lt; omega), fun i a b => (h4 i a b).below hb (by have := (h4 i a b).lt; omega), h5, h6⟩
theorem DT.drewN (h : DT w G m gs rows N) (n : Nat) : DT (w.drewN n) G m gs rows N := h
theorem DT.cellG (h : DT w G m gs rows N) (i : Nat) (hi : i < gs.length) : w.cell? ⟨G, i, none⟩ = some (.slice (some ⟨gs[i], 0, none⟩) m m) := by
  rw [h.2.2.1.cell i, List.getElem?_toArray, List.getElem?_append_left (by simpa using hi), List.getElem?_map, List.getElem?_eq_getElem hi]
  rfl
theorem DT.cell (h : DT w G m gs rows N) (i k : Nat) (hi : i < gs.length) (hr : i < rows.length) (hk : k < rows[i].length) : w.cell? ⟨gs[i], k, none⟩ = some (.int .i64 rows[i][k]) := by
  rw [(h.2.2.2.1 i hi hr).cell k, List.getElem?_toArray, ic_at _ k hk]
theorem DT.set_ (h : DT w G m gs rows N) (i k : Nat) (v : Int) (hi : i < gs.length) (hr : i < rows.length) : DT (w.setCell ⟨gs[i], k, none⟩ (.int .i64 v)) G m gs (rows.set i (rows[i].set k v)) N := by
  obtain ⟨h1, h2, h3, h4, h5, h6⟩ := h
  have hG : G < gs[i] := h6 _ (List.getElem_mem hi)
  refine ⟨by rw [List.length_set]; exact h1, h2, h3.far (by show G ≠ gs[i]; omega) _, fun j a b => ?_, h5, h6⟩
  by_cases hji : j = i
  · subst hji
    have := (h4 j a hr).set_ k (.int .i64 v)
    rw [List.getElem_set_self]
    have e : (ic rows[j]).toArray.setIfInBounds k (.int .i64 v) = (ic (rows[j].set k v)).toArray := by
      unfold ic
      simp [List.map_set]
    rw [e] at this
    exact this
  · have hne : gs[j] ≠ gs[i] := by
      rcases Nat.lt_or_gt_of_ne hji with hlt | hgt
      · have := List.pairwise_iff_getElem.1 h5 j i a hi hlt
        omega
      · have := List.pairwise_iff_getElem.1 h5 i j hi a hgt
        omega
    rw [List.getElem_set_ne (by omega)]
    exact (h4 j a (by rw [List.length_set] at b; exact b)).far (by exact hne) _
theorem DT.push {g : Nat} {zs : List Int} (h : DT w G m gs rows N) (hN : gs.length < N) (hg : w.grownBy w' none) (hn : Blk w' g 3 (ic zs).toArray) (hgl : w.heap.size = g) :
    DT (w'.setCell ⟨G, gs.length, none⟩ (.slice (some ⟨g, 0, none⟩) m m)) G m (gs ++ [g]) (rows ++ [zs]) N := by
  obtain ⟨h1, h2, h3, h4, h5, h6⟩ := h
  have hGl := h3.lt
  refine ⟨by simp [h1], by simp; omega, ?_, fun j a b => ?_, ?_, fun x hx => ?_⟩
  · have := (h3.grown hg (by simp)).set_ gs.length (.slice (some ⟨g, 0, none⟩) m m)
    have e : (gs.map (sl m) ++ List.replicate (N - gs.length) (Value.slice none 0 0)).toArray.setIfInBounds gs.length (.slice (some ⟨g, 0, none⟩) m m) = ((gs ++ [g]).map (sl m) ++ List.replicate (N - (gs ++ [g]).length) (Value.slice none 0 0)).toArray := by
      obtain ⟨q, hq⟩ : ∃ q, N - gs.length = q + 1 := ⟨N - gs.length - 1, by omega⟩
      rw [hq, List.setIfInBounds_toArray]
      congr 1
      rw [List.length_append, List.length_singleton, show N - (gs.length + 1) = q by omega, List.replicate_succ, List.map_append, List.append_assoc]
      rw [List.set_append_right _ _ (by simp)]
      simp [sl]
    rw [e] at this
    exact this
  · rw [List.length_append, List.length_singleton] at a
    by_cases hj : j < gs.length
    · rw [List.getElem_append_left hj, List.getElem_append_left (by omega)]
      have hb := h4 j hj (by omega)
      have hlt := hb.lt
      have hG : G < gs[j] := h6 _ (List.getElem_mem hj)
      exact (hb.grown hg (by simp)).far (by show gs[j] ≠ G; omega) _
    · obtain rfl : j = gs.length := by omega
      have e1 : (gs ++ [g])[gs.length]'(by simp) = g := by simp
      have e2 : (rows ++ [zs])[gs.length]'b = zs := by
        rw [List.getElem_append_right (by omega)]
        simp [h1]
      rw [e1, e2]
      exact hn.far (by show g ≠ G; omega) _
  · rw [List.pairwise_append]
    refine ⟨h5, by simp, fun x hx y hy => ?_⟩
    rw [List.mem_singleton] at hy
    subst hy
    obtain ⟨j, hj, rfl⟩ := List.getElem_of_mem hx
    have := (h4 j hj (by omega)).lt
    omega
  · rw [List.mem_append, List.mem_singleton] at hx
    rcases hx with hx | rfl
    · exact h6 x hx
    · omega
end
end Go.Proofs.Ytcclcgapcnjcdaa
