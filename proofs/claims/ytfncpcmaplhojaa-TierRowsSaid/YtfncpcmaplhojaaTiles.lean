/- Blocks that lie one behind the other, and where a tier's blocks are found. -/
import Derived.Test.YtfncpcmaplhojaaTier
import Derived.Test.YtfncpcmaplhojaaBuild
namespace Go.Proofs.Ytfncpcmaplhojaa
open Go.ChangeShapes Go.WideShapes Go.RowKit
set_option linter.unusedVariables false
set_option linter.unusedSimpArgs false
set_option maxRecDepth 100000
set_option maxHeartbeats 4000000

/-- where blocks that lie one behind the other from i end; none if one lies elsewhere -/
def tiles : Nat → List (Nat × Nat) → Option Nat
  | i, [] => some i
  | i, b :: r => if b.1 ≤ 6 ∧ b.2 * 2 ^ b.1 = i ∧ b.2 ≤ 64 then tiles (i + 2 ^ b.1) r else none
def bitsOf (n : Nat) : Nat := if n ≤ 1 then 0 else if n ≤ 2 then 1 else if n ≤ 4 then 2 else if n ≤ 8 then 3 else if n ≤ 16 then 4 else if n ≤ 32 then 5 else 6
theorem bitsOf_le (n : Nat) : bitsOf n ≤ 6 := by unfold bitsOf; (repeat' split) <;> omega
theorem tiles_cons (i k : Nat) (b : Nat × Nat) (r : List (Nat × Nat)) (h : tiles i (b :: r) = some k) : b.1 ≤ 6 ∧ b.2 * 2 ^ b.1 = i ∧ b.2 ≤ 64 ∧ tiles (i + 2 ^ b.1) r = some k := by
  simp only [tiles] at h
  split at h
  · rename_i hc; exact ⟨hc.1, hc.2.1, hc.2.2, h⟩
  · cases h
theorem tiles_all : ∀ k : Fin 65, ∀ i : Fin 65, i.val ≤ k.val → tiles i.val (coverL 65 i.val k.val) = some k.val ∧ (coverL 65 i.val k.val).length ≤ 2 * bitsOf (k.val - i.val) + 1 := by
  decide +kernel
theorem cover_16 : coverL 65 1 6 = [(0, 1), (1, 1), (1, 2)] := by decide +kernel
theorem bcell_at (l : List (Nat × Nat)) (k : Nat) (hk : k < l.length) : (l.flatMap bcells)[k * 2]? = some (.int .i64 l[k].1) ∧ (l.flatMap bcells)[k * 2 + 1]? = some (.int .i64 l[k].2) := by
  induction l generalizing k with
  | nil => simp at hk
  | cons b r ih =>
    rcases k with _ | k
    · exact ⟨rfl, rfl⟩
    · have := ih k (by simpa using hk)
      simp only [List.flatMap_cons, bcells, List.getElem_cons_succ]
      rw [show (k + 1) * 2 = k * 2 + 1 + 1 by omega]
      exact this
theorem tiles_le : ∀ (l : List (Nat × Nat)) (i k : Nat), tiles i l = some k → i ≤ k
  | [], i, k, h => by simp [tiles] at h; omega
  | b :: r, i, k, h => by
    obtain ⟨_, _, _, h4⟩ := tiles_cons i k b r h
    have := tiles_le r _ _ h4
    exact Nat.le_trans (Nat.le_add_right _ _) this
theorem tiersL_at {l : List Rv} (h : l.length ≤ 64) (x : Nat) (hx : x < (tiersL l).length) : ((tiersL l)[x]).length = l.length / 2 ^ x ∧ 0 < ((tiersL l)[x]).length ∧ (tiersL l)[x] = lvl (l.map fun r => r.2.2) x := by
  have e0 : (tiersL l)[x]? = some (tiersL l)[x] := List.getElem?_eq_getElem hx
  have := tiersF_at 8 (l.map fun (r : Rv) => r.2.2) x (tiersL l)[x] e0
  refine ⟨?_, this.2, this.1⟩
  rw [show (tiersL l)[x] = lvl (l.map fun r => r.2.2) x from this.1, lev_len, List.length_map]
theorem tiersL_len {l : List Rv} (h : l.length ≤ 64) : l.length / 2 ^ (tiersL l).length = 0 ∧ (tiersL l).length ≤ 7 := by
  have h1 := tiersF_len 7 (l.map fun r => r.2.2) (by rw [List.length_map]; exact Nat.lt_of_le_of_lt h (by decide))
  have h0 : tiersF 8 (l.map fun r => r.2.2) = tiersF 7 (l.map fun r => r.2.2) := by
    have aux : ∀ (f : Nat) (r : List (List Pt)), r.length < 2 ^ f → tiersF (f + 1) r = tiersF f r := by
      intro f
      induction f with
      | zero =>
        intro r hr
        have : r = [] := List.eq_nil_of_length_eq_zero (by simpa using hr)
        subst this
        rfl
      | succ f ih =>
        intro r hr
        by_cases hr0 : r.length = 0
        · rw [tiersF, if_pos hr0, tiersF, if_pos hr0]
        · rw [tiersF, if_neg hr0, show tiersF (f + 1) r = r :: tiersF f (nxt r) by rw [tiersF, if_neg hr0], ih]
          rw [nxt_len, Nat.div_lt_iff_lt_mul (by decide)]
          rw [Nat.pow_succ] at hr
          exact hr
    exact aux 7 _ (by rw [List.length_map]; exact Nat.lt_of_le_of_lt h (by decide))
  unfold tiersL
  rw [h0]
  rw [List.length_map] at h1
  exact ⟨h1, tiersF_le 7 _⟩
theorem tiersL_pos {l : List Rv} (h : l ≠ []) : 0 < (tiersL l).length := tiersF_pos (f := 7) (by rw [List.length_map]; exact fun e => h (List.eq_nil_of_length_eq_zero e))
theorem tiersL_nil : tiersL [] = [] := rfl
/-- where a block is found -/
theorem tier_block {base : ByteArray} {l : List Rv} (h : txE base l = 0) (x y : Nat) (hk : (y + 1) * 2 ^ x ≤ l.length) : ∃ ls, (tiersL l)[x]? = some ls ∧ ls[y]? = some (bk base l (y * 2 ^ x) ((y + 1) * 2 ^ x)) := by
  have hl := (txE_parts h).2.1
  have ht := (tiersL_len hl).1
  have hx : x < (tiersL l).length := by
    rcases Nat.lt_or_ge x (tiersL l).length with h1 | h1
    · exact h1
    · have h2 : 2 ^ (tiersL l).length ≤ 2 ^ x := Nat.pow_le_pow_right (by decide) h1
      have h3 : l.length < 2 ^ (tiersL l).length := by
        rcases Nat.div_eq_zero_iff.1 ht with h | h
        · exact absurd h (Nat.ne_of_gt (Nat.two_pow_pos _))
        · exact h
      have h4 : 1 * 2 ^ x ≤ (y + 1) * 2 ^ x := Nat.mul_le_mul_right _ (by omega)
      omega
  refine ⟨_, List.getElem?_eq_getElem hx, ?_⟩
  rw [(tiersL_at hl x hx).2.2]
  exact lev_bk h x y hk
theorem bk_chk {base : ByteArray} {l : List Rv} (h : txE base l = 0) (i k : Nat) (hik : i ≤ k) (hk : k ≤ l.length) : chk (bk base l i k) = 0 := (do_chk (btw_of h i k hik hk).1).1
/-- a delta of a tier as the program reads it -/
theorem OwnTier.look {w : World} {B m c : Nat} {A : Option Addr} {rs : List Value} {uss : List (List Value)} {lss : List (List (List Pt))} (h : OwnTier w B (.slice A m c) rs uss lss) (x y : Nat) (ls : List (List Pt)) (d : List Pt) (h1 : lss[x]? = some ls) (h2 : ls[y]? = some d) :
    ∃ g g1 c1 A2 n2 c2, A = some ⟨g, 0, none⟩ ∧ x < m ∧ g < w.heap.size ∧ w.cell? ⟨g, x, none⟩ = some (.slice (some ⟨g1, 0, none⟩) ls.length c1) ∧ g1 < w.heap.size ∧ w.cell? ⟨g1, y, none⟩ = some (.slice A2 n2 c2) ∧ y < ls.length ∧ RdP w w.heap.size A2 n2 c2 d := by
  obtain ⟨hx, ex⟩ := List.getElem?_eq_some_iff.1 h1
  obtain ⟨hy, ey⟩ := List.getElem?_eq_some_iff.1 h2
  have hrl : x < rs.length := by rw [h.len1]; exact hx
  obtain ⟨g, cc, e0, _⟩ := World.ownsRow.form h.own (by omega)
  injection e0 with e1 e2 e3
  subst e1; subst e2
  have er : rs[x]? = some rs[x] := List.getElem?_eq_getElem hrl
  have hc := World.ownsRow.cellAt h.own x (by omega)
  rw [er] at hc
  have eu : uss[x]? = some (uss[x]'(by rw [h.len2]; exact hx)) := List.getElem?_eq_getElem _
  have ho := h.at_ x _ _ _ er eu h1
  obtain ⟨A1, c1, e⟩ := ho.form
  rw [e] at hc ho
  obtain ⟨g1, cc1, e4, _⟩ := World.ownsRow.form ho.1 (by rw [ho.2.len]; omega)
  injection e4 with e5 e6 e7
  subst e5
  obtain ⟨A2, n2, c2, _, k2, k3, _⟩ := ho.at_ y hy
  rw [ey] at k3
  exact ⟨g, g1, c1, A2, n2, c2, rfl, hrl, (World.ownsRow.lt h.own g rfl).2, hc, (World.ownsRow.lt ho.1 g1 rfl).2, k2, hy, k3⟩
end Go.Proofs.Ytfncpcmaplhojaa
