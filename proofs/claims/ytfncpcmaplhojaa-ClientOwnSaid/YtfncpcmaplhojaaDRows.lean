/- Rows of deltas of the call's own. -/
import Derived.Test.YtfncpcmaplhojaaMine
namespace Go.Proofs.Ytfncpcmaplhojaa
open Go.ChangeShapes Go.WideShapes Go.RowKit
set_option linter.unusedVariables false
set_option linter.unusedSimpArgs false
set_option maxRecDepth 100000
set_option maxHeartbeats 4000000

/-- deltas of the call's own -/
structure Deltas (w : World) (B : Nat) (us : List Value) (ls : List (List Pt)) : Prop where
  len : us.length = ls.length
  at_ : ∀ (j : Nat) (u : Value) (l : List Pt), us[j]? = some u → ls[j]? = some l → Mine w B u l
/-- their blocks lie one behind the other -/
def Inc (us : List Value) : Prop := us.Pairwise fun u v => ∀ p q, u.ownBlock = some p → v.ownBlock = some q → p < q
theorem Deltas.nil (w : World) (B : Nat) : Deltas w B [] [] := ⟨rfl, fun j u l h => by simp at h⟩
theorem Deltas.step {w w' : World} {B : Nat} {us : List Value} {ls : List (List Pt)} (h : Deltas w B us ls) (hb : Below w.heap.size w w') : Deltas w' B us ls :=
  ⟨h.len, fun j u l h1 h2 => (h.at_ j u l h1 h2).step hb⟩
theorem Deltas.base {w : World} {B B' : Nat} {us : List Value} {ls : List (List Pt)} (h : Deltas w B us ls) (hB : B' ≤ B) : Deltas w B' us ls :=
  ⟨h.len, fun j u l h1 h2 => ⟨own_base (h.at_ j u l h1 h2).own hB, (h.at_ j u l h1 h2).len, (h.at_ j u l h1 h2).txt⟩⟩
theorem Deltas.grown {w w' : World} {B B' : Nat} {v' : Value} {us : List Value} {ls : List (List Pt)} {n' size' : Nat} {xs' : List Value} {t : TypeId} (h : Deltas w B us ls) (hr : w.ownsRow B' t size' v' n' xs')
    (hg : w.grownBy w' v'.ownBlock) (ht : 45 ≠ t) : Deltas w' B us ls :=
  ⟨h.len, fun j u l h1 h2 => ⟨own_kept (h.at_ j u l h1 h2).own hg (own_ne_ (h.at_ j u l h1 h2).own hr ht), (h.at_ j u l h1 h2).len, (h.at_ j u l h1 h2).txt⟩⟩
theorem Deltas.snoc {w : World} {B : Nat} {us : List Value} {ls : List (List Pt)} {u : Value} {l : List Pt} (h : Deltas w B us ls) (hm : Mine w B u l) : Deltas w B (us ++ [u]) (ls ++ [l]) := by
  refine ⟨by simp [h.len], fun j v m h1 h2 => ?_⟩
  rcases Nat.lt_or_ge j us.length with hj | hj
  · rw [List.getElem?_append_left hj] at h1
    rw [List.getElem?_append_left (by rw [← h.len]; exact hj)] at h2
    exact h.at_ j v m h1 h2
  · rw [List.getElem?_append_right hj] at h1
    rw [List.getElem?_append_right (by rw [← h.len]; exact hj)] at h2
    rw [h.len] at h1
    cases hd : j - ls.length with
    | zero =>
      rw [hd] at h1 h2
      simp only [List.getElem?_cons_zero, Option.some.injEq] at h1 h2
      subst h1; subst h2
      exact hm
    | succ d =>
      rw [hd] at h1
      simp at h1
theorem Deltas.lt {w : World} {B : Nat} {us : List Value} {ls : List (List Pt)} (h : Deltas w B us ls) : ∀ u ∈ us, ∀ k, u.ownBlock = some k → B ≤ k ∧ k < w.heap.size := by
  intro u hu k hk
  obtain ⟨j, hj, rfl⟩ := List.getElem_of_mem hu
  have h1 : us[j]? = some us[j] := List.getElem?_eq_getElem hj
  have h2 : ls[j]? = some (ls[j]'(by rw [← h.len]; exact hj)) := List.getElem?_eq_getElem (by rw [← h.len]; exact hj)
  exact (h.at_ j _ _ h1 h2).lt k hk
theorem Inc.snoc {us : List Value} {u : Value} {N : Nat} (h : Inc us) (h1 : ∀ v ∈ us, ∀ k, v.ownBlock = some k → k < N) (h2 : ∀ k, u.ownBlock = some k → N ≤ k) : Inc (us ++ [u]) := by
  unfold Inc
  rw [List.pairwise_append]
  refine ⟨h, List.pairwise_singleton _ _, fun a ha b hb p q hp hq => ?_⟩
  rw [List.mem_singleton] at hb
  subst hb
  have := h1 a ha p hp
  have := h2 q hq
  omega
/-- a row of deltas -/
def OwnRow (w : World) (B : Nat) (v : Value) (us : List Value) (ls : List (List Pt)) : Prop := w.ownsRow B 27 1 v us.length us ∧ Deltas w B us ls
theorem OwnRow.step {w w' : World} {B : Nat} {v : Value} {us : List Value} {ls : List (List Pt)} (h : OwnRow w B v us ls) (hb : Below w.heap.size w w') : OwnRow w' B v us ls := ⟨own_below h.1 hb, h.2.step hb⟩
theorem OwnRow.base {w : World} {B B' : Nat} {v : Value} {us : List Value} {ls : List (List Pt)} (h : OwnRow w B v us ls) (hB : B' ≤ B) : OwnRow w B' v us ls := ⟨own_base h.1 hB, h.2.base hB⟩
theorem OwnRow.grown {w w' : World} {B B' : Nat} {v v' : Value} {us : List Value} {ls : List (List Pt)} {n' size' : Nat} {xs' : List Value} {t : TypeId} (h : OwnRow w B v us ls) (hr : w.ownsRow B' t size' v' n' xs')
    (hg : w.grownBy w' v'.ownBlock) (ht : 45 ≠ t) (ht2 : 27 ≠ t) : OwnRow w' B v us ls := ⟨own_kept h.1 hg (own_ne_ h.1 hr ht2), h.2.grown hr hg ht⟩
/-- rows of deltas in a row -/
structure OwnTier (w : World) (B : Nat) (v : Value) (rs : List Value) (uss : List (List Value)) (lss : List (List (List Pt))) : Prop where
  own : w.ownsRow B 32 1 v rs.length rs
  len1 : rs.length = lss.length
  len2 : uss.length = lss.length
  at_ : ∀ (j : Nat) (r : Value) (us : List Value) (ls : List (List Pt)), rs[j]? = some r → uss[j]? = some us → lss[j]? = some ls → OwnRow w B r us ls
theorem OwnTier.step {w w' : World} {B : Nat} {v : Value} {rs : List Value} {uss : List (List Value)} {lss : List (List (List Pt))} (h : OwnTier w B v rs uss lss) (hb : Below w.heap.size w w') : OwnTier w' B v rs uss lss :=
  ⟨own_below h.own hb, h.len1, h.len2, fun j r us ls h1 h2 h3 => (h.at_ j r us ls h1 h2 h3).step hb⟩
theorem OwnTier.nil (w : World) (B : Nat) : OwnTier w B (.slice none 0 0) [] [] [] := ⟨World.ownsRow_nil _ _ _ _, rfl, rfl, fun j r us ls h => by simp at h⟩
theorem OwnTier.snoc {w w' : World} {B : Nat} {v v' r : Value} {rs us : List Value} {uss : List (List Value)} {lss : List (List (List Pt))} {ls : List (List Pt)} (h : OwnTier w B v rs uss lss) (hr : OwnRow w B r us ls)
    (ho : w'.ownsRow B 32 1 v' (rs.length + 1) (rs ++ [r])) (hg : w.grownBy w' v.ownBlock) : OwnTier w' B v' (rs ++ [r]) (uss ++ [us]) (lss ++ [ls]) := by
  refine ⟨by simpa using ho, by simp [h.len1], by simp [h.len2], fun j r2 us2 ls2 h1 h2 h3 => ?_⟩
  rcases Nat.lt_or_ge j lss.length with hj | hj
  · rw [List.getElem?_append_left (by rw [h.len1]; exact hj)] at h1
    rw [List.getElem?_append_left (by rw [h.len2]; exact hj)] at h2
    rw [List.getElem?_append_left hj] at h3
    exact (h.at_ j r2 us2 ls2 h1 h2 h3).grown h.own hg (by decide) (by decide)
  · rw [List.getElem?_append_right (by rw [h.len1]; exact hj), h.len1] at h1
    rw [List.getElem?_append_right (by rw [h.len2]; exact hj), h.len2] at h2
    rw [List.getElem?_append_right hj] at h3
    cases hd : j - lss.length with
    | zero =>
      rw [hd] at h1 h2 h3
      simp only [List.getElem?_cons_zero, Option.some.injEq] at h1 h2 h3
      subst h1; subst h2; subst h3
      exact hr.grown h.own hg (by decide) (by decide)
    | succ d =>
      rw [hd] at h1
      simp at h1
end Go.Proofs.Ytfncpcmaplhojaa
