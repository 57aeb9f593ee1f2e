/- The longest list that two lists have in common; plain lists, no program. -/
import Derived.Test.YtcclcgapcnjcdaaUndoLaw
namespace Go.Proofs.Ytcclcgapcnjcdaa
set_option linter.unusedVariables false
set_option linter.unusedSimpArgs false

def lcs : List UInt8 → List UInt8 → Nat
  | [], _ => 0
  | _ :: _, [] => 0
  | x :: xs, y :: ys => if x = y then 1 + lcs xs ys else max (lcs xs (y :: ys)) (lcs (x :: xs) ys)
termination_by xs ys => xs.length + ys.length
theorem lcs_nil_right : ∀ xs, lcs xs [] = 0
  | [] => by rw [lcs]
  | _ :: _ => by rw [lcs]
theorem lcs_nil_left (ys : List UInt8) : lcs [] ys = 0 := by rw [lcs]
theorem lcs_eq (x : UInt8) (xs ys : List UInt8) : lcs (x :: xs) (x :: ys) = 1 + lcs xs ys := by rw [lcs, if_pos rfl]
theorem lcs_ne {x y : UInt8} (h : x ≠ y) (xs ys : List UInt8) : lcs (x :: xs) (y :: ys) = max (lcs xs (y :: ys)) (lcs (x :: xs) ys) := by rw [lcs, if_neg h]
theorem lcs_opt : ∀ (n : Nat) (xs ys l : List UInt8), xs.length + ys.length ≤ n → l.Sublist xs → l.Sublist ys → l.length ≤ lcs xs ys
  | _, [], ys, l, _, h1, _ => by
    have : l = [] := by simpa using h1
    subst this; simp
  | _, x :: xs, [], l, _, _, h2 => by
    have : l = [] := by simpa using h2
    subst this; simp
  | 0, x :: xs, y :: ys, l, h, _, _ => by simp at h
  | n + 1, x :: xs, y :: ys, l, h, h1, h2 => by
    simp only [List.length_cons] at h
    by_cases hxy : x = y
    · subst hxy
      rw [lcs_eq]
      cases l with
      | nil => simp
      | cons z l =>
        have g1 : l.Sublist xs := by
          cases h1 with
          | cons _ h => exact (List.sublist_cons_self z l).trans h
          | cons_cons _ h => exact h
        have g2 : l.Sublist ys := by
          cases h2 with
          | cons _ h => exact (List.sublist_cons_self z l).trans h
          | cons_cons _ h => exact h
        have := lcs_opt n xs ys l (by omega) g1 g2
        simp only [List.length_cons]; omega
    · rw [lcs_ne hxy]
      cases h1 with
      | cons _ h1 =>
        have := lcs_opt n xs (y :: ys) l (by simp only [List.length_cons]; omega) h1 h2
        omega
      | cons_cons _ h1 =>
        rename_i l
        cases h2 with
        | cons _ h2 =>
          have := lcs_opt n (x :: xs) ys (x :: l) (by simp only [List.length_cons]; omega) (h1.cons_cons x) h2
          omega
        | cons_cons _ h2 => exact absurd rfl hxy
theorem lcs_ex : ∀ (n : Nat) (xs ys : List UInt8), xs.length + ys.length ≤ n → ∃ l : List UInt8, l.Sublist xs ∧ l.Sublist ys ∧ l.length = lcs xs ys
  | _, [], ys, _ => ⟨[], List.nil_sublist _, List.nil_sublist _, by rw [lcs_nil_left]; rfl⟩
  | _, x :: xs, [], _ => ⟨[], List.nil_sublist _, List.nil_sublist _, by rw [lcs_nil_right]; rfl⟩
  | 0, x :: xs, y :: ys, h => by simp at h
  | n + 1, x :: xs, y :: ys, h => by
    simp only [List.length_cons] at h
    by_cases hxy : x = y
    · subst hxy
      obtain ⟨l, h1, h2, h3⟩ := lcs_ex n xs ys (by omega)
      exact ⟨x :: l, h1.cons_cons x, h2.cons_cons x, by rw [lcs_eq, List.length_cons, h3]; omega⟩
    · rw [lcs_ne hxy]
      rcases Nat.le_total (lcs xs (y :: ys)) (lcs (x :: xs) ys) with hle | hle
      · obtain ⟨l, h1, h2, h3⟩ := lcs_ex n (x :: xs) ys (by simp only [List.length_cons]; omega)
        exact ⟨l, h1, h2.cons y, by omega⟩
      · obtain ⟨l, h1, h2, h3⟩ := lcs_ex n xs (y :: ys) (by simp only [List.length_cons]; omega)
        exact ⟨l, h1.cons x, h2, by omega⟩
theorem lcs_le {xs ys l : List UInt8} (h1 : l.Sublist xs) (h2 : l.Sublist ys) : l.length ≤ lcs xs ys := lcs_opt _ xs ys l (Nat.le_refl _) h1 h2
theorem lcs_get (xs ys : List UInt8) : ∃ l : List UInt8, l.Sublist xs ∧ l.Sublist ys ∧ l.length = lcs xs ys := lcs_ex _ xs ys (Nat.le_refl _)
theorem lcs_bound (xs ys : List UInt8) : lcs xs ys ≤ xs.length ∧ lcs xs ys ≤ ys.length := by
  obtain ⟨l, h1, h2, h3⟩ := lcs_get xs ys
  exact ⟨by rw [← h3]; exact h1.length_le, by rw [← h3]; exact h2.length_le⟩
theorem lcs_comm (xs ys : List UInt8) : lcs xs ys = lcs ys xs := by
  obtain ⟨l, h1, h2, h3⟩ := lcs_get xs ys
  obtain ⟨k, g1, g2, g3⟩ := lcs_get ys xs
  have := lcs_le h2 h1
  have := lcs_le g2 g1
  omega
theorem lcs_self (xs : List UInt8) : lcs xs xs = xs.length := by
  have := lcs_le (List.Sublist.refl xs) (List.Sublist.refl xs)
  have := (lcs_bound xs xs).1
  omega
theorem lcs_pre (a xs ys : List UInt8) : lcs (a ++ xs) (a ++ ys) = a.length + lcs xs ys := by
  induction a with
  | nil => simp
  | cons x a ih => rw [List.cons_append, List.cons_append, lcs_eq, ih, List.length_cons]; omega
theorem lcs_rev (xs ys : List UInt8) : lcs xs.reverse ys.reverse = lcs xs ys := by
  obtain ⟨l, h1, h2, h3⟩ := lcs_get xs ys
  obtain ⟨k, g1, g2, g3⟩ := lcs_get xs.reverse ys.reverse
  have e1 := lcs_le h1.reverse h2.reverse
  have e2 := lcs_le (by simpa using g1.reverse) (by simpa using g2.reverse) (l := k.reverse) (xs := xs) (ys := ys)
  rw [List.length_reverse] at e1 e2
  omega
theorem lcs_suf (b xs ys : List UInt8) : lcs (xs ++ b) (ys ++ b) = lcs xs ys + b.length := by
  rw [← lcs_rev, List.reverse_append, List.reverse_append, lcs_pre, lcs_rev, List.length_reverse]; omega
/-- the way from a list to another, as the table shows it -/
def trc : List UInt8 → List UInt8 → List U
  | [], ys => ys.map (fun b => some (some b))
  | x :: xs, [] => List.replicate (xs.length + 1) (some none)
  | x :: xs, y :: ys => if x = y then none :: trc xs ys else if lcs (x :: xs) ys ≤ lcs xs (y :: ys) then some none :: trc xs (y :: ys) else some (some y) :: trc (x :: xs) ys
termination_by xs ys => xs.length + ys.length
theorem trc_left (ys : List UInt8) : trc [] ys = ys.map (fun b => some (some b)) := by rw [trc]
theorem trc_right (xs : List UInt8) : trc xs [] = List.replicate xs.length (some none) := by
  cases xs with
  | nil => rw [trc]; rfl
  | cons x xs => rw [trc]; rfl
theorem trc_eq (x : UInt8) (xs ys : List UInt8) : trc (x :: xs) (x :: ys) = none :: trc xs ys := by rw [trc, if_pos rfl]
theorem trc_cut {x y : UInt8} (h : x ≠ y) (xs ys : List UInt8) (hl : lcs (x :: xs) ys ≤ lcs xs (y :: ys)) : trc (x :: xs) (y :: ys) = some none :: trc xs (y :: ys) := by rw [trc, if_neg h, if_pos hl]
theorem trc_put {x y : UInt8} (h : x ≠ y) (xs ys : List UInt8) (hl : ¬ lcs (x :: xs) ys ≤ lcs xs (y :: ys)) : trc (x :: xs) (y :: ys) = some (some y) :: trc (x :: xs) ys := by rw [trc, if_neg h, if_neg hl]
theorem nC_pu : ∀ l : List UInt8, nC (l.map (fun b => (some (some b) : U))) = 0
  | [] => rfl
  | x :: l => by simp only [List.map_cons, nC]; exact nC_pu l
theorem nP_pul : ∀ l : List UInt8, nP (l.map (fun b => (some (some b) : U))) = l.length
  | [] => rfl
  | x :: l => by simp only [List.map_cons, nP, List.length_cons]; rw [nP_pul l]
theorem nI_pul : ∀ l : List UInt8, nI (l.map (fun b => (some (some b) : U))) = 0
  | [] => rfl
  | x :: l => by simp only [List.map_cons, nI]; exact nI_pul l
theorem nC_rep : ∀ n : Nat, nC (List.replicate n (some none)) = n
  | 0 => rfl
  | n + 1 => by rw [List.replicate_succ]; simp only [nC]; rw [nC_rep n]
theorem nP_rep : ∀ n : Nat, nP (List.replicate n (some none)) = 0
  | 0 => rfl
  | n + 1 => by rw [List.replicate_succ]; simp only [nP]; exact nP_rep n
theorem ap_pul (l : List UInt8) : ap id (l.map (fun b => (some (some b) : U))) ([] : List UInt8) = l := by
  induction l with
  | nil => rfl
  | cons x l ih => simp only [List.map_cons, ap]; rw [ih]; rfl
theorem trc_all : ∀ (n : Nat) (xs ys : List UInt8), xs.length + ys.length ≤ n → nI (trc xs ys) = xs.length ∧ ap id (trc xs ys) xs = ys ∧ nC (trc xs ys) + nP (trc xs ys) + 2 * lcs xs ys = xs.length + ys.length
  | _, [], ys, _ => by
    rw [trc_left, nI_pul, nC_pu, nP_pul, lcs_nil_left, ap_pul]
    simp
  | _, x :: xs, [], _ => by
    rw [trc_right, nI_cuts, nC_rep, nP_rep, lcs_nil_right, ap_cuts]
    simp
  | 0, x :: xs, y :: ys, h => by simp at h
  | n + 1, x :: xs, y :: ys, h => by
    simp only [List.length_cons] at h
    by_cases hxy : x = y
    · subst hxy
      obtain ⟨h1, h2, h3⟩ := trc_all n xs ys (by omega)
      rw [trc_eq, lcs_eq]
      simp only [nI, ap, nC, nP, List.length_cons]
      exact ⟨by omega, by rw [h2], by omega⟩
    · by_cases hl : lcs (x :: xs) ys ≤ lcs xs (y :: ys)
      · obtain ⟨h1, h2, h3⟩ := trc_all n xs (y :: ys) (by simp only [List.length_cons]; omega)
        rw [trc_cut hxy _ _ hl, lcs_ne hxy]
        simp only [nI, ap, nC, nP, List.length_cons] at h3 ⊢
        exact ⟨by omega, h2, by omega⟩
      · obtain ⟨h1, h2, h3⟩ := trc_all n (x :: xs) ys (by simp only [List.length_cons]; omega)
        rw [trc_put hxy _ _ hl, lcs_ne hxy]
        simp only [nI, ap, nC, nP, List.length_cons] at h1 h3 ⊢
        exact ⟨by omega, by rw [h2]; rfl, by omega⟩
theorem trc_len : ∀ (n : Nat) (xs ys : List UInt8), xs.length + ys.length ≤ n → (trc xs ys).length ≤ xs.length + ys.length
  | _, [], ys, _ => by rw [trc_left]; simp
  | _, x :: xs, [], _ => by rw [trc_right]; simp
  | 0, x :: xs, y :: ys, h => by simp at h
  | n + 1, x :: xs, y :: ys, h => by
    simp only [List.length_cons] at h
    by_cases hxy : x = y
    · subst hxy
      have := trc_len n xs ys (by omega)
      rw [trc_eq]; simp only [List.length_cons]; omega
    · by_cases hl : lcs (x :: xs) ys ≤ lcs xs (y :: ys)
      · have := trc_len n xs (y :: ys) (by simp only [List.length_cons]; omega)
        rw [trc_cut hxy _ _ hl]; simp only [List.length_cons] at this ⊢; omega
      · have := trc_len n (x :: xs) ys (by simp only [List.length_cons]; omega)
        rw [trc_put hxy _ _ hl]; simp only [List.length_cons] at this ⊢; omega
theorem trc_chk {S T : List UInt8} (hs : S.length ≤ 500) (ht : T.length ≤ 500) : chk (grp (cz (trc S T))) = 0 ∧ units (grp (cz (trc S T))) = cz (trc S T) := by
  obtain ⟨h1, h2, _⟩ := trc_all _ S T (Nat.le_refl _)
  have h3 := ap_length id (trc S T) S h1
  rw [h2] at h3
  exact ⟨good_cz (by omega) (by omega), units_grp _⟩
/-- the bytes that are kept -/
def kpt : List U → List UInt8 → List UInt8
  | none :: us, x :: s => x :: kpt us s
  | some none :: us, _ :: s => kpt us s
  | some (some _) :: us, s => kpt us s
  | _, _ => []
theorem kpt_all : ∀ (us : List U) (s : List UInt8), nI us = s.length → (kpt us s).Sublist s ∧ (kpt us s).Sublist (ap id us s) ∧ s.length = (kpt us s).length + nC us ∧ (ap id us s).length = (kpt us s).length + nP us
  | [], s, h => by
    have : s = [] := List.eq_nil_of_length_eq_zero (by simpa [nI] using h.symm)
    subst this
    exact ⟨List.nil_sublist _, List.nil_sublist _, rfl, rfl⟩
  | none :: us, [], h => by simp [nI] at h
  | none :: us, x :: s, h => by
    obtain ⟨h1, h2, h3, h4⟩ := kpt_all us s (by simpa [nI] using h)
    simp only [kpt, ap, nC, nP, List.length_cons]
    exact ⟨h1.cons_cons x, h2.cons_cons x, by omega, by omega⟩
  | some none :: us, [], h => by simp [nI] at h
  | some none :: us, x :: s, h => by
    obtain ⟨h1, h2, h3, h4⟩ := kpt_all us s (by simpa [nI] using h)
    simp only [kpt, ap, nC, nP, List.length_cons]
    exact ⟨h1.cons x, h2, by omega, h4⟩
  | some (some b) :: us, s, h => by
    obtain ⟨h1, h2, h3, h4⟩ := kpt_all us s (by simpa [nI] using h)
    simp only [kpt, ap, nC, nP, List.length_cons]
    exact ⟨h1, h2.cons _, h3, by omega⟩
/-- no way is cheaper -/
theorem cost_least (us : List U) (s : List UInt8) (h : nI us = s.length) : s.length + (ap id us s).length ≤ nC us + nP us + 2 * lcs s (ap id us s) := by
  obtain ⟨h1, h2, h3, h4⟩ := kpt_all us s h
  have := lcs_le h1 h2
  omega
end Go.Proofs.Ytcclcgapcnjcdaa
