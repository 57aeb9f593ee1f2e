/- The longest list that two lists have in common; plain lists, no program. What a difference costs; plain lists, no program. The longest common part of two texts, from the front: what scrivref.Common's rows hold; and what a least delta puts. How many bytes are whose; plain lists, no program. diff.Of's table in memory. Contract of diff.Of. Contracts of R.Cost and of the laws' helper cost. A history of differences: each text made from the one ahead of it. A slice of strings, opened; and scrivtop.prev over it. -/
import Derived.Test.YtokngfinnieccaaW8
import Derived.Test.YtokngfinnieccaaW6
import Derived.Test.YtokngfinnieccaaW2
import Derived.Test.YtokngfinnieccaaW4
import Derived.Test.YtokngfinnieccaaW7
import Derived.Test.YtokngfinnieccaaW1
import Derived.OpenShut
import Derived.Deep.Strs
namespace Go.Proofs.Ytokngfinnieccaa
set_option linter.unusedVariables false
set_option linter.unusedSimpArgs false

def lcs : List UInt8 → List UInt8 → Nat
  | [], _ => 0
  | _ :: _, [] => 0
  | x :: xs, y :: ys => if x = y then 1 + lcs xs ys else max (lcs xs (y :: ys)) (lcs (x :: xs) ys)
termination_by xs ys => xs.length + ys.length
theorem lcs_nil_right : ∀ xs, lcs xs [] = 0
  | [] => by rw [lcs]
  | _ :: _ => by rw [lcs]
theorem lcs_nil_left (ys : List UInt8) : lcs [] ys = 0 := by rw [lcs]
theorem lcs_eq (x : UInt8) (xs ys : List UInt8) : lcs (x :: xs) (x :: ys) = 1 + lcs xs ys := by rw [lcs, if_pos rfl]
theorem lcs_ne {x y : UInt8} (h : x ≠ y) (xs ys : List UInt8) : lcs (x :: xs) (y :: ys) = max (lcs xs (y :: ys)) (lcs (x :: xs) ys) := by rw [lcs, if_neg h]
theorem lcs_opt : ∀ (n : Nat) (xs ys l : List UInt8), xs.length + ys.length ≤ n → l.Sublist xs → l.Sublist ys → l.length ≤ lcs xs ys
  | _, [], ys, l, _, h1, _ => by
    have : l = [] := by simpa using h1
    subst this; simp
  | _, x :: xs, [], l, _, _, h2 => by
    have : l = [] := by simpa using h2
    subst this; simp
  | 0, x :: xs, y :: ys, l, h, _, _ => by simp at h
  | n + 1, x :: xs, y :: ys, l, h, h1, h2 => by
    simp only [List.length_cons] at h
    by_cases hxy : x = y
    · subst hxy
      rw [lcs_eq]
      cases l with
      | nil => simp
      | cons z l =>
        have g1 : l.Sublist xs := by
          cases h1 with
          | cons _ h => exact (List.sublist_cons_self z l).trans h
          | cons_cons _ h => exact h
        have g2 : l.Sublist ys := by
          cases h2 with
          | cons _ h => exact (List.sublist_cons_self z l).trans h
          | cons_cons _ h => exact h
        have := lcs_opt n xs ys l (by omega) g1 g2
        simp only [List.length_cons]; omega
    · rw [lcs_ne hxy]
      cases h1 with
      | cons _ h1 =>
        have := lcs_opt n xs (y :: ys) l (by simp only [List.length_cons]; omega) h1 h2
        omega
      | cons_cons _ h1 =>
        rename_i l
        cases h2 with
        | cons _ h2 =>
          have := lcs_opt n (x :: xs) ys (x :: l) (by simp only [List.length_cons]; omega) (h1.cons_cons x) h2
          omega
        | cons_cons _ h2 => exact absurd rfl hxy
theorem lcs_ex : ∀ (n : Nat) (xs ys : List UInt8), xs.length + ys.length ≤ n → ∃ l : List UInt8, l.Sublist xs ∧ l.Sublist ys ∧ l.length = lcs xs ys
  | _, [], ys, _ => ⟨[], List.nil_sublist _, List.nil_sublist _, by rw [lcs_nil_left]; rfl⟩
  | _, x :: xs, [], _ => ⟨[], List.nil_sublist _, List.nil_sublist _, by rw [lcs_nil_right]; rfl⟩
  | 0, x :: xs, y :: ys, h => by simp at h
  | n + 1, x :: xs, y :: ys, h => by
    simp only [List.length_cons] at h
    by_cases hxy : x = y
    · subst hxy
      obtain ⟨l, h1, h2, h3⟩ := lcs_ex n xs ys (by omega)
      exact ⟨x :: l, h1.cons_cons x, h2.cons_cons x, by rw [lcs_eq, List.length_cons, h3]; omega⟩
    · rw [lcs_ne hxy]
      rcases Nat.le_total (lcs xs (y :: ys)) (lcs (x :: xs) ys) with hle | hle
      · obtain ⟨l, h1, h2, h3⟩ := lcs_ex n (x :: xs) ys (by simp only [List.length_cons]; omega)
        exact ⟨l, h1, h2.cons y, by omega⟩
      · obtain ⟨l, h1, h2, h3⟩ := lcs_ex n xs (y :: ys) (by simp only [List.length_cons]; omega)
        exact ⟨l, h1.cons x, h2, by omega⟩
theorem lcs_le {xs ys l : List UInt8} (h1 : l.Sublist xs) (h2 : l.Sublist ys) : l.length ≤ lcs xs ys := lcs_opt _ xs ys l (Nat.le_refl _) h1 h2
theorem lcs_get (xs ys : List UInt8) : ∃ l : List UInt8, l.Sublist xs ∧ l.Sublist ys ∧ l.length = lcs xs ys := lcs_ex _ xs ys (Nat.le_refl _)
theorem lcs_bound (xs ys : List UInt8) : lcs xs ys ≤ xs.length ∧ lcs xs ys ≤ ys.length := by
  obtain ⟨l, h1, h2, h3⟩ := lcs_get xs ys
  exact ⟨by rw [← h3]; exact h1.length_le, by rw [← h3]; exact h2.length_le⟩
theorem lcs_rev (xs ys : List UInt8) : lcs xs.reverse ys.reverse = lcs xs ys := by
  obtain ⟨l, h1, h2, h3⟩ := lcs_get xs ys
  obtain ⟨k, g1, g2, g3⟩ := lcs_get xs.reverse ys.reverse
  have e1 := lcs_le h1.reverse h2.reverse
  have e2 := lcs_le (by simpa using g1.reverse) (by simpa using g2.reverse) (l := k.reverse) (xs := xs) (ys := ys)
  rw [List.length_reverse] at e1 e2
  omega
/-- the way from a list to another, as the table shows it -/
def trc : List UInt8 → List UInt8 → List U
  | [], ys => ys.map (fun b => some (some b))
  | x :: xs, [] => List.replicate (xs.length + 1) (some none)
  | x :: xs, y :: ys => if x = y then none :: trc xs ys else if lcs (x :: xs) ys ≤ lcs xs (y :: ys) then some none :: trc xs (y :: ys) else some (some y) :: trc (x :: xs) ys
termination_by xs ys => xs.length + ys.length
theorem trc_left (ys : List UInt8) : trc [] ys = ys.map (fun b => some (some b)) := by rw [trc]
theorem trc_right (xs : List UInt8) : trc xs [] = List.replicate xs.length (some none) := by
  cases xs with
  | nil => rw [trc]; rfl
  | cons x xs => rw [trc]; rfl
theorem trc_eq (x : UInt8) (xs ys : List UInt8) : trc (x :: xs) (x :: ys) = none :: trc xs ys := by rw [trc, if_pos rfl]
theorem trc_cut {x y : UInt8} (h : x ≠ y) (xs ys : List UInt8) (hl : lcs (x :: xs) ys ≤ lcs xs (y :: ys)) : trc (x :: xs) (y :: ys) = some none :: trc xs (y :: ys) := by rw [trc, if_neg h, if_pos hl]
theorem trc_put {x y : UInt8} (h : x ≠ y) (xs ys : List UInt8) (hl : ¬ lcs (x :: xs) ys ≤ lcs xs (y :: ys)) : trc (x :: xs) (y :: ys) = some (some y) :: trc (x :: xs) ys := by rw [trc, if_neg h, if_neg hl]
theorem nC_pu : ∀ l : List UInt8, nC (l.map (fun b => (some (some b) : U))) = 0
  | [] => rfl
  | x :: l => by simp only [List.map_cons, nC]; exact nC_pu l
theorem nP_pul : ∀ l : List UInt8, nP (l.map (fun b => (some (some b) : U))) = l.length
  | [] => rfl
  | x :: l => by simp only [List.map_cons, nP, List.length_cons]; rw [nP_pul l]
theorem nI_pul : ∀ l : List UInt8, nI (l.map (fun b => (some (some b) : U))) = 0
  | [] => rfl
  | x :: l => by simp only [List.map_cons, nI]; exact nI_pul l
theorem nC_rep : ∀ n : Nat, nC (List.replicate n (some none)) = n
  | 0 => rfl
  | n + 1 => by rw [List.replicate_succ]; simp only [nC]; rw [nC_rep n]
theorem nP_rep : ∀ n : Nat, nP (List.replicate n (some none)) = 0
  | 0 => rfl
  | n + 1 => by rw [List.replicate_succ]; simp only [nP]; exact nP_rep n
theorem ap_pul (l : List UInt8) : ap id (l.map (fun b => (some (some b) : U))) ([] : List UInt8) = l := by
  induction l with
  | nil => rfl
  | cons x l ih => simp only [List.map_cons, ap]; rw [ih]; rfl
theorem trc_all : ∀ (n : Nat) (xs ys : List UInt8), xs.length + ys.length ≤ n → nI (trc xs ys) = xs.length ∧ ap id (trc xs ys) xs = ys ∧ nC (trc xs ys) + nP (trc xs ys) + 2 * lcs xs ys = xs.length + ys.length
  | _, [], ys, _ => by
    rw [trc_left, nI_pul, nC_pu, nP_pul, lcs_nil_left, ap_pul]
    simp
  | _, x :: xs, [], _ => by
    rw [trc_right, nI_cuts, nC_rep, nP_rep, lcs_nil_right, ap_cuts]
    simp
  | 0, x :: xs, y :: ys, h => by simp at h
  | n + 1, x :: xs, y :: ys, h => by
    simp only [List.length_cons] at h
    by_cases hxy : x = y
    · subst hxy
      obtain ⟨h1, h2, h3⟩ := trc_all n xs ys (by omega)
      rw [trc_eq, lcs_eq]
      simp only [nI, ap, nC, nP, List.length_cons]
      exact ⟨by omega, by rw [h2], by omega⟩
    · by_cases hl : lcs (x :: xs) ys ≤ lcs xs (y :: ys)
      · obtain ⟨h1, h2, h3⟩ := trc_all n xs (y :: ys) (by simp only [List.length_cons]; omega)
        rw [trc_cut hxy _ _ hl, lcs_ne hxy]
        simp only [nI, ap, nC, nP, List.length_cons] at h3 ⊢
        exact ⟨by omega, h2, by omega⟩
      · obtain ⟨h1, h2, h3⟩ := trc_all n (x :: xs) ys (by simp only [List.length_cons]; omega)
        rw [trc_put hxy _ _ hl, lcs_ne hxy]
        simp only [nI, ap, nC, nP, List.length_cons] at h1 h3 ⊢
        exact ⟨by omega, by rw [h2]; rfl, by omega⟩
theorem trc_len : ∀ (n : Nat) (xs ys : List UInt8), xs.length + ys.length ≤ n → (trc xs ys).length ≤ xs.length + ys.length
  | _, [], ys, _ => by rw [trc_left]; simp
  | _, x :: xs, [], _ => by rw [trc_right]; simp
  | 0, x :: xs, y :: ys, h => by simp at h
  | n + 1, x :: xs, y :: ys, h => by
    simp only [List.length_cons] at h
    by_cases hxy : x = y
    · subst hxy
      have := trc_len n xs ys (by omega)
      rw [trc_eq]; simp only [List.length_cons]; omega
    · by_cases hl : lcs (x :: xs) ys ≤ lcs xs (y :: ys)
      · have := trc_len n xs (y :: ys) (by simp only [List.length_cons]; omega)
        rw [trc_cut hxy _ _ hl]; simp only [List.length_cons] at this ⊢; omega
      · have := trc_len n (x :: xs) ys (by simp only [List.length_cons]; omega)
        rw [trc_put hxy _ _ hl]; simp only [List.length_cons] at this ⊢; omega
theorem trc_chk {S T : List UInt8} (hs : S.length ≤ 500) (ht : T.length ≤ 500) : chk (grp (cz (trc S T))) = 0 ∧ units (grp (cz (trc S T))) = cz (trc S T) := by
  obtain ⟨h1, h2, _⟩ := trc_all _ S T (Nat.le_refl _)
  have h3 := ap_length id (trc S T) S h1
  rw [h2] at h3
  exact ⟨good_cz (by omega) (by omega), units_grp _⟩
/-- the bytes that are kept -/
def kpt : List U → List UInt8 → List UInt8
  | none :: us, x :: s => x :: kpt us s
  | some none :: us, _ :: s => kpt us s
  | some (some _) :: us, s => kpt us s
  | _, _ => []
theorem kpt_all : ∀ (us : List U) (s : List UInt8), nI us = s.length → (kpt us s).Sublist s ∧ (kpt us s).Sublist (ap id us s) ∧ s.length = (kpt us s).length + nC us ∧ (ap id us s).length = (kpt us s).length + nP us
  | [], s, h => by
    have : s = [] := List.eq_nil_of_length_eq_zero (by simpa [nI] using h.symm)
    subst this
    exact ⟨List.nil_sublist _, List.nil_sublist _, rfl, rfl⟩
  | none :: us, [], h => by simp [nI] at h
  | none :: us, x :: s, h => by
    obtain ⟨h1, h2, h3, h4⟩ := kpt_all us s (by simpa [nI] using h)
    simp only [kpt, ap, nC, nP, List.length_cons]
    exact ⟨h1.cons_cons x, h2.cons_cons x, by omega, by omega⟩
  | some none :: us, [], h => by simp [nI] at h
  | some none :: us, x :: s, h => by
    obtain ⟨h1, h2, h3, h4⟩ := kpt_all us s (by simpa [nI] using h)
    simp only [kpt, ap, nC, nP, List.length_cons]
    exact ⟨h1.cons x, h2, by omega, h4⟩
  | some (some b) :: us, s, h => by
    obtain ⟨h1, h2, h3, h4⟩ := kpt_all us s (by simpa [nI] using h)
    simp only [kpt, ap, nC, nP, List.length_cons]
    exact ⟨h1, h2.cons _, h3, by omega⟩
end Go.Proofs.Ytokngfinnieccaa
namespace Go.Proofs.Ytokngfinnieccaa
set_option linter.unusedVariables false
set_option linter.unusedSimpArgs false

end Go.Proofs.Ytokngfinnieccaa
namespace Go.Proofs.Ytokngfinnieccaa
open Go.ChangeShapes Go.WideShapes Go.RowKit
set_option linter.unusedVariables false
set_option linter.unusedSimpArgs false
set_option maxRecDepth 100000
set_option maxHeartbeats 4000000
def PL (S T : List UInt8) (i k : Nat) : Nat := lcs (S.take i).reverse (T.take k).reverse
theorem PL_top (S T : List UInt8) (k : Nat) : PL S T 0 k = 0 := by
  unfold PL
  rw [List.take_zero, List.reverse_nil, lcs_nil_left]
theorem PL_left (S T : List UInt8) (i : Nat) : PL S T i 0 = 0 := by
  unfold PL
  rw [List.take_zero, List.reverse_nil, lcs_nil_right]
theorem take_rev (S : List UInt8) (i : Nat) (h : i < S.length) : (S.take (i + 1)).reverse = S[i] :: (S.take i).reverse := by
  rw [List.take_succ_eq_append_getElem h, List.reverse_append]
  rfl
theorem PL_eq {S T : List UInt8} {i k : Nat} (hi : i < S.length) (hk : k < T.length) (h : S[i] = T[k]) : PL S T (i + 1) (k + 1) = PL S T i k + 1 := by
  unfold PL
  rw [take_rev S i hi, take_rev T k hk, h, lcs_eq]
  omega
theorem PL_ne {S T : List UInt8} {i k : Nat} (hi : i < S.length) (hk : k < T.length) (h : S[i] ≠ T[k]) : PL S T (i + 1) (k + 1) = max (PL S T (i + 1) k) (PL S T i (k + 1)) := by
  unfold PL
  rw [take_rev S i hi, take_rev T k hk, lcs_ne h]
  omega
theorem PL_end (S T : List UInt8) : PL S T S.length T.length = lcs S T := by
  unfold PL
  rw [List.take_length, List.take_length, lcs_rev]
theorem PL_le (S T : List UInt8) (i k : Nat) : PL S T i k ≤ S.length := by
  have h := (lcs_bound (S.take i).reverse (T.take k).reverse).1
  unfold PL
  rw [List.length_reverse, List.length_take] at h
  omega
theorem nP_cz_trc (S T : List UInt8) : nP (cz (trc S T)) + lcs S T = T.length := by
  obtain ⟨h1, h2, h3⟩ := trc_all _ S T (Nat.le_refl _)
  obtain ⟨k1, k2, k3, k4⟩ := kpt_all (trc S T) S h1
  rw [h2] at k4 k2
  rw [nP_cz]
  omega
theorem szP_of {l : List Pt} (h : chk l = 0) : szP l = (nP (units l) : Int) := by
  have hf := (chk_parts h).2.2.1
  exact (nP_units l hf).symm
end Go.Proofs.Ytokngfinnieccaa
namespace Go.Proofs.Ytokngfinnieccaa
set_option linter.unusedVariables false
set_option linter.unusedSimpArgs false

def cN (l : List Int) (v : Nat) : Nat := l.countP (fun x => x == (v : Int))
theorem cN_cons (x : Int) (l : List Int) (v : Nat) : cN (x :: l) v = cN l v + if x = (v : Int) then 1 else 0 := by
  unfold cN
  rw [List.countP_cons]
  by_cases h : x = (v : Int) <;> simp [h]
theorem cN_snoc (x : Int) (l : List Int) (v : Nat) : cN (l ++ [x]) v = cN l v + if x = (v : Int) then 1 else 0 := by
  unfold cN
  rw [List.countP_append]
  by_cases h : x = (v : Int) <;> simp [h]
theorem cN_ap_le (c : Int) (v : Nat) (h : (v : Int) ≠ c) : ∀ (us : List U) (s : List Int), cN (ap (fun _ => c) us s) v ≤ cN s v
  | [], s => by simp [ap, cN]
  | none :: us, [] => by simp [ap, cN]
  | none :: us, x :: s => by have := cN_ap_le c v h us s; simp only [ap]; rw [cN_cons, cN_cons]; omega
  | some none :: us, [] => by simp [ap, cN]
  | some none :: us, x :: s => by have := cN_ap_le c v h us s; simp only [ap]; rw [cN_cons]; omega
  | some (some b) :: us, s => by have := cN_ap_le c v h us s; simp only [ap]; rw [cN_cons, if_neg (fun e => h e.symm)]; omega
theorem cN_ap_eq (v : Nat) : ∀ (us : List U) (s : List Int), nI us = s.length → (∀ x ∈ s, x ≠ (v : Int)) → cN (ap (fun _ => (v : Int)) us s) v = nP us
  | [], s, h, _ => by simp [ap, cN, nP]
  | none :: us, [], h, _ => by simp [nI] at h
  | none :: us, x :: s, h, hx => by
    have := cN_ap_eq v us s (by simpa [nI] using h) fun y hy => hx y (by simp [hy])
    simp only [ap, nP]; rw [cN_cons, if_neg (hx x (by simp)), this, Nat.add_zero]
  | some none :: us, [], h, _ => by simp [nI] at h
  | some none :: us, x :: s, h, hx => by
    have := cN_ap_eq v us s (by simpa [nI] using h) fun y hy => hx y (by simp [hy])
    simp only [ap, nP]; exact this
  | some (some b) :: us, s, h, hx => by
    have := cN_ap_eq v us s (by simpa [nI] using h) hx
    simp only [ap, nP]; rw [cN_cons, if_pos rfl, this]
theorem bl_old : ∀ (l : List Rv) (k v : Nat) (W : List Int), v ≤ k → cN (blL k W l) v ≤ cN W v
  | [], k, v, W, _ => Nat.le_refl _
  | r :: l, k, v, W, h => by
    have h1 := bl_old l (k + 1) v (ap (fun _ => (k : Int) + 1) (units r.2.2) W) (by omega)
    have h2 := cN_ap_le ((k : Int) + 1) v (by omega) (units r.2.2) W
    simp only [blL]
    omega
theorem bl_new : ∀ (l : List Rv) (k : Nat) (W : List Int) (s : ByteArray), txr s l = 0 → W.length = s.size → (∀ x ∈ W, x ≤ (k : Int)) → ∀ (j : Nat) (hj : j < l.length),
    cN (blL k W l) (k + 1 + j) ≤ nP (units l[j].2.2) ∧ (j + 1 = l.length → cN (blL k W l) (k + 1 + j) = nP (units l[j].2.2))
  | [], k, W, s, _, _, _, j, hj => absurd hj (by simp)
  | r :: l, k, W, s, h, h2, h3, j, hj => by
    simp only [txr] at h
    split at h
    · omega
    · split at h
      · omega
      · rename_i q1 q2
        have q2' : doE r.2.2 s = 0 := by omega
        have hk := do_chk q2'
        have hn : nI (units r.2.2) = W.length := by rw [hk.2.1, h2]
        have ha := ap_length (fun _ => (k : Int) + 1) (units r.2.2) W hn
        have hz := do_size q2'
        have he := cN_ap_eq (k + 1) (units r.2.2) W hn fun x hx => by have := h3 x hx; omega
        rw [show ((k + 1 : Nat) : Int) = (k : Int) + 1 by omega] at he
        cases j with
        | zero =>
          have ho := bl_old l (k + 1) (k + 1) (ap (fun _ => (k : Int) + 1) (units r.2.2) W) (Nat.le_refl _)
          simp only [blL, List.getElem_cons_zero, Nat.add_zero]
          refine ⟨by omega, fun h4 => ?_⟩
          have : l = [] := List.eq_nil_of_length_eq_zero (by simpa using h4)
          subst this
          exact he
        | succ j =>
          have ih := bl_new l (k + 1) (ap (fun _ => (k : Int) + 1) (units r.2.2) W) (doS r.2.2 s) h (by omega) (ap_mem (fun x => x ≤ ((k + 1 : Nat) : Int)) _ (fun _ => by omega) _ _ fun y hy => by have := h3 y hy; omega) j (by simpa using hj)
          simp only [blL, List.getElem_cons_succ, List.length_cons]
          rw [show k + 1 + (j + 1) = k + 1 + 1 + j by omega]
          exact ⟨ih.1, fun h4 => ih.2 (by omega)⟩
theorem blame_new {base : ByteArray} {l : List Rv} (h : txE base l = 0) (j : Nat) (hj : j < l.length) :
    (cN (blame base l) (j + 1) : Int) ≤ szP l[j].2.2 ∧ (j + 1 = l.length → (cN (blame base l) (j + 1) : Int) = szP l[j].2.2) ∧ chk l[j].2.2 = 0 := by
  have hp := txE_parts h
  have hb := bl_new l 0 (List.replicate base.size 0) base hp.2.2 (by simp) (fun x hx => by rw [List.mem_replicate] at hx; omega) j hj
  have ha := txr_at l base j hj hp.2.2
  have hk := (do_chk ha.2.1).1
  have hz := nP_units _ (chk_parts hk).2.2.1
  rw [show 0 + 1 + j = j + 1 by omega] at hb
  unfold blame
  refine ⟨by omega, fun h2 => by have := hb.2 h2; omega, hk⟩
end Go.Proofs.Ytokngfinnieccaa
namespace Go.Proofs.Ytokngfinnieccaa
open Go.ChangeShapes Go.WideShapes Go.RowKit
set_option linter.unusedVariables false
set_option linter.unusedSimpArgs false
set_option maxRecDepth 100000
set_option maxHeartbeats 4000000

theorem blk_own {w : World} {base g m : Nat} {e : TypeId} {xs : List Value} (h : w.ownsRow base e 1 (.slice (some ⟨g, 0, none⟩) m m) m xs) : Blk w g e xs.toArray := by
  rcases h.2 with ⟨hv, _⟩ | ⟨g', cap, cur, hv, hg, hh, hn, hc, hcs, htk⟩
  · injection hv with h1; cases h1
  · injection hv with h1 h2 h3
    injection h1 with h1
    injection h1 with h1
    subst h1; subst h3
    unfold Blk
    rw [hh]
    have : cur = xs.toArray := by
      rw [← htk, List.take_of_length_le (by simp; omega)]
    rw [this]
def sl (m g : Nat) : Value := .slice (some ⟨g, 0, none⟩) m m
/-- the table: rows in blocks of their own -/
def DT (w : World) (G m : Nat) (gs : List Nat) (rows : List (List Int)) (N : Nat) : Prop :=
  gs.length = rows.length ∧ gs.length ≤ N ∧ Blk w G 33 (gs.map (sl m) ++ List.replicate (N - gs.length) (Value.slice none 0 0)).toArray ∧
  (∀ i (h : i < gs.length) (h' : i < rows.length), Blk w gs[i] 3 (ic rows[i]).toArray) ∧ gs.Pairwise (· < ·) ∧ ∀ g ∈ gs, G < g
section
variable {w w' : World} {G m N : Nat} {gs : List Nat} {rows : List (List Int)}
theorem DT.below {B : Nat} (h : DT w G m gs rows N) (hB : w.heap.size ≤ B) (hb : Below B w w') : DT w' G m gs rows N := by
  obtain ⟨h1, h2, h3, h4, h5, h6⟩ := h
  exact ⟨h1, h2, h3.below hb (by have := h3.lt; omega), fun i a b => (h4 i a b).below hb (by have := (h4 i a b).lt; omega), h5, h6⟩
theorem DT.drewN (h : DT w G m gs rows N) (n : Nat) : DT (w.drewN n) G m gs rows N := h
theorem DT.cellG (h : DT w G m gs rows N) (i : Nat) (hi : i < gs.length) : w.cell? ⟨G, i, none⟩ = some (.slice (some ⟨gs[i], 0, none⟩) m m) := by
  rw [h.2.2.1.cell i, List.getElem?_toArray, List.getElem?_append_left (by simpa using hi), List.getElem?_map, List.getElem?_eq_getElem hi]
  rfl
theorem DT.cell (h : DT w G m gs rows N) (i k : Nat) (hi : i < gs.length) (hr : i < rows.length) (hk : k < rows[i].length) : w.cell? ⟨gs[i], k, none⟩ = some (.int .i64 rows[i][k]) := by
  rw [(h.2.2.2.1 i hi hr).cell k, List.getElem?_toArray, ic_at _ k hk]
theorem DT.set_ (h : DT w G m gs rows N) (i k : Nat) (v : Int) (hi : i < gs.length) (hr : i < rows.length) : DT (w.setCell ⟨gs[i], k, none⟩ (.int .i64 v)) G m gs (rows.set i (rows[i].set k v)) N := by
  obtain ⟨h1, h2, h3, h4, h5, h6⟩ := h
  have hG : G < gs[i] := h6 _ (List.getElem_mem hi)
  refine ⟨by rw [List.length_set]; exact h1, h2, h3.far (by show G ≠ gs[i]; omega) _, fun j a b => ?_, h5, h6⟩
  by_cases hji : j = i
  · subst hji
    have := (h4 j a hr).set_ k (.int .i64 v)
    rw [List.getElem_set_self]
    have e : (ic rows[j]).toArray.setIfInBounds k (.int .i64 v) = (ic (rows[j].set k v)).toArray := by
      unfold ic
      simp [List.map_set]
    rw [e] at this
    exact this
  · have hne : gs[j] ≠ gs[i] := by
      rcases Nat.lt_or_gt_of_ne hji with hlt | hgt
      · have := List.pairwise_iff_getElem.1 h5 j i a hi hlt
        omega
      · have := List.pairwise_iff_getElem.1 h5 i j hi a hgt
        omega
    rw [List.getElem_set_ne (by omega)]
    exact (h4 j a (by rw [List.length_set] at b; exact b)).far (by exact hne) _
theorem DT.push {g : Nat} {zs : List Int} (h : DT w G m gs rows N) (hN : gs.length < N) (hg : w.grownBy w' none) (hn : Blk w' g 3 (ic zs).toArray) (hgl : w.heap.size = g) :
    DT (w'.setCell ⟨G, gs.length, none⟩ (.slice (some ⟨g, 0, none⟩) m m)) G m (gs ++ [g]) (rows ++ [zs]) N := by
  obtain ⟨h1, h2, h3, h4, h5, h6⟩ := h
  have hGl := h3.lt
  refine ⟨by simp [h1], by simp; omega, ?_, fun j a b => ?_, ?_, fun x hx => ?_⟩
  · have := (h3.grown hg (by simp)).set_ gs.length (.slice (some ⟨g, 0, none⟩) m m)
    have e : (gs.map (sl m) ++ List.replicate (N - gs.length) (Value.slice none 0 0)).toArray.setIfInBounds gs.length (.slice (some ⟨g, 0, none⟩) m m) = ((gs ++ [g]).map (sl m) ++ List.replicate (N - (gs ++ [g]).length) (Value.slice none 0 0)).toArray := by
      obtain ⟨q, hq⟩ : ∃ q, N - gs.length = q + 1 := ⟨N - gs.length - 1, by omega⟩
      rw [hq, List.setIfInBounds_toArray]
      congr 1
      rw [List.length_append, List.length_singleton, show N - (gs.length + 1) = q by omega, List.replicate_succ, List.map_append, List.append_assoc]
      rw [List.set_append_right _ _ (by simp)]
      simp [sl]
    rw [e] at this
    exact this
  · rw [List.length_append, List.length_singleton] at a
    by_cases hj : j < gs.length
    · rw [List.getElem_append_left hj, List.getElem_append_left (by omega)]
      have hb := h4 j hj (by omega)
      have hlt := hb.lt
      have hG : G < gs[j] := h6 _ (List.getElem_mem hj)
      exact (hb.grown hg (by simp)).far (by show gs[j] ≠ G; omega) _
    · obtain rfl : j = gs.length := by omega
      have e1 : (gs ++ [g])[gs.length]'(by simp) = g := by simp
      have e2 : (rows ++ [zs])[gs.length]'b = zs := by
        rw [List.getElem_append_right (by omega)]
        simp [h1]
      rw [e1, e2]
      exact hn.far (by show g ≠ G; omega) _
  · rw [List.pairwise_append]
    refine ⟨h5, by simp, fun x hx y hy => ?_⟩
    rw [List.mem_singleton] at hy
    subst hy
    obtain ⟨j, hj, rfl⟩ := List.getElem_of_mem hx
    have := (h4 j hj (by omega)).lt
    omega
  · rw [List.mem_append, List.mem_singleton] at hx
    rcases hx with hx | rfl
    · exact h6 x hx
    · omega
end
end Go.Proofs.Ytokngfinnieccaa
namespace Go.Proofs.Ytokngfinnieccaa
open Go.ChangeShapes Go.WideShapes Go.RowKit
set_option linter.unusedVariables false
set_option linter.unusedSimpArgs false
set_option maxRecDepth 100000
set_option maxHeartbeats 4000000

theorem Try.info_ints : (Try.prog.info? 33).map (fun i => (i.zero, i.size, i.bytes)) = some (some (.slice none 0 0), 1, 24) := by kernel_rfl
theorem DT.new {w' : World} {B G N m : Nat} (h : w'.ownsRow B 33 1 (.slice (some ⟨G, 0, none⟩) N N) N (madeCells #[.slice none 0 0] N).toList) : DT w' G m [] [] N := by
  have := blk_own h
  rw [toList_madeCells_one] at this
  exact ⟨rfl, Nat.zero_le _, by simpa using this, fun i a => absurd a (by simp), List.Pairwise.nil, by simp⟩
theorem zrow (n : Nat) : (madeCells #[.int .i64 0] n).toList = ic (List.replicate n 0) := by
  rw [toList_madeCells_one]
  simp [ic]
theorem zrow2 (n : Nat) : (madeCells (Value.cells (.int .i64 0)) (n * 1)).toList = ic (List.replicate n 0) := by
  rw [Nat.mul_one]; exact zrow n
theorem Mk.dn {w : World} {B g : Nat} {ob : Option Nat} {us : List U} (h : Mk w B g ob us) (n : Nat) : Mk (w.drewN n) B g ob us := h
theorem below_dn {B : Nat} {a w : World} (h : Below B a w) (n : Nat) : Below B a (w.drewN n) := ⟨h.os, h.tape, h.output, h.size, h.block⟩
theorem ext_one {t : ByteArray} {k : Nat} (h : k < t.size) : pu (t.extract k (k + 1)) = [some (some t[k])] := by
  have hl : k < t.data.toList.length := h
  have e : (t.extract k (k + 1)).data.toList = [t.data.toList[k]'hl] := by
    rw [bs_extract, List.take_succ_eq_append_getElem hl, List.drop_append_of_le_length (by rw [List.length_take]; omega)]
    rw [List.drop_eq_nil_of_le (by rw [List.length_take]; omega)]
    rfl
  unfold pu
  rw [e]
  rfl
theorem ext_rest {t : ByteArray} {k m : Nat} (hm : t.size = m) : pu (t.extract k m) = (t.data.toList.drop k).map (fun b => some (some b)) := by
  have e : (t.extract k m).data.toList = t.data.toList.drop k := by
    rw [bs_extract, List.take_of_length_le (by rw [← hm]; exact Nat.le_refl _)]
  unfold pu
  rw [e]
/-- an entry of the table -/
def gt (rows : List (List Int)) (r c : Nat) : Int := (rows.getD r []).getD c 0
def full (rows : List (List Int)) (n m : Nat) : Prop := rows.length = n + 1 ∧ ∀ r (h : r < rows.length), rows[r].length = m + 1
theorem gt_at {rows : List (List Int)} {r c : Nat} (h1 : r < rows.length) (h2 : c < rows[r].length) : gt rows r c = rows[r][c] := by
  unfold gt
  simp [List.getD_eq_getElem?_getD, List.getElem?_eq_getElem h1, List.getElem?_eq_getElem h2]
theorem full_set {rows : List (List Int)} {n m i k : Nat} {v : Int} (h : full rows n m) (hi : i < rows.length) : full (rows.set i (rows[i].set k v)) n m := by
  refine ⟨by rw [List.length_set]; exact h.1, fun r hr => ?_⟩
  rw [List.length_set] at hr
  rw [List.getElem_set]
  split
  · rw [List.length_set]; exact h.2 i hi
  · exact h.2 r hr
theorem gt_set {rows : List (List Int)} {n m i k : Nat} {v : Int} (h : full rows n m) (hi : i < rows.length) (hk : k ≤ m) (r c : Nat) (hr : r ≤ n) (hc : c ≤ m) : gt (rows.set i (rows[i].set k v)) r c = if r = i ∧ c = k then v else gt rows r c := by
  have hf := full_set (k := k) (v := v) h hi
  have h1 : r < (rows.set i (rows[i].set k v)).length := by rw [hf.1]; omega
  have h2 : c < ((rows.set i (rows[i].set k v))[r]).length := by rw [hf.2 r h1]; omega
  have h1' : r < rows.length := by rw [h.1]; omega
  have h2' : c < (rows[r]).length := by rw [h.2 r h1']; omega
  rw [gt_at h1 h2, gt_at h1' h2']
  by_cases hri : r = i
  · subst hri
    simp only [List.getElem_set_self]
    rw [List.getElem_set]
    by_cases hck : k = c
    · simp [hck]
    · rw [if_neg hck, if_neg (by omega)]
  · rw [if_neg (by omega)]
    simp only [List.getElem_set_ne (show i ≠ r by omega)]
def FT (S T : List UInt8) (r c : Nat) : Int := (lcs (S.drop r) (T.drop c) : Nat)
theorem FT_end (S T : List UInt8) (r c : Nat) (h : S.length ≤ r ∨ T.length ≤ c) : FT S T r c = 0 := by
  unfold FT
  rcases h with h | h
  · rw [List.drop_eq_nil_of_le h, lcs_nil_left]; rfl
  · rw [List.drop_eq_nil_of_le h, lcs_nil_right]; rfl
theorem FT_le (S T : List UInt8) (r c : Nat) : 0 ≤ FT S T r c ∧ FT S T r c ≤ S.length := by
  unfold FT
  have := (lcs_bound (S.drop r) (T.drop c)).1
  rw [List.length_drop] at this
  omega
theorem FT_eq {S T : List UInt8} {i k : Nat} (hi : i < S.length) (hk : k < T.length) (h : S[i] = T[k]) : FT S T i k = 1 + FT S T (i + 1) (k + 1) := by
  unfold FT
  rw [List.drop_eq_getElem_cons hi, List.drop_eq_getElem_cons hk, h, lcs_eq]
  omega
theorem FT_ne {S T : List UInt8} {i k : Nat} (hi : i < S.length) (hk : k < T.length) (h : S[i] ≠ T[k]) : FT S T i k = max (FT S T (i + 1) k) (FT S T i (k + 1)) := by
  unfold FT
  have e1 := List.drop_eq_getElem_cons hi
  have e2 := List.drop_eq_getElem_cons hk
  rw [e1, e2, lcs_ne h, ← e1, ← e2]
  omega
theorem st_eq {S T : List UInt8} {i k : Nat} (hi : i < S.length) (hk : k < T.length) (h : S[i] = T[k]) : trc (S.drop i) (T.drop k) = none :: trc (S.drop (i + 1)) (T.drop (k + 1)) := by
  rw [List.drop_eq_getElem_cons hi, List.drop_eq_getElem_cons hk, h, trc_eq]
theorem st_cut {S T : List UInt8} {i k : Nat} (hi : i < S.length) (hk : k < T.length) (h : S[i] ≠ T[k]) (hl : FT S T i (k + 1) ≤ FT S T (i + 1) k) : trc (S.drop i) (T.drop k) = some none :: trc (S.drop (i + 1)) (T.drop k) := by
  unfold FT at hl
  have e1 := List.drop_eq_getElem_cons hi
  have e2 := List.drop_eq_getElem_cons hk
  rw [e1, e2, trc_cut h _ _ (by rw [← e1, ← e2]; omega), ← e2]
theorem st_put {S T : List UInt8} {i k : Nat} (hi : i < S.length) (hk : k < T.length) (h : S[i] ≠ T[k]) (hl : ¬ FT S T i (k + 1) ≤ FT S T (i + 1) k) : trc (S.drop i) (T.drop k) = some (some T[k]) :: trc (S.drop i) (T.drop (k + 1)) := by
  unfold FT at hl
  have e1 := List.drop_eq_getElem_cons hi
  have e2 := List.drop_eq_getElem_cons hk
  rw [e1, e2, trc_put h _ _ (by rw [← e1, ← e2]; omega), ← e1]
theorem st_end {S T : List UInt8} {i k : Nat} (h : S.length ≤ i ∨ T.length ≤ k) : trc (S.drop i) (T.drop k) = List.replicate (S.length - i) (some none) ++ (T.drop k).map (fun b => some (some b)) := by
  by_cases hi : S.length ≤ i
  · rw [List.drop_eq_nil_of_le hi, trc_left, show S.length - i = 0 by omega]; rfl
  · have hk : T.length ≤ k := by omega
    rw [List.drop_eq_nil_of_le hk, trc_right, List.length_drop]; simp
theorem gt_zero (n m r c : Nat) : gt (List.replicate (n + 1) (List.replicate (m + 1) 0)) r c = 0 := by
  unfold gt
  simp only [List.getD_eq_getElem?_getD, List.getElem?_replicate]
  split
  · simp only [Option.getD_some, List.getElem?_replicate]
    split <;> rfl
  · simp
end Go.Proofs.Ytokngfinnieccaa
namespace Go.Proofs.Ytokngfinnieccaa
open Go.ChangeShapes Go.WideShapes Go.RowKit
set_option linter.unusedVariables false
set_option linter.unusedSimpArgs false
set_option maxRecDepth 100000
set_option maxHeartbeats 4000000

theorem trc_do {s t : ByteArray} (hs : s.size ≤ 500) (ht : t.size ≤ 500) : doE (grp (cz (trc s.data.toList t.data.toList))) s = 0 ∧ doS (grp (cz (trc s.data.toList t.data.toList))) s = t := by
  have hc := trc_chk (S := s.data.toList) (T := t.data.toList) hs ht
  obtain ⟨h1, h2, _⟩ := trc_all _ s.data.toList t.data.toList (Nat.le_refl _)
  have e : doE (grp (cz (trc s.data.toList t.data.toList))) s = 0 := do_zero hc.1 (by rw [hc.2, nI_cz, h1]; rfl)
  refine ⟨e, ba_list ?_⟩
  rw [do_list e, hc.2, ap_cz id _ _ h1, h2]
end Go.Proofs.Ytokngfinnieccaa
namespace Go.Proofs.Ytokngfinnieccaa
open Go.ChangeShapes Go.WideShapes Go.RowKit
set_option linter.unusedVariables false
set_option linter.unusedSimpArgs false
set_option maxRecDepth 100000
set_option maxHeartbeats 4000000
def dl (s t : ByteArray) : List Pt := grp (cz (trc s.data.toList t.data.toList))
/-- the text ahead of the k-th -/
def pv (L : List ByteArray) : Nat → ByteArray
  | 0 => emp
  | k + 1 => L.getD k emp
def hst (L : List ByteArray) (k : Nat) : List Rv := (List.range k).map fun i => (((i % 8 : Nat) : Int), ((i + 1 : Nat) : Int), dl (pv L i) (pv L (i + 1)))
theorem hst_len (L : List ByteArray) (k : Nat) : (hst L k).length = k := by simp [hst]
theorem hst_succ (L : List ByteArray) (k : Nat) : hst L (k + 1) = hst L k ++ [(((k % 8 : Nat) : Int), ((k + 1 : Nat) : Int), dl (pv L k) (pv L (k + 1)))] := by
  simp [hst, List.range_succ]
theorem txr_appD : ∀ (l : List Rv) (s : ByteArray) (r : Rv), txr s l = 0 → oneE r = 0 → doE r.2.2 (txt s l l.length) = 0 → txr s (l ++ [r]) = 0 ∧ txt s (l ++ [r]) (l.length + 1) = doS r.2.2 (txt s l l.length)
  | [], s, r, _, h1, h2 => by
    simp only [List.nil_append, txr, List.length_nil, txt] at h2 ⊢
    rw [if_neg (by omega), if_neg (by omega)]
    refine ⟨?_, ?_⟩ <;> first | trivial | rfl
  | q :: l, s, r, h, h1, h2 => by
    simp only [txr] at h
    split at h
    · omega
    · split at h
      · omega
      · rename_i g1 g2
        simp only [List.length_cons, txt] at h2
        have ih := txr_appD l (doS q.2.2 s) r h h1 h2
        simp only [List.cons_append, txr, List.length_cons, txt]
        rw [if_neg g1, if_neg g2]
        exact ih
theorem txt_appD : ∀ (l l' : List Rv) (s : ByteArray) (k : Nat), k ≤ l.length → txt s (l ++ l') k = txt s l k
  | [], l', s, 0, _ => by cases l' <;> rfl
  | [], l', s, k + 1, h => by simp at h
  | q :: l, l', s, 0, _ => rfl
  | q :: l, l', s, k + 1, h => by
    simp only [List.cons_append, txt]
    exact txt_appD l l' _ k (by simpa using h)
theorem dl_do {s t : ByteArray} (hs : s.size ≤ 500) (ht : t.size ≤ 500) : doE (dl s t) s = 0 ∧ doS (dl s t) s = t := by
  exact trc_do hs ht
/-- a history of differences is one, and has the texts -/
theorem hst_good (L : List ByteArray) (hL : ∀ k, (pv L k).size ≤ 500) : ∀ k, k ≤ 20 → txE emp (hst L k) = 0 ∧ ∀ j, j ≤ k → txt emp (hst L k) j = pv L j
  | 0, _ => ⟨by show txE emp [] = 0; decide +kernel, fun j hj => by
    obtain rfl : j = 0 := by omega
    rfl⟩
  | k + 1, hk => by
    obtain ⟨h1, h2⟩ := hst_good L hL k (by omega)
    obtain ⟨p1, p2, p3⟩ := txE_parts h1
    have hd := dl_do (hL k) (hL (k + 1))
    have hl := hst_len L k
    have ht : txt emp (hst L k) (hst L k).length = pv L k := by rw [hl]; exact h2 k (Nat.le_refl _)
    have hone : oneE (((k % 8 : Nat) : Int), ((k + 1 : Nat) : Int), dl (pv L k) (pv L (k + 1))) = 0 := by
      unfold oneE
      rw [if_neg (by simp only; omega)]
      exact (do_chk hd.1).1
    obtain ⟨q1, q2⟩ := txr_appD (hst L k) emp (((k % 8 : Nat) : Int), ((k + 1 : Nat) : Int), dl (pv L k) (pv L (k + 1))) p3 hone (by rw [ht]; exact hd.1)
    rw [hst_succ]
    refine ⟨txE_zero p1 (by rw [List.length_append, hl]; simp; omega) q1, fun j hj => ?_⟩
    by_cases hjk : j ≤ k
    · rw [txt_appD _ _ _ _ (by rw [hl]; exact hjk)]
      exact h2 j hjk
    · obtain rfl : j = k + 1 := by omega
      rw [hl] at q2 ht
      rw [q2, ht]
      exact hd.2
theorem hst_at (L : List ByteArray) (k j : Nat) (h : j < (hst L k).length) : (hst L k)[j] = (((j % 8 : Nat) : Int), ((j + 1 : Nat) : Int), dl (pv L j) (pv L (j + 1))) := by
  simp [hst]
/-- what the last one put -/
theorem hst_last (L : List ByteArray) (hL : ∀ k, (pv L k).size ≤ 500) (k : Nat) (hk : k + 1 ≤ 20) :
    (cN (blame emp (hst L (k + 1))) (k + 1) : Int) = ((pv L (k + 1)).size : Int) - (lcs (pv L k).data.toList (pv L (k + 1)).data.toList : Nat) := by
  have hg := (hst_good L hL (k + 1) hk).1
  have hlt : k < (hst L (k + 1)).length := by rw [hst_len]; omega
  obtain ⟨_, h2, h3⟩ := blame_new hg k hlt
  have h2 := h2 (by rw [hst_len])
  rw [hst_at] at h2 h3
  simp only at h2 h3
  rw [szP_of h3] at h2
  have h4 := nP_cz_trc (pv L k).data.toList (pv L (k + 1)).data.toList
  have e1 : (pv L k).data.toList.length = (pv L k).size := by simp
  have e2 : (pv L (k + 1)).data.toList.length = (pv L (k + 1)).size := by simp
  have hu := (trc_chk (S := (pv L k).data.toList) (T := (pv L (k + 1)).data.toList) (by have := hL k; omega) (by have := hL (k + 1); omega)).2
  have h5 : units (dl (pv L k) (pv L (k + 1))) = cz (trc (pv L k).data.toList (pv L (k + 1)).data.toList) := hu
  rw [h5] at h2
  omega
theorem hst_lenx (L : List ByteArray) (hL : ∀ k, (pv L k).size ≤ 500) (k : Nat) (hk : k ≤ 20) : (blame emp (hst L k)).length = (pv L k).size := by
  obtain ⟨h1, h2⟩ := hst_good L hL k hk
  rw [blame_len h1, hst_len, h2 k (Nat.le_refl _)]
end Go.Proofs.Ytokngfinnieccaa
namespace Go.Proofs.Ytokngfinnieccaa
open Go.ChangeShapes Go.WideShapes Go.RowKit Go.Joins Go.Deep
set_option linter.unusedVariables false
set_option linter.unusedSimpArgs false
set_option maxRecDepth 100000
set_option maxHeartbeats 4000000
/-- a row of strings as it is read -/
def RdB (w : World) (B : Nat) (A : Option Addr) (n c : Nat) (l : List ByteArray) : Prop := n = l.length ∧ Rd w B 1 A n c (l.map Value.string) ∧ ∀ s ∈ l, s.size ≤ maxLen
theorem RdB.below {w w' : World} {B n c : Nat} {A : Option Addr} {l : List ByteArray} (h : RdB w B A n c l) (hb : Below B w w') : RdB w' B A n c l := ⟨h.1, h.2.1.below hb, h.2.2⟩
theorem RdB.at_ {w : World} {B n c : Nat} {A : Option Addr} {l : List ByteArray} (h : RdB w B A n c l) {k : Nat} {s : ByteArray} (hk : l[k]? = some s) :
    ∃ b o, A = some ⟨b, o, none⟩ ∧ b < B ∧ w.cell? ⟨b, o + k, none⟩ = some (.string s) ∧ s.size ≤ maxLen := by
  have hkl : k < l.length := (List.getElem?_eq_some_iff.1 hk).1
  obtain ⟨b, o, e, hb, hc⟩ := h.2.1.2.2.2 (by rw [h.1]; omega)
  exact ⟨b, o, e, hb, hc k _ (by rw [List.getElem?_map, hk]; rfl), h.2.2 s (List.mem_of_getElem? hk)⟩
theorem RdB.take {w : World} {B n c : Nat} {A : Option Addr} {l : List ByteArray} (h : RdB w B A n c l) (k : Nat) (hk : k ≤ n) : RdB w B A k c (l.take k) := by
  obtain ⟨h0, hr, hs⟩ := h
  refine ⟨by rw [List.length_take]; omega, ⟨by have := hr.1; omega, hr.2.1, by rw [List.length_map, List.length_take]; omega, fun h1 => ?_⟩, fun s hm => hs s (List.mem_of_mem_take hm)⟩
  obtain ⟨b, o, e, hb, hc⟩ := hr.2.2.2 (by omega)
  refine ⟨b, o, e, hb, fun j u hj => hc j u ?_⟩
  rw [List.map_take, List.getElem?_take] at hj
  split at hj
  · exact hj
  · cases hj
theorem RdB.caps {w : World} {B n c : Nat} {A : Option Addr} {l : List ByteArray} (h : RdB w B A n c l) : n ≤ c ∧ c ≤ 9223372036854775807 := by
  have h1 := h.2.1.1
  have h2 := h.2.1.2.1
  simp only [maxLen] at h2
  exact ⟨h1, h2⟩
def IsStrs (w : World) (v : Value) (l : List ByteArray) : Prop := ∃ A n c, v = .slice A n c ∧ RdB w w.heap.size A n c l
section
variable {H : Type} {enc : TypeId × Value → H} {w : World} {base : Nat} {spare : Nat → Bool} {held : Bool}
theorem open_strs_said {r : Reach} {b0 : Nat} {v : Value} {d : DataW H} {p : List MemPlace} (hv : Value.okWide Try.prog w r b0 22 v) (h : DataW.Trod enc Try.prog w base spare held 22 v d p) (_ : ∀ x ∈ p, x.block < w.heap.size)
    (hb : ∀ x ∈ DataW.weights Try.prog 22 d, x ≤ 140737488351232) : ∃ x, IsStrs w v x := by
  obtain ⟨A0, n0, c0, rfl⟩ := okWide_slice Try.underlying22 hv
  obtain ⟨fuel, hf⟩ := h
  rcases Go.Deep.open_strs Try.underlying22 Try.underlying9 (by kernel_rfl) hf with ⟨hc, _⟩ | ⟨a, len, cap, m, Sx, hc, _, h1, h2, h3, _, h4⟩
  · have hc := (List.cons.inj hc).1
    exact ⟨[], _, _, _, hc, rfl, Rd.nil _ _ _, by simp⟩
  · have hc := (List.cons.inj hc).1
    have hl : len ≤ m := by rw [h3]; split <;> omega
    refine ⟨(List.range len).map Sx, _, _, _, hc, by simp, rd_of (by omega) h1 h2 (by simp) fun j u hj => ?_, fun s hs => ?_⟩
    · rw [List.getElem?_map, List.getElem?_map] at hj
      have hjl : j < len := by
        rcases Nat.lt_or_ge j len with hlt | hge
        · exact hlt
        · rw [List.getElem?_eq_none (by simp; exact hge)] at hj; cases hj
      rw [List.getElem?_range hjl] at hj
      injection hj with hj
      rw [(h4 j (by omega)).1, ← hj]
    · obtain ⟨i, hi, e⟩ := List.mem_map.1 hs
      rw [← e]
      exact (h4 i (by have := List.mem_range.1 hi; omega)).2
end
theorem prev_any (L : List ByteArray) (A : Option Addr) (n c B : Nat) (w : World) (h : RdB w B A n c L) (hB : B ≤ w.heap.size) :
    Calls Try.prog 20 #[.slice A n c] w fun e w' => e = .returned (.string (pv L (n - 1))) ∧ w = w' := by
  have hn := h.1
  by_cases h2 : n < 2
  · have h2' : (n : Int) < 2 := by omega
    have hp : pv L (n - 1) = emp := by
      rw [show n - 1 = 0 by omega]
      rfl
    rw [hp]
    clear h hn h2 hp
    go_enter Try.func20, Try.ntmps20
    go_wp2_with fail
    go_ret
    exact ⟨rfl, rfl⟩
  · obtain ⟨k, rfl⟩ : ∃ k, n = k + 2 := ⟨n - 2, by omega⟩
    have hk : k < L.length := by omega
    obtain ⟨b, o, rfl, hb, hc, -⟩ := h.at_ (List.getElem?_eq_getElem hk)
    have hp : pv L (k + 2 - 1) = L[k] := by
      show L.getD k emp = _
      rw [List.getD_eq_getElem?_getD, List.getElem?_eq_getElem hk]
      rfl
    rw [hp]
    obtain ⟨s, hs⟩ : ∃ s, L[k] = s := ⟨_, rfl⟩
    rw [hs] at hc
    rw [hs]
    have hcap := h.caps
    have h2' : (2 : Int) ≤ ((k + 2 : Nat) : Int) := by omega
    have hbw : b < w.heap.size := Nat.lt_of_lt_of_le hb hB
    obtain ⟨N, hN⟩ : ∃ N, k + 2 = N := ⟨_, rfl⟩
    have e1 : IntKind.i64.wrap ((N : Int) - 2) = (k : Int) := (IntWalk.i64_in _ (by omega)).trans (by omega)
    have e2 : wrap64 ((N : Int) - 2) = (k : Int) := (IntWalk.wrap64_in _ (by omega)).trans (by omega)
    have hkN : (k : Int) < (N : Int) := by omega
    have hk0 : (0 : Int) ≤ (k : Int) := by omega
    rw [hN] at h2' hcap ⊢
    clear h hn h2 hp hs hk hb hN
    go_enter Try.func20, Try.ntmps20
    go_wp2_with fail
    go_ret
    exact ⟨rfl, rfl⟩
end Go.Proofs.Ytokngfinnieccaa
