/- How many bytes are whose; plain lists, no program. -/
import Derived.Test.YtcclcgapcnjcdaaBlameLaw
namespace Go.Proofs.Ytcclcgapcnjcdaa
set_option linter.unusedVariables false
set_option linter.unusedSimpArgs false

def cN (l : List Int) (v : Nat) : Nat := l.countP (fun x => x == (v : Int))
theorem cN_nil (v : Nat) : cN [] v = 0 := rfl
theorem cN_cons (x : Int) (l : List Int) (v : Nat) : cN (x :: l) v = cN l v + if x = (v : Int) then 1 else 0 := by
  unfold cN
  rw [List.countP_cons]
  by_cases h : x = (v : Int) <;> simp [h]
theorem cN_snoc (x : Int) (l : List Int) (v : Nat) : cN (l ++ [x]) v = cN l v + if x = (v : Int) then 1 else 0 := by
  unfold cN
  rw [List.countP_append]
  by_cases h : x = (v : Int) <;> simp [h]
theorem cN_ap_le (c : Int) (v : Nat) (h : (v : Int) ≠ c) : ∀ (us : List U) (s : List Int), cN (ap (fun _ => c) us s) v ≤ cN s v
  | [], s => by simp [ap, cN]
  | none :: us, [] => by simp [ap, cN]
  | none :: us, x :: s => by have := cN_ap_le c v h us s; simp only [ap]; rw [cN_cons, cN_cons]; omega
  | some none :: us, [] => by simp [ap, cN]
  | some none :: us, x :: s => by have := cN_ap_le c v h us s; simp only [ap]; rw [cN_cons]; omega
  | some (some b) :: us, s => by have := cN_ap_le c v h us s; simp only [ap]; rw [cN_cons, if_neg (fun e => h e.symm)]; omega
theorem cN_ap_eq (v : Nat) : ∀ (us : List U) (s : List Int), nI us = s.length → (∀ x ∈ s, x ≠ (v : Int)) → cN (ap (fun _ => (v : Int)) us s) v = nP us
  | [], s, h, _ => by simp [ap, cN, nP]
  | none :: us, [], h, _ => by simp [nI] at h
  | none :: us, x :: s, h, hx => by
    have := cN_ap_eq v us s (by simpa [nI] using h) fun y hy => hx y (by simp [hy])
    simp only [ap, nP]; rw [cN_cons, if_neg (hx x (by simp)), this, Nat.add_zero]
  | some none :: us, [], h, _ => by simp [nI] at h
  | some none :: us, x :: s, h, hx => by
    have := cN_ap_eq v us s (by simpa [nI] using h) fun y hy => hx y (by simp [hy])
    simp only [ap, nP]; exact this
  | some (some b) :: us, s, h, hx => by
    have := cN_ap_eq v us s (by simpa [nI] using h) hx
    simp only [ap, nP]; rw [cN_cons, if_pos rfl, this]
theorem bl_old : ∀ (l : List Rv) (k v : Nat) (W : List Int), v ≤ k → cN (blL k W l) v ≤ cN W v
  | [], k, v, W, _ => Nat.le_refl _
  | r :: l, k, v, W, h => by
    have h1 := bl_old l (k + 1) v (ap (fun _ => (k : Int) + 1) (units r.2.2) W) (by omega)
    have h2 := cN_ap_le ((k : Int) + 1) v (by omega) (units r.2.2) W
    simp only [blL]
    omega
theorem bl_new : ∀ (l : List Rv) (k : Nat) (W : List Int) (s : ByteArray), txr s l = 0 → W.length = s.size → (∀ x ∈ W, x ≤ (k : Int)) → ∀ (j : Nat) (hj : j < l.length),
    cN (blL k W l) (k + 1 + j) ≤ nP (units l[j].2.2) ∧ (j + 1 = l.length → cN (blL k W l) (k + 1 + j) = nP (units l[j].2.2))
  | [], k, W, s, _, _, _, j, hj => absurd hj (by simp)
  | r :: l, k, W, s, h, h2, h3, j, hj => by
    simp only [txr] at h
    split at h
    · omega
    · split at h
      · omega
      · rename_i q1 q2
        have q2' : doE r.2.2 s = 0 := by omega
        have hk := do_chk q2'
        have hn : nI (units r.2.2) = W.length := by rw [hk.2.1, h2]
        have ha := ap_length (fun _ => (k : Int) + 1) (units r.2.2) W hn
        have hz := do_size q2'
        have he := cN_ap_eq (k + 1) (units r.2.2) W hn fun x hx => by have := h3 x hx; omega
        rw [show ((k + 1 : Nat) : Int) = (k : Int) + 1 by omega] at he
        cases j with
        | zero =>
          have ho := bl_old l (k + 1) (k + 1) (ap (fun _ => (k : Int) + 1) (units r.2.2) W) (Nat.le_refl _)
          simp only [blL, List.getElem_cons_zero, Nat.add_zero]
          refine ⟨by omega, fun h4 => ?_⟩
          have : l = [] := List.eq_nil_of_length_eq_zero (by simpa using h4)
          subst this
          exact he
        | succ j =>
          have ih := bl_new l (k + 1) (ap (fun _ => (k : Int) + 1) (units r.2.2) W) (doS r.2.2 s) h (by omega) (ap_mem (fun x => x ≤ ((k + 1 : Nat) : Int)) _ (fun _ => by omega) _ _ fun y hy => by have := h3 y hy; omega) j (by simpa using hj)
          simp only [blL, List.getElem_cons_succ, List.length_cons]
          rw [show k + 1 + (j + 1) = k + 1 + 1 + j by omega]
          exact ⟨ih.1, fun h4 => ih.2 (by omega)⟩
theorem blame_zero (base : ByteArray) (l : List Rv) : cN (blame base l) 0 ≤ base.size := by
  have := bl_old l 0 0 (List.replicate base.size 0) (Nat.le_refl _)
  have h2 : cN (List.replicate base.size 0) 0 ≤ base.size := by
    unfold cN
    have := List.countP_le_length (p := fun x => x == ((0 : Nat) : Int)) (l := List.replicate base.size (0 : Int))
    simpa using this
  unfold blame
  omega
theorem blame_new {base : ByteArray} {l : List Rv} (h : txE base l = 0) (j : Nat) (hj : j < l.length) :
    (cN (blame base l) (j + 1) : Int) ≤ szP l[j].2.2 ∧ (j + 1 = l.length → (cN (blame base l) (j + 1) : Int) = szP l[j].2.2) ∧ chk l[j].2.2 = 0 := by
  have hp := txE_parts h
  have hb := bl_new l 0 (List.replicate base.size 0) base hp.2.2 (by simp) (fun x hx => by rw [List.mem_replicate] at hx; omega) j hj
  have ha := txr_at l base j hj hp.2.2
  have hk := (do_chk ha.2.1).1
  have hz := nP_units _ (chk_parts hk).2.2.1
  rw [show 0 + 1 + j = j + 1 by omega] at hb
  unfold blame
  refine ⟨by omega, fun h2 => by have := hb.2 h2; omega, hk⟩
/-- the counts, one for each number below m -/
def cnt (m : Nat) (l : List Int) : List Int := (List.range m).map fun v => (cN l v : Int)
theorem cnt_len (m : Nat) (l : List Int) : (cnt m l).length = m := by simp [cnt]
theorem cnt_at (m : Nat) (l : List Int) (v : Nat) (h : v < (cnt m l).length) : (cnt m l)[v] = (cN l v : Int) := by simp [cnt]
theorem cnt_nil (m : Nat) : cnt m [] = List.replicate m 0 := by
  apply List.ext_getElem
  · simp [cnt]
  · intro i h1 h2
    simp [cnt, cN]
theorem cnt_snoc (m : Nat) (l : List Int) (u : Nat) (hu : u < m) : (cnt m l).set u ((cN l u : Int) + 1) = cnt m (l ++ [(u : Int)]) := by
  apply List.ext_getElem
  · simp [cnt]
  · intro i h1 h2
    rw [cnt_at _ _ _ h2, cN_snoc, List.getElem_set]
    split
    · rename_i h3
      subst h3
      rw [if_pos rfl]; omega
    · rename_i h3
      rw [cnt_at, if_neg (by omega)]; omega
end Go.Proofs.Ytcclcgapcnjcdaa
