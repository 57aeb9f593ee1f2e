/- Histories; plain lists, no program. -/
import Derived.Test.YtfncpcmaplhojaaApplyLaw
namespace Go.Proofs.Ytfncpcmaplhojaa
set_option linter.unusedVariables false
set_option linter.unusedSimpArgs false

/-- a revision: whose, its number, what it does -/
abbrev Rv := Int × Int × List Pt
def oneE (r : Rv) : Int := if r.1 < 0 ∨ 7 < r.1 ∨ r.2.1 < 0 ∨ 2147483647 < r.2.1 then 1 else chk r.2.2
def txr : ByteArray → List Rv → Int
  | _, [] => 0
  | s, r :: l => if oneE r ≠ 0 then oneE r else if doE r.2.2 s ≠ 0 then doE r.2.2 s else txr (doS r.2.2 s) l
def txE (base : ByteArray) (l : List Rv) : Int := if 500 < base.size ∨ 64 < l.length then 2 else txr base l
def txs : ByteArray → List Rv → List ByteArray
  | s, [] => [s]
  | s, r :: l => s :: txs (doS r.2.2 s) l
/-- the text behind k revisions -/
def txt : ByteArray → List Rv → Nat → ByteArray
  | s, _, 0 => s
  | s, [], _ + 1 => s
  | s, r :: l, k + 1 => txt (doS r.2.2 s) l k
theorem txs_len : ∀ (l : List Rv) (s : ByteArray), (txs s l).length = l.length + 1
  | [], s => rfl
  | r :: l, s => by simp only [txs, List.length_cons]; rw [txs_len l]
theorem txs_at : ∀ (l : List Rv) (s : ByteArray) (k : Nat), k ≤ l.length → (txs s l)[k]? = some (txt s l k)
  | [], s, 0, _ => rfl
  | r :: l, s, 0, _ => rfl
  | r :: l, s, k + 1, h => by
    simp only [txs, txt, List.getElem?_cons_succ]
    exact txs_at l _ k (by simpa using h)
theorem txr_take : ∀ (l : List Rv) (s : ByteArray) (k : Nat), txr s l = 0 → txr s (l.take k) = 0
  | [], s, k, h => by simp [txr]
  | r :: l, s, 0, h => by simp [txr]
  | r :: l, s, k + 1, h => by
    simp only [txr] at h
    split at h
    · omega
    · split at h
      · omega
      · rename_i h1 h2
        simp only [List.take_succ_cons, txr]
        rw [if_neg h1, if_neg h2]
        exact txr_take l _ k h
theorem txr_drop : ∀ (l : List Rv) (s : ByteArray) (k : Nat), txr s l = 0 → txr (txt s l k) (l.drop k) = 0
  | [], s, k, h => by simp [txr]
  | r :: l, s, 0, h => h
  | r :: l, s, k + 1, h => by
    simp only [txr] at h
    split at h
    · omega
    · split at h
      · omega
      · simp only [List.drop_succ_cons, txt]
        exact txr_drop l _ k h
theorem txt_size : ∀ (l : List Rv) (s : ByteArray) (k : Nat), s.size ≤ 500 → (txt s l k).size ≤ 500
  | [], s, 0, h => h
  | [], s, k + 1, h => h
  | r :: l, s, 0, h => h
  | r :: l, s, k + 1, h => txt_size l _ k (do_size_any _ _)
theorem txt_take : ∀ (l : List Rv) (s : ByteArray) (k i : Nat), i ≤ k → txt s (l.take k) i = txt s l i
  | [], s, k, i, _ => by simp
  | r :: l, s, k, 0, _ => by cases k <;> simp [txt]
  | r :: l, s, 0, i + 1, h => by omega
  | r :: l, s, k + 1, i + 1, h => by
    simp only [List.take_succ_cons, txt]
    exact txt_take l _ k i (by omega)
theorem txt_drop : ∀ (l : List Rv) (s : ByteArray) (k i : Nat), txt (txt s l k) (l.drop k) i = txt s l (k + i)
  | [], s, 0, i => by simp [txt]
  | [], s, k + 1, i => by
    simp only [txt, List.drop_nil]
    cases i <;> simp [txt]
  | r :: l, s, 0, i => by simp [txt]
  | r :: l, s, k + 1, i => by
    have := txt_drop l (doS r.2.2 s) k i
    simp only [List.drop_succ_cons, txt]
    rw [this, show k + 1 + i = (k + i) + 1 by omega]
    rfl
theorem txE_parts {base : ByteArray} {l : List Rv} (h : txE base l = 0) : base.size ≤ 500 ∧ l.length ≤ 64 ∧ txr base l = 0 := by
  unfold txE at h
  split at h
  · omega
  · rename_i h1
    exact ⟨by omega, by omega, h⟩
theorem txE_zero {base : ByteArray} {l : List Rv} (h1 : base.size ≤ 500) (h2 : l.length ≤ 64) (h : txr base l = 0) : txE base l = 0 := by
  unfold txE; rw [if_neg (by omega)]; exact h
theorem txE_take {base : ByteArray} {l : List Rv} (h : txE base l = 0) (k : Nat) : txE base (l.take k) = 0 := by
  obtain ⟨h1, h2, h3⟩ := txE_parts h
  exact txE_zero h1 (by rw [List.length_take]; omega) (txr_take l base k h3)
theorem txE_drop {base : ByteArray} {l : List Rv} (h : txE base l = 0) (k : Nat) : txE (txt base l k) (l.drop k) = 0 := by
  obtain ⟨h1, h2, h3⟩ := txE_parts h
  exact txE_zero (txt_size l base k h1) (by rw [List.length_drop]; omega) (txr_drop l base k h3)
/-- what has been told of a history, and what is still to do -/
theorem txr_step {s : ByteArray} {r : Rv} {l : List Rv} {E : Int} (h : txr s (r :: l) = E) :
    (oneE r ≠ 0 → E = oneE r) ∧ (oneE r = 0 → doE r.2.2 s ≠ 0 → E = doE r.2.2 s) ∧ (oneE r = 0 → doE r.2.2 s = 0 → txr (doS r.2.2 s) l = E) := by
  simp only [txr] at h
  refine ⟨fun h1 => ?_, fun h1 h2 => ?_, fun h1 h2 => ?_⟩
  · rw [if_pos h1] at h; exact h.symm
  · rw [if_neg (by omega), if_pos h2] at h; exact h.symm
  · rw [if_neg (by omega), if_neg (by omega)] at h; exact h
theorem one_good {r : Rv} (h : oneE r = 0) : chk r.2.2 = 0 := by
  unfold oneE at h
  split at h
  · omega
  · exact h
end Go.Proofs.Ytfncpcmaplhojaa
