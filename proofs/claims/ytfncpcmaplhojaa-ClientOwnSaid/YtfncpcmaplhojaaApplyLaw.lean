/- What apply.Do says; plain lists, no program. -/
import Derived.Test.YtfncpcmaplhojaaDeltaLaw
namespace Go.Proofs.Ytfncpcmaplhojaa
set_option linter.unusedVariables false
set_option linter.unusedSimpArgs false

def fitsE (d : List Pt) (n : Int) : Int := if chk d ≠ 0 then chk d else if n ≠ (nI (units d) : Int) then 4 else 0
def doE (d : List Pt) (s : ByteArray) : Int := fitsE d s.size
def doS (d : List Pt) (s : ByteArray) : ByteArray := if doE d s = 0 then ⟨(ap id (units d) s.data.toList).toArray⟩ else ⟨#[]⟩
theorem do_chk {d : List Pt} {s : ByteArray} (h : doE d s = 0) : chk d = 0 ∧ nI (units d) = s.size ∧ doS d s = ⟨(ap id (units d) s.data.toList).toArray⟩ ∧ s.size ≤ 500 := by
  have e : doS d s = ⟨(ap id (units d) s.data.toList).toArray⟩ := by unfold doS; rw [if_pos h]
  unfold doE fitsE at h
  split at h
  · omega
  · split at h
    · omega
    · rename_i h1 h2
      have hk : chk d = 0 := by omega
      have := (chk_parts hk).2.2.2.1
      exact ⟨hk, by omega, e, by omega⟩
theorem do_zero {d : List Pt} {s : ByteArray} (hk : chk d = 0) (hn : nI (units d) = s.size) : doE d s = 0 := by
  unfold doE fitsE; rw [if_neg (by omega), if_neg (by omega)]
theorem do_err {d : List Pt} {s : ByteArray} (h : doE d s ≠ 0) : doS d s = ⟨#[]⟩ := by unfold doS; rw [if_neg h]
theorem do_list {d : List Pt} {s : ByteArray} (h : doE d s = 0) : (doS d s).data.toList = ap id (units d) s.data.toList := by rw [(do_chk h).2.2.1]
theorem do_size {d : List Pt} {s : ByteArray} (h : doE d s = 0) : (doS d s).size = nO (units d) := by
  have h1 := do_chk h
  have h2 : (doS d s).size = (doS d s).data.toList.length := rfl
  rw [h2, do_list h, ap_length id _ _ (by rw [h1.2.1]; rfl)]
theorem do_le {d : List Pt} {s : ByteArray} (h : doE d s = 0) : (doS d s).size ≤ 500 := by
  rw [do_size h]; exact (chk_parts (do_chk h).1).2.2.2.2.1
theorem do_size_any (d : List Pt) (s : ByteArray) : (doS d s).size ≤ 500 := by
  by_cases h : doE d s = 0
  · exact do_le h
  · rw [do_err h]; decide
theorem ba_list {s t : ByteArray} (h : s.data.toList = t.data.toList) : s = t := by
  cases s; cases t; simp at h; simp [h]
theorem do_all {s : ByteArray} (h : s.size ≤ 500) : doE (allL s.size) s = 0 ∧ doS (allL s.size) s = s := by
  have e : doE (allL s.size) s = 0 := do_zero (all_chk _ h) (by rw [all_units, nI_keeps])
  refine ⟨e, ba_list ?_⟩
  rw [do_list e, all_units]
  exact ap_keeps id s.data.toList
/-- what is still to do -/
theorem do_step_keep {N : Nat} {t : ByteArray} {l : List Pt} {acc r : List UInt8} {R : List UInt8} (h : acc ++ ap id (units ((1, (N : Int), t) :: l)) r = R) (hn : nI (units ((1, (N : Int), t) :: l)) = r.length) :
    (acc ++ r.take N) ++ ap id (units l) (r.drop N) = R ∧ nI (units l) = (r.drop N).length ∧ N ≤ r.length := by
  have e : up ((1, (N : Int), t) : Pt) = List.replicate N none := by simp [up]
  rw [units_cons, e] at h hn
  rw [nI_append, nI_keeps] at hn
  have h2 : r = r.take N ++ r.drop N := (List.take_append_drop N r).symm
  have h3 : (r.take N).length = N := by rw [List.length_take]; omega
  have h4 := ap_append id (List.replicate N none) (units l) (r.take N) (r.drop N) (by rw [nI_keeps, h3])
  rw [List.take_append_drop] at h4
  rw [h4] at h
  have h5 := ap_keeps (α := UInt8) id (r.take N)
  rw [h3] at h5
  rw [h5] at h
  refine ⟨by rw [List.append_assoc]; exact h, by rw [List.length_drop]; omega, by omega⟩
theorem ap_cuts {α : Type} (f : UInt8 → α) : ∀ (s : List α), ap f (List.replicate s.length (some none)) s = []
  | [] => rfl
  | x :: s => by rw [List.length_cons, List.replicate_succ]; simp only [ap]; rw [ap_cuts f s]
theorem do_step_cut {N : Nat} {t : ByteArray} {l : List Pt} {acc r : List UInt8} {R : List UInt8} (h : acc ++ ap id (units ((3, (N : Int), t) :: l)) r = R) (hn : nI (units ((3, (N : Int), t) :: l)) = r.length) :
    acc ++ ap id (units l) (r.drop N) = R ∧ nI (units l) = (r.drop N).length ∧ N ≤ r.length := by
  have e : up ((3, (N : Int), t) : Pt) = List.replicate N (some none) := by simp [up]
  rw [units_cons, e] at h hn
  rw [nI_append, nI_cuts] at hn
  have h3 : (r.take N).length = N := by rw [List.length_take]; omega
  have h4 := ap_append id (List.replicate N (some none)) (units l) (r.take N) (r.drop N) (by rw [nI_cuts, h3])
  rw [List.take_append_drop] at h4
  rw [h4] at h
  have h5 := ap_cuts (α := UInt8) id (r.take N)
  rw [h3] at h5
  rw [h5] at h
  exact ⟨by simpa using h, by rw [List.length_drop]; omega, by omega⟩
theorem ap_puts {α : Type} (f : UInt8 → α) (t : List UInt8) (us : List U) (r : List α) : ap f (t.map (fun b => some (some b)) ++ us) r = t.map f ++ ap f us r := by
  induction t with
  | nil => rfl
  | cons x t ih => simp only [List.map_cons, List.cons_append, ap]; rw [ih]
theorem do_step_put {N : Int} {t : ByteArray} {l : List Pt} {acc r : List UInt8} {R : List UInt8} (h : acc ++ ap id (units ((2, N, t) :: l)) r = R) (hn : nI (units ((2, N, t) :: l)) = r.length) :
    (acc ++ t.data.toList) ++ ap id (units l) r = R ∧ nI (units l) = r.length := by
  have e : up ((2, N, t) : Pt) = t.data.toList.map (fun b => some (some b)) := by simp [up]
  have h0 : nI (t.data.toList.map (fun b => (some (some b) : U))) = 0 := nI_pu t
  rw [units_cons, e] at h hn
  rw [nI_append, h0] at hn
  rw [ap_puts] at h
  exact ⟨by rw [List.append_assoc]; simpa using h, by omega⟩
end Go.Proofs.Ytfncpcmaplhojaa
