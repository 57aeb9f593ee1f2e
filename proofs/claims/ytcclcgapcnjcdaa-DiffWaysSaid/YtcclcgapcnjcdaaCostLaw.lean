/- What a difference costs; plain lists, no program. -/
import Derived.Test.YtcclcgapcnjcdaaDiffLaw
namespace Go.Proofs.Ytcclcgapcnjcdaa
set_option linter.unusedVariables false
set_option linter.unusedSimpArgs false

def dst (S T : List UInt8) : Nat := S.length + T.length - 2 * lcs S T
theorem dst_is (S T : List UInt8) : dst S T + 2 * lcs S T = S.length + T.length := by
  have := lcs_bound S T
  unfold dst; omega
theorem nC_insC (us : List U) : nC (insC us) = nC us + 1 := by
  induction us with
  | nil => rfl
  | cons u us ih => rcases u with _ | _ | x <;> simp [insC, nC, ih]
theorem nC_cz (us : List U) : nC (cz us) = nC us := by
  induction us with
  | nil => rfl
  | cons u us ih => rcases u with _ | _ | x <;> simp [cz, nC, ih, nC_insC]
theorem dst_trc (S T : List UInt8) : nC (cz (trc S T)) + nP (cz (trc S T)) = dst S T := by
  have h := (trc_all _ S T (Nat.le_refl _)).2.2
  have := dst_is S T
  rw [nC_cz, nP_cz]; omega
theorem dst_least (us : List U) (S : List UInt8) (h : nI us = S.length) : dst S (ap id us S) ≤ nC us + nP us := by
  have := cost_least us S h
  have := dst_is S (ap id us S)
  omega
theorem cmp_cost (xs ys : List U) (h : nO xs = nI ys) : nC (cmp xs ys) + nP (cmp xs ys) ≤ nC xs + nP xs + (nC ys + nP ys) := by
  refine cmp_ind (M := fun xs ys => nC (cmp xs ys) + nP (cmp xs ys) ≤ nC xs + nP xs + (nC ys + nP ys)) (Nat.le_refl _) ?_ ?_ ?_ ?_ ?_ ?_ _ xs ys (Nat.le_refl _) h
  · intro xs ys _ ih; simp only [cmp, nC, nP]; omega
  · intro xs b ys hx _ ih; rw [cmp_put _ _ _ hx]; simp only [nC, nP]; omega
  all_goals intros; simp_all [cmp, rst, lead, nC, nP]; try omega
theorem dst_comm (S T : List UInt8) : dst S T = dst T S := by unfold dst; rw [lcs_comm]; omega
theorem dst_self (S : List UInt8) : dst S S = 0 := by unfold dst; rw [lcs_self]; omega
theorem dst_tri (S T U : List UInt8) : dst S U ≤ dst S T + dst T U := by
  obtain ⟨a1, a2, a3⟩ := trc_all _ S T (Nat.le_refl _)
  obtain ⟨b1, b2, b3⟩ := trc_all _ T U (Nat.le_refl _)
  have hO := ap_length id (trc S T) S a1
  rw [a2] at hO
  have hn : nO (trc S T) = nI (trc T U) := by omega
  have hc := cmp_cost (trc S T) (trc T U) hn
  have hi := nI_cmp (trc S T) (trc T U) hn
  have hap := ap_cmp id (trc S T) (trc T U) hn S a1
  rw [a2, b2] at hap
  have hl := dst_least (cmp (trc S T) (trc T U)) S (by rw [hi, a1])
  rw [hap] at hl
  have d1 := dst_is S T
  have d2 := dst_is T U
  omega
theorem dst_in (a b S T : List UInt8) : dst (a ++ S ++ b) (a ++ T ++ b) = dst S T := by
  have h := lcs_bound S T
  unfold dst
  rw [lcs_suf, lcs_pre]
  simp only [List.length_append]
  omega
theorem dst_zero {S T : List UInt8} (h : dst S T = 0) : S = T := by
  have hb := lcs_bound S T
  have hd := dst_is S T
  obtain ⟨l, h1, h2, h3⟩ := lcs_get S T
  have e1 := h1.eq_of_length (by omega)
  have e2 := h2.eq_of_length (by omega)
  rw [← e1, e2]
def szK : List Pt → Int
  | [] => 0
  | p :: l => (if p.1 = 1 then 0 else p.2.1 + (p.2.2.size : Int)) + szK l
theorem szK_snoc (l : List Pt) (p : Pt) : szK (l ++ [p]) = szK l + (if p.1 = 1 then 0 else p.2.1 + (p.2.2.size : Int)) := by
  induction l with
  | nil => simp [szK]
  | cons q l ih => simp only [List.cons_append, szK, ih]; omega
theorem szK_eq : ∀ (l : List Pt), Fine l → szK l = szC l + szP l
  | [], _ => rfl
  | p :: l, h => by
    have ih := szK_eq l fun q hq => h q (by simp [hq])
    simp only [szK, szC, szP]
    rcases h p (by simp) with ⟨h1 | h1, h4, h3⟩ | ⟨h1, h4, h3⟩
    · rw [if_pos h1, if_neg (by omega), h3]
      have : ((emp : ByteArray).size : Int) = 0 := rfl
      omega
    · rw [if_neg (by omega), if_pos h1, h3]
      have : ((emp : ByteArray).size : Int) = 0 := rfl
      omega
    · rw [if_neg (by omega), if_neg (by omega), h4]; omega
theorem szK_chk {l : List Pt} (h : chk l = 0) : szK l = ((nC (units l) + nP (units l) : Nat) : Int) := by
  have hf := (chk_parts h).2.2.1
  rw [szK_eq l hf, ← nC_units l hf, ← nP_units l hf]; omega
end Go.Proofs.Ytcclcgapcnjcdaa
