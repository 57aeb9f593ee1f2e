/- What part.Norm says; plain lists, no program. -/
import Derived.Test.YtfncpcmaplhojaaDeltaLaw
namespace Go.Proofs.Ytfncpcmaplhojaa
set_option linter.unusedVariables false
set_option linter.unusedSimpArgs false

def nerr1 (p : Pt) : Int := if p.1 < 1 ∨ 3 < p.1 ∨ p.2.1 < 0 ∨ (p.1 = 2 ∧ 0 < p.2.1) ∨ (p.1 ≠ 2 ∧ p.2.2.size ≠ 0) then 3 else if 500 < p.2.1 ∨ 500 < p.2.2.size then 2 else 0
def nerr : List Pt → Int
  | [] => 0
  | p :: l => if nerr1 p ≠ 0 then nerr1 p else nerr l
def normE (l : List Pt) : Int := if 1600 < l.length then 2 else if nerr l ≠ 0 then nerr l else chk (grp (cz (units l)))
def normL (l : List Pt) : List Pt := if normE l = 0 then grp (cz (units l)) else []
def NOk (p : Pt) : Prop := ((p.1 = 1 ∨ p.1 = 3) ∧ 0 ≤ p.2.1 ∧ p.2.1 ≤ 500 ∧ p.2.2 = emp) ∨ (p.1 = 2 ∧ p.2.1 = 0 ∧ p.2.2.size ≤ 500)
theorem nerr1_big {kd m : Int} (hk : kd = 1 ∨ kd = 3) (h : 500 < m) : nerr1 (kd, m, emp) = 2 := by
  have hz : emp.size = 0 := rfl
  unfold nerr1
  simp only
  rw [if_neg (by omega), if_pos (.inl h)]
theorem nerr1_zero (p : Pt) : nerr1 p = 0 ↔ NOk p := by
  unfold nerr1 NOk
  constructor
  · intro h
    split at h
    · omega
    · split at h
      · omega
      · rename_i h1 h2
        by_cases hk : p.1 = 2
        · exact .inr ⟨hk, by omega, by omega⟩
        · exact .inl ⟨by omega, by omega, by omega, emp_of_size (by omega)⟩
  · intro h
    rcases h with ⟨h1, h2, h3, h4⟩ | ⟨h1, h2, h3⟩
    · have : p.2.2.size = 0 := by rw [h4]; rfl
      rw [if_neg (by omega), if_neg (by omega)]
    · rw [if_neg (by omega), if_neg (by omega)]
theorem nerr_zero : ∀ l : List Pt, nerr l = 0 ↔ ∀ p ∈ l, NOk p
  | [] => by simp [nerr]
  | p :: l => by
    have h1 := nerr1_zero p
    have h2 := nerr_zero l
    simp only [nerr, List.mem_cons, forall_eq_or_imp]
    rw [← h1, ← h2]
    by_cases h : nerr1 p = 0
    · simp [h]
    · simp [h]
theorem nok_of_fit {p : Pt} (h : fitE p = 0) : NOk p := by
  obtain ⟨h1, h2, h3⟩ := (fitE_zero p).1 h
  rcases h1 with ⟨h1, h4, h5⟩ | ⟨h1, h4, h5⟩
  · exact .inl ⟨h1, by omega, h2, h5⟩
  · exact .inr ⟨h1, h4, h3⟩
theorem norm_good {l : List Pt} (h : chk l = 0) : normE l = 0 ∧ normL l = l := by
  have hp := chk_parts h
  have h1 : nerr l = 0 := (nerr_zero l).2 fun p hp' => nok_of_fit (hp.2.2.2.2.2 p hp')
  have h2 := grp_cz_good h
  have h3 : normE l = 0 := by
    unfold normE
    rw [if_neg (by omega), if_neg (by omega), h2, h]
  refine ⟨h3, ?_⟩
  unfold normL
  rw [if_pos h3, h2]
theorem norm_chk {l : List Pt} (h : normE l = 0) : chk (normL l) = 0 ∧ normL l = grp (cz (units l)) ∧ (∀ p ∈ l, NOk p) ∧ l.length ≤ 1600 := by
  have e : normL l = grp (cz (units l)) := by unfold normL; rw [if_pos h]
  unfold normE at h
  split at h
  · omega
  · split at h
    · omega
    · rename_i h1 h2
      rw [e]
      exact ⟨h, rfl, (nerr_zero l).1 (by omega), by omega⟩
theorem norm_again {l : List Pt} (h : normE l = 0) : normE (normL l) = 0 ∧ normL (normL l) = normL l := norm_good (norm_chk h).1
theorem norm_err {l : List Pt} (h : normE l ≠ 0) : normL l = [] := by unfold normL; rw [if_neg h]
/-- all that is in a list of parts -/
def szN : List Pt → Int
  | [] => 0
  | p :: l => p.2.1 + szN l
theorem nI_nok (p : Pt) (h : NOk p) : (nI (up p) : Int) = p.2.1 := by
  obtain ⟨k, n, t⟩ := p
  rcases h with ⟨h1 | h1, h2, h3, h4⟩ | ⟨h1, h2, h3⟩
  · simp only at h1 h2; subst h1
    simp only [up, if_true]
    rw [nI_keeps]; omega
  · simp only at h1 h2; subst h1
    rw [show up ((3, n, t) : Pt) = List.replicate n.toNat (some none) from rfl, nI_cuts]; simp only; omega
  · simp only at h1 h2; subst h1; subst h2
    have := nI_pu t
    rw [show up ((2, 0, t) : Pt) = pu t from rfl, this]; rfl
theorem nI_noks : ∀ l : List Pt, (∀ p ∈ l, NOk p) → (nI (units l) : Int) = szN l
  | [], _ => rfl
  | p :: l, h => by
    have h1 := nI_nok p (h p (by simp))
    have h2 := nI_noks l fun q hq => h q (by simp [hq])
    rw [units_cons, nI_append]
    simp only [szN]
    omega
theorem nO_nok (p : Pt) (h : NOk p) : (nO (up p) : Int) ≤ 500 := by
  obtain ⟨k, n, t⟩ := p
  rcases h with ⟨h1 | h1, h2, h3, h4⟩ | ⟨h1, h2, h3⟩
  · simp only at h1 h2 h3; subst h1
    simp only [up, if_true]
    rw [nO_keeps]; omega
  · simp only at h1 h2; subst h1
    rw [show up ((3, n, t) : Pt) = List.replicate n.toNat (some none) from rfl, nO_cuts]; simp
  · simp only at h1 h2 h3; subst h1; subst h2
    have := nO_pu t
    rw [show up ((2, 0, t) : Pt) = pu t from rfl, this]; omega
theorem len_nok (p : Pt) (h : NOk p) : (up p).length ≤ 500 := by
  obtain ⟨k, n, t⟩ := p
  rcases h with ⟨h1 | h1, h2, h3, h4⟩ | ⟨h1, h2, h3⟩
  · simp only at h1 h2 h3; subst h1
    simp only [up, if_true, List.length_replicate]; omega
  · simp only at h1 h2 h3; subst h1
    rw [show up ((3, n, t) : Pt) = List.replicate n.toNat (some none) from rfl, List.length_replicate]; omega
  · simp only at h1 h2 h3; subst h1; subst h2
    rw [show up ((2, 0, t) : Pt) = pu t from rfl]
    unfold pu
    rw [List.length_map]; exact h3
theorem len_noks : ∀ l : List Pt, (∀ p ∈ l, NOk p) → (units l).length ≤ 500 * l.length
  | [], _ => Nat.le_refl _
  | p :: l, h => by
    have h1 := len_nok p (h p (by simp))
    have h2 := len_noks l fun q hq => h q (by simp [hq])
    rw [units_cons, List.length_append, List.length_cons]; omega
theorem nI_le_len : ∀ us : List U, nI us ≤ us.length ∧ nO us ≤ us.length
  | [] => ⟨Nat.le_refl _, Nat.le_refl _⟩
  | none :: us => by have := nI_le_len us; simp only [List.length_cons, nI, nO]; omega
  | some none :: us => by have := nI_le_len us; simp only [List.length_cons, nI, nO]; omega
  | some (some b) :: us => by have := nI_le_len us; simp only [List.length_cons, nI, nO]; omega
theorem text_le {l : List Pt} (h : Fine l) : ∀ p ∈ l, p.2.2.size ≤ (units l).length := by
  intro p hp
  have h1 := lenP_sizes l h p hp
  have h2 := (nI_le_len (units l)).2
  rcases h p hp with ⟨_, _, h3⟩ | ⟨h3, _, _⟩
  · rw [h3]; exact Nat.zero_le _
  · have := h1.2 h3; omega
theorem text_good {l : List Pt} (h : chk l = 0) : ∀ p ∈ l, p.2.2.size ≤ 140737488351232 := fun p hp => by
  have := ((fitE_zero p).1 ((chk_parts h).2.2.2.2.2 p hp)).2.2
  omega
theorem chkL_fine : ∀ (d : List Pt) (last : Int), (hk d ≠ last ∨ d = []) → ¬ (last = 3 ∧ hk d = 2) → Adj d → Fine d → chkL last d = 0 ∨ chkL last d = 2
  | [], _, _, _, _, _ => .inl rfl
  | p :: l, last, h1, h2, ha, hf => by
    have h1' : p.1 ≠ last := by rcases h1 with h | h; exact h; simp at h
    have h2' : ¬ (last = 3 ∧ p.1 = 2) := h2
    have hp := fitE_large p (hf p (by simp))
    simp only [chkL]
    rw [if_neg (by rintro (h | h); exact h1' h; exact h2' h)]
    rcases hp with hp | hp
    · rw [if_neg (by simp [hp])]
      refine chkL_fine l p.1 ?_ ?_ ?_ fun q hq => hf q (by simp [hq])
      · rcases l with _ | ⟨q, l⟩
        · exact .inr rfl
        · exact .inl fun e => ha.1 e.symm
      · rcases l with _ | ⟨q, l⟩
        · simp [hk]
        · exact ha.2.1
      · rcases l with _ | ⟨q, l⟩
        · trivial
        · exact ha.2.2
    · rw [if_pos (by simp [hp])]; exact .inr hp
theorem chk_unfit {us : List U} (hc : Cn us) {p : Pt} (hp : p ∈ grp us) (hf : fitE p ≠ 0) : chk (grp us) = 2 := by
  have h1 := chkL_fine (grp us) 0 (by
    rcases us with _ | ⟨u, us⟩
    · exact .inr rfl
    · left
      rw [hk_grp]
      rcases u with _ | _ | b <;> simp [kU, one]) (by omega) (adj_grp us hc) (fine_grp us)
  have h2 : chkL 0 (grp us) ≠ 0 := fun h => hf (((chkL_zero _ 0).1 h).2.2.2 p hp)
  unfold chk
  split
  · rfl
  · omega
theorem nerr_append (a b : List Pt) (h : nerr a = 0) : nerr (a ++ b) = nerr b := by
  induction a with
  | nil => rfl
  | cons p a ih =>
    simp only [nerr] at h
    have h0 : nerr1 p = 0 := by
      by_cases h0 : nerr1 p = 0
      · exact h0
      · rw [if_pos h0] at h; exact absurd h h0
    rw [if_neg (by simp [h0])] at h
    simp only [List.cons_append, nerr]
    rw [if_neg (by simp [h0]), ih h]
end Go.Proofs.Ytfncpcmaplhojaa
