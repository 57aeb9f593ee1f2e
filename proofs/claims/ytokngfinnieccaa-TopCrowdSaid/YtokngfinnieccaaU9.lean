/- Two deltas of one text gone through: what is told, step by step; plain lists, no program. -/
import Derived.Test.YtokngfinnieccaaU7
namespace Go.Proofs.Ytokngfinnieccaa
set_option linter.unusedVariables false
set_option linter.unusedSimpArgs false
set_option maxRecDepth 100000
set_option maxHeartbeats 4000000
def meet1 (a b : List Pt) : List Pt := grp (cz (mt (units a) (units b)).1)
def meet2 (a b : List Pt) : List Pt := grp (cz (mt (units a) (units b)).2)
def meetE (a b : List Pt) : Int := if chk a ≠ 0 then chk a else if chk b ≠ 0 then chk b else if nI (units a) ≠ nI (units b) then 4 else if chk (meet1 a b) ≠ 0 then chk (meet1 a b) else chk (meet2 a b)
def meetC (a b : List Pt) : List Pt := if meetE a b = 0 then meet1 a b else []
def meetD (a b : List Pt) : List Pt := if meetE a b = 0 then meet2 a b else []
def MI (p q xs ys P Q : List U) : Prop := p ++ (mt xs ys).1 = P ∧ q ++ (mt xs ys).2 = Q ∧ nI xs = nI ys
section
variable {p q ys xs P Q : List U} {r rx ry : List Pt} {N M : Int} {t s : ByteArray} {u v n : Nat}
theorem mstep_x (h : MI p q (rem ((2, N, t) :: r) u) ys P Q) (hs : Shape (2, N, t)) (hu : u + n ≤ t.size) : MI (p ++ pu (t.extract u (u + n))) (q ++ ku ((t.extract u (u + n)).size : Int)) (rem (adv ((2, N, t) :: r) u n).1 (adv ((2, N, t) :: r) u n).2) ys P Q := by
 obtain ⟨h1, h2, h3⟩ := h
 rw [rem_put hs hu] at h1 h2 h3
 rw [nI_append, nI_pu] at h3
 unfold pu at h1 h2
 rw [mt_xputs] at h1 h2
 exact ⟨by rw [List.append_assoc]; exact h1, by rw [ku_nat, List.append_assoc]; exact h2, by omega⟩
theorem mstep_y (h : MI p q xs (rem ((2, M, t) :: r) u) P Q) (hx : ∀ c r, xs ≠ some (some c) :: r) (hs : Shape (2, M, t)) (hu : u + n ≤ t.size) : MI (p ++ ku ((t.extract u (u + n)).size : Int)) (q ++ pu (t.extract u (u + n))) xs (rem (adv ((2, M, t) :: r) u n).1 (adv ((2, M, t) :: r) u n).2) P Q := by
 obtain ⟨h1, h2, h3⟩ := h
 rw [rem_put hs hu] at h1 h2 h3
 rw [nI_append, nI_pu] at h3
 unfold pu at h1 h2
 rw [mt_yputs _ _ _ hx] at h1 h2
 exact ⟨by rw [ku_nat, List.append_assoc]; exact h1, by rw [List.append_assoc]; exact h2, by omega⟩
theorem mstep_kk (h : MI p q (rem ((1, N, t) :: rx) u) (rem ((1, M, s) :: ry) v) P Q) (hs : Shape (1, N, t)) (hs' : Shape (1, M, s)) (hu : u + n ≤ N.toNat) (hv : v + n ≤ M.toNat) :
 MI (p ++ ku n) (q ++ ku n) (rem (adv ((1, N, t) :: rx) u n).1 (adv ((1, N, t) :: rx) u n).2) (rem (adv ((1, M, s) :: ry) v n).1 (adv ((1, M, s) :: ry) v n).2) P Q := by
 obtain ⟨h1, h2, h3⟩ := h
 rw [rem_keep hs hu, rem_keep hs' hv] at h1 h2 h3
 rw [mt_kk] at h1 h2
 rw [nI_append, nI_append, nI_keeps] at h3
 exact ⟨by rw [ku_nat, List.append_assoc]; exact h1, by rw [ku_nat, List.append_assoc]; exact h2, by omega⟩
theorem mstep_kc (h : MI p q (rem ((1, N, t) :: rx) u) (rem ((3, M, s) :: ry) v) P Q) (hs : Shape (1, N, t)) (hs' : Shape (3, M, s)) (hu : u + n ≤ N.toNat) (hv : v + n ≤ M.toNat) :
 MI p (q ++ cu n) (rem (adv ((1, N, t) :: rx) u n).1 (adv ((1, N, t) :: rx) u n).2) (rem (adv ((3, M, s) :: ry) v n).1 (adv ((3, M, s) :: ry) v n).2) P Q := by
 obtain ⟨h1, h2, h3⟩ := h
 rw [rem_keep hs hu, rem_cut hs' hv] at h1 h2 h3
 rw [mt_kc] at h1 h2
 rw [nI_append, nI_append, nI_keeps, nI_cuts] at h3
 exact ⟨h1, by rw [cu_nat, List.append_assoc]; exact h2, by omega⟩
theorem mstep_ck (h : MI p q (rem ((3, N, t) :: rx) u) (rem ((1, M, s) :: ry) v) P Q) (hs : Shape (3, N, t)) (hs' : Shape (1, M, s)) (hu : u + n ≤ N.toNat) (hv : v + n ≤ M.toNat) :
 MI (p ++ cu n) q (rem (adv ((3, N, t) :: rx) u n).1 (adv ((3, N, t) :: rx) u n).2) (rem (adv ((1, M, s) :: ry) v n).1 (adv ((1, M, s) :: ry) v n).2) P Q := by
 obtain ⟨h1, h2, h3⟩ := h
 rw [rem_cut hs hu, rem_keep hs' hv] at h1 h2 h3
 rw [mt_ck] at h1 h2
 rw [nI_append, nI_append, nI_keeps, nI_cuts] at h3
 exact ⟨by rw [cu_nat, List.append_assoc]; exact h1, h2, by omega⟩
theorem mstep_cc (h : MI p q (rem ((3, N, t) :: rx) u) (rem ((3, M, s) :: ry) v) P Q) (hs : Shape (3, N, t)) (hs' : Shape (3, M, s)) (hu : u + n ≤ N.toNat) (hv : v + n ≤ M.toNat) :
 MI p q (rem (adv ((3, N, t) :: rx) u n).1 (adv ((3, N, t) :: rx) u n).2) (rem (adv ((3, M, s) :: ry) v n).1 (adv ((3, M, s) :: ry) v n).2) P Q := by
 obtain ⟨h1, h2, h3⟩ := h
 rw [rem_cut hs hu, rem_cut hs' hv] at h1 h2 h3
 rw [mt_cc] at h1 h2
 rw [nI_append, nI_append, nI_cuts] at h3
 exact ⟨h1, h2, by omega⟩
end
theorem MI.len {p q xs ys P Q : List U} (h : MI p q xs ys P Q) : p.length ≤ P.length ∧ q.length ≤ Q.length := by
 constructor
 · rw [← h.1, List.length_append]; omega
 · rw [← h.2.1, List.length_append]; omega
theorem MI.fin {p q P Q : List U} (h : MI p q [] [] P Q) : p = P ∧ q = Q := by
 have h1 := h.1
 have h2 := h.2.1
 simp [mt, lead] at h1 h2
 exact ⟨h1, h2⟩
theorem nO_mt (a b : List U) (h : nI a = nI b) : nO (mt a b).1 = nO (mt a b).2 ∧ nO (mt a b).1 ≤ nO a + nP b := by
 refine mt_ind (M := fun a b => nO (mt a b).1 = nO (mt a b).2 ∧ nO (mt a b).1 ≤ nO a + nP b) ⟨rfl, Nat.zero_le _⟩ ?_ ?_ ?_ ?_ ?_ ?_ _ a b (Nat.le_refl _) h
 · intro b xs ys h ih; simp only [mt, nO, nP] at ih ⊢; omega
 · intro xs b ys hx h ih; rw [mt_put _ _ _ hx]; simp only [nO, nP] at ih ⊢; omega
 all_goals intro xs ys h ih; simp only [mt, nO, nP, lead, rst, List.map_nil, List.nil_append] at ih ⊢; omega
theorem nP_le : ∀ us : List U, nP us ≤ nO us
 | [] => Nat.le_refl _
 | none :: us => by have := nP_le us; simp only [nP, nO]; omega
 | some none :: us => by have := nP_le us; simp only [nP, nO]; omega
 | some (some b) :: us => by have := nP_le us; simp only [nP, nO]; omega
theorem meet_chk {a b : List Pt} (h : meetE a b = 0) : chk a = 0 ∧ chk b = 0 ∧ nI (units a) = nI (units b) ∧ chk (meet1 a b) = 0 ∧ chk (meet2 a b) = 0 ∧ meetC a b = meet1 a b ∧ meetD a b = meet2 a b := by
 have e1 : meetC a b = meet1 a b := by unfold meetC; rw [if_pos h]
 have e2 : meetD a b = meet2 a b := by unfold meetD; rw [if_pos h]
 unfold meetE at h
 split at h
 · omega
 · split at h
   · omega
   · split at h
     · omega
     · split at h
       · omega
       · exact ⟨by omega, by omega, by omega, by omega, h, e1, e2⟩
theorem meet_err {a b : List Pt} (h : meetE a b ≠ 0) : meetC a b = [] ∧ meetD a b = [] := by unfold meetC meetD; rw [if_neg h, if_neg h]; exact ⟨rfl, rfl⟩
theorem meet_units {a b : List Pt} (h : meetE a b = 0) : units (meetC a b) = cz (mt (units a) (units b)).1 ∧ units (meetD a b) = cz (mt (units a) (units b)).2 := by
 have hc := meet_chk h
 rw [hc.2.2.2.2.2.1, hc.2.2.2.2.2.2]
 exact ⟨units_grp _, units_grp _⟩
theorem meet_good {a b : List Pt} (h : meetE a b = 0) : chk (meetC a b) = 0 ∧ chk (meetD a b) = 0 := by
 have hc := meet_chk h
 rw [hc.2.2.2.2.2.1, hc.2.2.2.2.2.2]
 exact ⟨hc.2.2.2.1, hc.2.2.2.2.1⟩
theorem meet_sizes {a b : List Pt} (h : meetE a b = 0) : nI (units (meetC a b)) = nO (units b) ∧ nI (units (meetD a b)) = nO (units a) ∧ nO (units (meetC a b)) = nO (units (meetD a b)) ∧ nP (units (meetC a b)) = nP (units a) ∧ nP (units (meetD a b)) = nP (units b) := by
 have hn := (meet_chk h).2.2.1
 obtain ⟨u1, u2⟩ := meet_units h
 have m1 := nI_mt (units a) (units b) hn
 have m2 := nO_mt (units a) (units b) hn
 have m3 := nP_mt (units a) (units b) hn
 rw [u1, u2, nI_cz, nI_cz, nO_cz, nO_cz, nP_cz, nP_cz]
 exact ⟨m1.1, m1.2, m2.1, m3.1, m3.2⟩
theorem meet_zero {a b : List Pt} (ha : chk a = 0) (hb : chk b = 0) (hn : nI (units a) = nI (units b)) (ho : nO (mt (units a) (units b)).1 ≤ 500) : meetE a b = 0 := by
 have m1 := nI_mt (units a) (units b) hn
 have m2 := nO_mt (units a) (units b) hn
 have k1 : chk (meet1 a b) = 0 := good_cz (by rw [m1.1]; exact (chk_parts hb).2.2.2.2.1) ho
 have k2 : chk (meet2 a b) = 0 := good_cz (by rw [m1.2]; exact (chk_parts ha).2.2.2.2.1) (by rw [← m2.1]; exact ho)
 unfold meetE
 rw [if_neg (by omega), if_neg (by omega), if_neg (by omega), if_neg (by omega), k2]
theorem meet_comp {a b : List Pt} (h : meetE a b = 0) : compE a (meetD a b) = 0 ∧ compE b (meetC a b) = 0 ∧ compL a (meetD a b) = compL b (meetC a b) := by
 have hc := meet_chk h
 have hg := meet_good h
 have hs := meet_sizes h
 have hu := meet_units h
 have e1 : compE a (meetD a b) = 0 := comp_zero hc.1 hg.2 hs.2.1.symm
 have e2 : compE b (meetC a b) = 0 := comp_zero hc.2.1 hg.1 hs.1.symm
 exact ⟨e1, e2, comp_eq e1 e2 (by rw [hu.1, hu.2]; exact meet_same hc.2.2.1)⟩
end Go.Proofs.Ytokngfinnieccaa
