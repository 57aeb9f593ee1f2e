/- Two deltas of one text gone through: what is told, step by step; plain lists, no program. What undo.Of says, and what comes between two revisions; plain lists, no program. Contracts of part.Idle and revs.Between. -/
import Derived.Test.YtfncpcmaplhojaaMClientOwns7
import Derived.Test.YtfncpcmaplhojaaMClientOwns5
import Derived.Test.YtfncpcmaplhojaaMClientOwns8
namespace Go.Proofs.Ytfncpcmaplhojaa
set_option linter.unusedVariables false
set_option linter.unusedSimpArgs false

def meet1 (a b : List Pt) : List Pt := grp (cz (mt (units a) (units b)).1)
def meet2 (a b : List Pt) : List Pt := grp (cz (mt (units a) (units b)).2)
def meetE (a b : List Pt) : Int := if chk a ≠ 0 then chk a else if chk b ≠ 0 then chk b else if nI (units a) ≠ nI (units b) then 4 else if chk (meet1 a b) ≠ 0 then chk (meet1 a b) else chk (meet2 a b)
def meetC (a b : List Pt) : List Pt := if meetE a b = 0 then meet1 a b else []
def meetD (a b : List Pt) : List Pt := if meetE a b = 0 then meet2 a b else []
/-- told to both, and still to tell -/
def MI (p q xs ys P Q : List U) : Prop := p ++ (mt xs ys).1 = P ∧ q ++ (mt xs ys).2 = Q ∧ nI xs = nI ys
section
variable {p q ys xs P Q : List U} {r rx ry : List Pt} {N M : Int} {t s : ByteArray} {u v n : Nat}
theorem mstep_x (h : MI p q (rem ((2, N, t) :: r) u) ys P Q) (hs : Shape (2, N, t)) (hu : u + n ≤ t.size) : MI (p ++ pu (t.extract u (u + n))) (q ++ ku ((t.extract u (u + n)).size : Int)) (rem (adv ((2, N, t) :: r) u n).1 (adv ((2, N, t) :: r) u n).2) ys P Q := by
  obtain ⟨h1, h2, h3⟩ := h
  rw [rem_put hs hu] at h1 h2 h3
  rw [nI_append, nI_pu] at h3
  unfold pu at h1 h2
  rw [mt_xputs] at h1 h2
  exact ⟨by rw [List.append_assoc]; exact h1, by rw [ku_nat, List.append_assoc]; exact h2, by omega⟩
theorem mstep_y (h : MI p q xs (rem ((2, M, t) :: r) u) P Q) (hx : ∀ c r, xs ≠ some (some c) :: r) (hs : Shape (2, M, t)) (hu : u + n ≤ t.size) : MI (p ++ ku ((t.extract u (u + n)).size : Int)) (q ++ pu (t.extract u (u + n))) xs (rem (adv ((2, M, t) :: r) u n).1 (adv ((2, M, t) :: r) u n).2) P Q := by
  obtain ⟨h1, h2, h3⟩ := h
  rw [rem_put hs hu] at h1 h2 h3
  rw [nI_append, nI_pu] at h3
  unfold pu at h1 h2
  rw [mt_yputs _ _ _ hx] at h1 h2
  exact ⟨by rw [ku_nat, List.append_assoc]; exact h1, by rw [List.append_assoc]; exact h2, by omega⟩
theorem mstep_kk (h : MI p q (rem ((1, N, t) :: rx) u) (rem ((1, M, s) :: ry) v) P Q) (hs : Shape (1, N, t)) (hs' : Shape (1, M, s)) (hu : u + n ≤ N.toNat) (hv : v + n ≤ M.toNat) :
    MI (p ++ ku n) (q ++ ku n) (rem (adv ((1, N, t) :: rx) u n).1 (adv ((1, N, t) :: rx) u n).2) (rem (adv ((1, M, s) :: ry) v n).1 (adv ((1, M, s) :: ry) v n).2) P Q := by
  obtain ⟨h1, h2, h3⟩ := h
  rw [rem_keep hs hu, rem_keep hs' hv] at h1 h2 h3
  rw [mt_kk] at h1 h2
  rw [nI_append, nI_append, nI_keeps] at h3
  exact ⟨by rw [ku_nat, List.append_assoc]; exact h1, by rw [ku_nat, List.append_assoc]; exact h2, by omega⟩
theorem mstep_kc (h : MI p q (rem ((1, N, t) :: rx) u) (rem ((3, M, s) :: ry) v) P Q) (hs : Shape (1, N, t)) (hs' : Shape (3, M, s)) (hu : u + n ≤ N.toNat) (hv : v + n ≤ M.toNat) :
    MI p (q ++ cu n) (rem (adv ((1, N, t) :: rx) u n).1 (adv ((1, N, t) :: rx) u n).2) (rem (adv ((3, M, s) :: ry) v n).1 (adv ((3, M, s) :: ry) v n).2) P Q := by
  obtain ⟨h1, h2, h3⟩ := h
  rw [rem_keep hs hu, rem_cut hs' hv] at h1 h2 h3
  rw [mt_kc] at h1 h2
  rw [nI_append, nI_append, nI_keeps, nI_cuts] at h3
  exact ⟨h1, by rw [cu_nat, List.append_assoc]; exact h2, by omega⟩
theorem mstep_ck (h : MI p q (rem ((3, N, t) :: rx) u) (rem ((1, M, s) :: ry) v) P Q) (hs : Shape (3, N, t)) (hs' : Shape (1, M, s)) (hu : u + n ≤ N.toNat) (hv : v + n ≤ M.toNat) :
    MI (p ++ cu n) q (rem (adv ((3, N, t) :: rx) u n).1 (adv ((3, N, t) :: rx) u n).2) (rem (adv ((1, M, s) :: ry) v n).1 (adv ((1, M, s) :: ry) v n).2) P Q := by
  obtain ⟨h1, h2, h3⟩ := h
  rw [rem_cut hs hu, rem_keep hs' hv] at h1 h2 h3
  rw [mt_ck] at h1 h2
  rw [nI_append, nI_append, nI_keeps, nI_cuts] at h3
  exact ⟨by rw [cu_nat, List.append_assoc]; exact h1, h2, by omega⟩
theorem mstep_cc (h : MI p q (rem ((3, N, t) :: rx) u) (rem ((3, M, s) :: ry) v) P Q) (hs : Shape (3, N, t)) (hs' : Shape (3, M, s)) (hu : u + n ≤ N.toNat) (hv : v + n ≤ M.toNat) :
    MI p q (rem (adv ((3, N, t) :: rx) u n).1 (adv ((3, N, t) :: rx) u n).2) (rem (adv ((3, M, s) :: ry) v n).1 (adv ((3, M, s) :: ry) v n).2) P Q := by
  obtain ⟨h1, h2, h3⟩ := h
  rw [rem_cut hs hu, rem_cut hs' hv] at h1 h2 h3
  rw [mt_cc] at h1 h2
  rw [nI_append, nI_append, nI_cuts] at h3
  exact ⟨h1, h2, by omega⟩
end
theorem MI.len {p q xs ys P Q : List U} (h : MI p q xs ys P Q) : p.length ≤ P.length ∧ q.length ≤ Q.length := by
  constructor
  · rw [← h.1, List.length_append]; omega
  · rw [← h.2.1, List.length_append]; omega
theorem MI.fin {p q P Q : List U} (h : MI p q [] [] P Q) : p = P ∧ q = Q := by
  have h1 := h.1
  have h2 := h.2.1
  simp [mt, lead] at h1 h2
  exact ⟨h1, h2⟩
theorem nO_mt (a b : List U) (h : nI a = nI b) : nO (mt a b).1 = nO (mt a b).2 ∧ nO (mt a b).1 ≤ nO a + nP b := by
  refine mt_ind (M := fun a b => nO (mt a b).1 = nO (mt a b).2 ∧ nO (mt a b).1 ≤ nO a + nP b) ⟨rfl, Nat.zero_le _⟩ ?_ ?_ ?_ ?_ ?_ ?_ _ a b (Nat.le_refl _) h
  · intro b xs ys h ih; simp only [mt, nO, nP] at ih ⊢; omega
  · intro xs b ys hx h ih; rw [mt_put _ _ _ hx]; simp only [nO, nP] at ih ⊢; omega
  all_goals intro xs ys h ih; simp only [mt, nO, nP, lead, rst, List.map_nil, List.nil_append] at ih ⊢; omega
theorem nP_le : ∀ us : List U, nP us ≤ nO us
  | [] => Nat.le_refl _
  | none :: us => by have := nP_le us; simp only [nP, nO]; omega
  | some none :: us => by have := nP_le us; simp only [nP, nO]; omega
  | some (some b) :: us => by have := nP_le us; simp only [nP, nO]; omega
theorem meet_chk {a b : List Pt} (h : meetE a b = 0) : chk a = 0 ∧ chk b = 0 ∧ nI (units a) = nI (units b) ∧ chk (meet1 a b) = 0 ∧ chk (meet2 a b) = 0 ∧ meetC a b = meet1 a b ∧ meetD a b = meet2 a b := by
  have e1 : meetC a b = meet1 a b := by unfold meetC; rw [if_pos h]
  have e2 : meetD a b = meet2 a b := by unfold meetD; rw [if_pos h]
  unfold meetE at h
  split at h
  · omega
  · split at h
    · omega
    · split at h
      · omega
      · split at h
        · omega
        · exact ⟨by omega, by omega, by omega, by omega, h, e1, e2⟩
theorem meet_err {a b : List Pt} (h : meetE a b ≠ 0) : meetC a b = [] ∧ meetD a b = [] := by unfold meetC meetD; rw [if_neg h, if_neg h]; exact ⟨rfl, rfl⟩
theorem meet_units {a b : List Pt} (h : meetE a b = 0) : units (meetC a b) = cz (mt (units a) (units b)).1 ∧ units (meetD a b) = cz (mt (units a) (units b)).2 := by
  have hc := meet_chk h
  rw [hc.2.2.2.2.2.1, hc.2.2.2.2.2.2]
  exact ⟨units_grp _, units_grp _⟩
theorem meet_good {a b : List Pt} (h : meetE a b = 0) : chk (meetC a b) = 0 ∧ chk (meetD a b) = 0 := by
  have hc := meet_chk h
  rw [hc.2.2.2.2.2.1, hc.2.2.2.2.2.2]
  exact ⟨hc.2.2.2.1, hc.2.2.2.2.1⟩
/-- the two sides have one size, so one check fails with the other -/
theorem meet_sizes {a b : List Pt} (h : meetE a b = 0) : nI (units (meetC a b)) = nO (units b) ∧ nI (units (meetD a b)) = nO (units a) ∧ nO (units (meetC a b)) = nO (units (meetD a b)) ∧ nP (units (meetC a b)) = nP (units a) ∧ nP (units (meetD a b)) = nP (units b) := by
  have hn := (meet_chk h).2.2.1
  obtain ⟨u1, u2⟩ := meet_units h
  have m1 := nI_mt (units a) (units b) hn
  have m2 := nO_mt (units a) (units b) hn
  have m3 := nP_mt (units a) (units b) hn
  rw [u1, u2, nI_cz, nI_cz, nO_cz, nO_cz, nP_cz, nP_cz]
  exact ⟨m1.1, m1.2, m2.1, m3.1, m3.2⟩
theorem meet_zero {a b : List Pt} (ha : chk a = 0) (hb : chk b = 0) (hn : nI (units a) = nI (units b)) (ho : nO (mt (units a) (units b)).1 ≤ 500) : meetE a b = 0 := by
  have m1 := nI_mt (units a) (units b) hn
  have m2 := nO_mt (units a) (units b) hn
  have k1 : chk (meet1 a b) = 0 := good_cz (by rw [m1.1]; exact (chk_parts hb).2.2.2.2.1) ho
  have k2 : chk (meet2 a b) = 0 := good_cz (by rw [m1.2]; exact (chk_parts ha).2.2.2.2.1) (by rw [← m2.1]; exact ho)
  unfold meetE
  rw [if_neg (by omega), if_neg (by omega), if_neg (by omega), if_neg (by omega), k2]
theorem meet_all {a : List Pt} (h : chk a = 0) : meetE a (allL (nI (units a))) = 0 ∧ meetC a (allL (nI (units a))) = a ∧ meetD a (allL (nI (units a))) = allL (nO (units a)) := by
  have hp := chk_parts h
  have hm : mt (units a) (units (allL (nI (units a)))) = (units a, List.replicate (nO (units a)) none) := by rw [all_units, mt_keeps]
  have e := meet_zero h (all_chk (nI (units a)) hp.2.2.2.1) (by rw [all_units, nI_keeps]) (by rw [hm]; exact hp.2.2.2.2.1)
  have hc := meet_chk e
  refine ⟨e, ?_, ?_⟩
  · rw [hc.2.2.2.2.2.1, meet1, hm]; exact grp_cz_good h
  · rw [hc.2.2.2.2.2.2, meet2, hm]
    have := grp_cz_good (all_chk (nO (units a)) hp.2.2.2.2.1)
    rwa [all_units] at this
theorem meet_all_left {a : List Pt} (h : chk a = 0) : meetE (allL (nI (units a))) a = 0 ∧ meetC (allL (nI (units a))) a = allL (nO (units a)) ∧ meetD (allL (nI (units a))) a = a := by
  have hp := chk_parts h
  have hm : mt (units (allL (nI (units a)))) (units a) = (List.replicate (nO (units a)) none, units a) := by rw [all_units, mt_keeps_left]
  have e := meet_zero (all_chk (nI (units a)) hp.2.2.2.1) h (by rw [all_units, nI_keeps]) (by rw [hm, nO_keeps]; exact hp.2.2.2.2.1)
  have hc := meet_chk e
  refine ⟨e, ?_, ?_⟩
  · rw [hc.2.2.2.2.2.1, meet1, hm]
    have := grp_cz_good (all_chk (nO (units a)) hp.2.2.2.2.1)
    rwa [all_units] at this
  · rw [hc.2.2.2.2.2.2, meet2, hm]; exact grp_cz_good h
/-- Ellis, Gibbs; Ressel -/
theorem meet_comp {a b : List Pt} (h : meetE a b = 0) : compE a (meetD a b) = 0 ∧ compE b (meetC a b) = 0 ∧ compL a (meetD a b) = compL b (meetC a b) := by
  have hc := meet_chk h
  have hg := meet_good h
  have hs := meet_sizes h
  have hu := meet_units h
  have e1 : compE a (meetD a b) = 0 := comp_zero hc.1 hg.2 hs.2.1.symm
  have e2 : compE b (meetC a b) = 0 := comp_zero hc.2.1 hg.1 hs.1.symm
  exact ⟨e1, e2, comp_eq e1 e2 (by rw [hu.1, hu.2]; exact meet_same hc.2.2.1)⟩
end Go.Proofs.Ytfncpcmaplhojaa
namespace Go.Proofs.Ytfncpcmaplhojaa
set_option linter.unusedVariables false
set_option linter.unusedSimpArgs false

/-- what is left of a delta behind revisions -/
def mtE : List Pt → List Rv → Int
  | _, [] => 0
  | o, r :: l => if meetE r.2.2 o ≠ 0 then meetE r.2.2 o else mtE (meetD r.2.2 o) l
def mtL : List Pt → List Rv → List Pt
  | o, [] => o
  | o, r :: l => mtL (meetD r.2.2 o) l
theorem mt_step {o : List Pt} {r : Rv} {l : List Rv} {E : Int} {R : List Pt} (h : mtE o (r :: l) = E ∧ (E = 0 → mtL o (r :: l) = R)) :
    (meetE r.2.2 o ≠ 0 → E = meetE r.2.2 o) ∧ (meetE r.2.2 o = 0 → mtE (meetD r.2.2 o) l = E ∧ (E = 0 → mtL (meetD r.2.2 o) l = R)) := by
  obtain ⟨h1, h2⟩ := h
  simp only [mtE] at h1
  refine ⟨fun h3 => ?_, fun h3 => ?_⟩
  · rw [if_pos h3] at h1; exact h1.symm
  · rw [if_neg (by omega)] at h1; exact ⟨h1, h2⟩
theorem txr_at : ∀ (l : List Rv) (s : ByteArray) (k : Nat) (h : k < l.length), txr s l = 0 → oneE l[k] = 0 ∧ doE (l[k]).2.2 (txt s l k) = 0 ∧ txt s l (k + 1) = doS (l[k]).2.2 (txt s l k)
  | [], s, k, h, _ => absurd h (by simp)
  | r :: l, s, 0, _, h => by
    simp only [txr] at h
    split at h
    · omega
    · split at h
      · omega
      · rename_i h1 h2
        refine ⟨by simpa using h1, by simpa [txt] using h2, ?_⟩
        cases l <;> simp [txt]
  | r :: l, s, k + 1, hk, h => by
    simp only [txr] at h
    split at h
    · omega
    · split at h
      · omega
      · have := txr_at l (doS r.2.2 s) k (by simpa using hk) h
        simpa [txt] using this
theorem mt_good : ∀ (l : List Rv) (o : List Pt), chk o = 0 → mtE o l = 0 → chk (mtL o l) = 0 ∧ nP (units (mtL o l)) = nP (units o)
  | [], o, h, _ => ⟨h, rfl⟩
  | r :: l, o, h, h2 => by
    simp only [mtE] at h2
    split at h2
    · omega
    · rename_i h3
      have h3' : meetE r.2.2 o = 0 := by omega
      have := mt_good l (meetD r.2.2 o) (meet_good h3').2 h2
      simp only [mtL]
      exact ⟨this.1, by rw [this.2, (meet_sizes h3').2.2.2.2]⟩
/-- bytes that are cut -/
def nC : List U → Nat
  | [] => 0
  | some none :: r => nC r + 1
  | _ :: r => nC r
theorem nC_append (a b : List U) : nC (a ++ b) = nC a + nC b := by
  induction a with
  | nil => simp [nC]
  | cons u a ih => rcases u with _ | _ | x <;> simp [nC, ih] <;> omega
theorem nP_tn : ∀ (us : List U) (s : List UInt8), nI us = s.length → nP (tn us s) = nC us
  | [], s, _ => by simp [tn, nP, nC]
  | none :: us, [], h => by simp [nI] at h
  | none :: us, x :: s, h => by simp only [tn, nP, nC]; exact nP_tn us s (by simpa [nI] using h)
  | some none :: us, [], h => by simp [nI] at h
  | some none :: us, x :: s, h => by simp only [tn, nP, nC]; rw [nP_tn us s (by simpa [nI] using h)]
  | some (some b) :: us, s, h => by
    have := nP_tn us s (by simpa [nI] using h)
    cases s <;> simpa [tn, nP, nC] using this
def szC : List Pt → Int
  | [] => 0
  | p :: l => (if p.1 = 3 then p.2.1 else 0) + szC l
theorem nC_units : ∀ (l : List Pt), Fine l → (nC (units l) : Int) = szC l
  | [], _ => rfl
  | p :: l, h => by
    have h2 := nC_units l fun q hq => h q (by simp [hq])
    have hr (u : U) (hu : nC [u] = 0) (n : Nat) : nC (List.replicate n u) = 0 := by
      induction n with
      | zero => rfl
      | succ n ih => rw [List.replicate_succ, show u :: List.replicate n u = [u] ++ List.replicate n u from rfl, nC_append, ih, hu]
    have hcn (n : Nat) : nC (List.replicate n (some none)) = n := by
      induction n with
      | zero => rfl
      | succ n ih => rw [List.replicate_succ]; simp only [nC]; rw [ih]
    have hp : ∀ l : List UInt8, nC (l.map (fun b => (some (some b) : U))) = 0 := by
      intro l
      induction l with
      | nil => rfl
      | cons x l ih => simpa [nC] using ih
    have h1 : (nC (up p) : Int) = if p.1 = 3 then p.2.1 else 0 := by
      obtain ⟨k, n, t⟩ := p
      rcases h (k, n, t) (by simp) with ⟨h1 | h1, h4, h3⟩ | ⟨h1, _, _⟩
      · simp only at h1 h3; subst h1
        simp only [up, if_true]
        rw [hr _ rfl]; rfl
      · simp only at h1 h3 h4; subst h1
        rw [show up ((3, n, t) : Pt) = List.replicate n.toNat (some none) from rfl, hcn]
        simp only [if_true]
        omega
      · simp only at h1; subst h1
        rw [show up ((2, n, t) : Pt) = t.data.toList.map (fun b => some (some b)) from rfl, hp]; rfl
    rw [units_cons, nC_append]
    simp only [szC]
    omega
theorem undo_puts {d : List Pt} {s : ByteArray} (h : doE d s = 0) (l : List Rv) (hm : mtE (turnL d s) l = 0) : szP (mtL (turnL d s) l) = szC d := by
  obtain ⟨t1, t2, t3, _⟩ := turn_ok h
  obtain ⟨hk, hn, _, _⟩ := do_chk h
  have g := mt_good l (turnL d s) t2 hm
  have e : nP (units (turnL d s)) = nC (units d) := by rw [t3, nP_cz, nP_tn _ _ hn]
  rw [← nP_units _ (chk_parts g.1).2.2.1, g.2, e, nC_units _ (chk_parts hk).2.2.1]
/-- what comes between revisions -/
def btw : List Pt → List Rv → List Pt
  | o, [] => o
  | o, r :: l => btw (compL o r.2.2) l
theorem btw_do : ∀ (l : List Rv) (o : List Pt) (s : ByteArray), doE o s = 0 → txr (doS o s) l = 0 → doE (btw o l) s = 0 ∧ doS (btw o l) s = txt (doS o s) l l.length
  | [], o, s, h, _ => ⟨h, rfl⟩
  | r :: l, o, s, h, h2 => by
    simp only [txr] at h2
    split at h2
    · omega
    · split at h2
      · omega
      · rename_i h3 h4
        obtain ⟨c1, c2, c3⟩ := comp_do h (b := r.2.2) (by omega)
        have := btw_do l (compL o r.2.2) s c2 (by rw [c3]; exact h2)
        simp only [btw, txt, List.length_cons]
        rw [c3] at this
        exact this
theorem btw_step {o : List Pt} {r : Rv} {l : List Rv} {s : ByteArray} (h : doE o s = 0) (h2 : txr (doS o s) (r :: l) = 0) : compE o r.2.2 = 0 ∧ doE (compL o r.2.2) s = 0 ∧ txr (doS (compL o r.2.2) s) l = 0 := by
  simp only [txr] at h2
  split at h2
  · omega
  · split at h2
    · omega
    · obtain ⟨c1, c2, c3⟩ := comp_do h (b := r.2.2) (by omega)
      exact ⟨c1, c2, by rw [c3]; exact h2⟩
theorem btw_of {base : ByteArray} {l : List Rv} (h : txE base l = 0) (i k : Nat) (hik : i ≤ k) (hk : k ≤ l.length) :
    doE (btw (allL (txt base l i).size) ((l.drop i).take (k - i))) (txt base l i) = 0 ∧ doS (btw (allL (txt base l i).size) ((l.drop i).take (k - i))) (txt base l i) = txt base l k := by
  have hp := txE_parts h
  have h5 := txt_size l base i hp.1
  have hd := do_all h5
  have ht := txr_take (l.drop i) (txt base l i) (k - i) (txr_drop l base i hp.2.2)
  have := btw_do ((l.drop i).take (k - i)) (allL (txt base l i).size) (txt base l i) hd.1 (by rw [hd.2]; exact ht)
  rw [hd.2] at this
  refine ⟨this.1, this.2.trans ?_⟩
  have e : ((l.drop i).take (k - i)).length = k - i := by rw [List.length_take, List.length_drop]; omega
  rw [e, txt_take _ _ _ _ (Nat.le_refl _), txt_drop, show i + (k - i) = k by omega]
end Go.Proofs.Ytfncpcmaplhojaa
namespace Go.Proofs.Ytfncpcmaplhojaa
open Go.ChangeShapes Go.WideShapes Go.RowKit
set_option linter.unusedVariables false
set_option linter.unusedSimpArgs false
set_option maxRecDepth 100000
set_option maxHeartbeats 4000000

theorem comp_rdn (a b : List Pt) (A A' : Option Addr) (n n' c c' : Nat) (w : World) (h : RdP w w.heap.size A n c a) (h' : RdP w w.heap.size A' n' c' b) (z : Int) (x : List Pt) (hz : compE a b = z) (hx : compL a b = x) :
    Calls Try.prog 56 #[.slice A n c, .slice A' n' c'] w fun e w' => ∃ A1 n1 c1, e = .returned (.tuple #[.slice A1 n1 c1, .int .i64 z]) ∧ RdP w' w'.heap.size A1 n1 c1 x ∧ Below w.heap.size w w' := by
  subst hz; subst hx
  refine (comp_rd a b A A' n n' c c' w h h').mono ?_
  rintro e w' ⟨A1, c1, rfl, h1, hb⟩
  exact ⟨_, _, _, rfl, h1, hb⟩
theorem allL_small (n : Int) : ∀ p ∈ allL n, p.2.2.size ≤ 140737488351232 := by
  unfold allL
  split
  · simp
  · simp [emp]; decide
theorem idle_any (n : Nat) (hn : n ≤ 500) (w : World) :
    Calls Try.prog 65 #[.int .i64 n] w fun e w' => ∃ A m c, e = .returned (.slice A m c) ∧ RdP w' w'.heap.size A m c (allL n) ∧ Below w.heap.size w w' := by
  have hm0 := Mk.fresh w (.cells #[.slice none 0 0, .string ⟨#[]⟩, .int .i64 0] 165)
  have hb0 := (Below.refl w.heap.size w).alloc (Nat.le_refl _) (.cells #[.slice none 0 0, .string ⟨#[]⟩, .int .i64 0] 165)
  have he : Hid (grp (cz ([] ++ ku (n : Int))) = allL n) := Lib.hid (by
    have := grp_cz_good (all_chk n hn)
    rw [all_units] at this
    rw [List.nil_append, ku_nat]; exact this)
  have hn' : (n : Int) ≤ 500 := by omega
  have hn0 : (0 : Int) ≤ (n : Int) := by omega
  go_enter Try.func65, Try.ntmps65
  go_wp2_with fail
  refine (mkeep_any (n : Int) hm0 (by simp) hb0.size (by omega) (by omega)).mono ?_
  rintro e w1 ⟨rfl, ob, hm1, hf1⟩
  have hge := hm0.ge
  have hw1 := hb0.trans (hf1.below_ hb0.size (Nat.le_refl _) fun k hk => (hge k hk).1)
  have Hm1 := Lib.hid hm1
  clear hm1 hf1 hge hm0
  go_wp2_with fail
  refine (mdone_any Hm1.out (by simp [ku]; omega) hw1.size).mono ?_
  rintro e w2 ⟨v, ob2, rfl, ho, _, hf⟩
  have hge := Hm1.out.ge
  have hw2 := hw1.trans (hf.below_ hw1.size (Nat.le_refl _) fun k hk => (hge k hk).1)
  rw [he.out] at ho
  obtain ⟨A5, c5, rfl, hr⟩ := ho.rd (allL_small n)
  have Hr := Lib.hid hr
  clear ho hf hge hr
  go_wp2_with fail
  go_ret
  exact ⟨_, _, _, rfl, Hr.out, hw2⟩
theorem between_err (base : ByteArray) (l : List Rv) (A : Option Addr) (n c B : Nat) (i k : Int) (w : World) (h : RdR w B A n c l) (hB : B ≤ w.heap.size) (hbs : base.size ≤ 9223372036854775807) (he : txE base l ≠ 0) :
    Calls Try.prog 24 #[.string base, .slice A n c, .int .i64 i, .int .i64 k] w fun e w' => e = .returned (.tuple #[.slice none 0 0, .int .i64 (txE base l)]) ∧ Below w.heap.size w w' := by
  have hc := texts_any base l A n c B w h hB hbs
  have Hc := Lib.hid hc
  have hne : (txE base l != 0) = true := by simpa using he
  clear hc h he
  go_enter Try.func24, Try.ntmps24
  go_wp2_with fail
  refine Hc.out.mono ?_
  rintro e w1 ⟨A1, n1, c1, rfl, _, hb⟩
  go_wp2_with fail
  go_ret2
  exact ⟨rfl, hb⟩
theorem between_arg (base : ByteArray) (l : List Rv) (A : Option Addr) (n c B : Nat) (i k : Int) (w : World) (h : RdR w B A n c l) (hB : B ≤ w.heap.size) (hbs : base.size ≤ 9223372036854775807) (he : txE base l = 0) (hk : i < 0 ∨ (n : Int) < k ∨ k < i) :
    Calls Try.prog 24 #[.string base, .slice A n c, .int .i64 i, .int .i64 k] w fun e w' => e = .returned (.tuple #[.slice none 0 0, .int .i64 1]) ∧ Below w.heap.size w w' := by
  have hc := texts_any base l A n c B w h hB hbs
  rw [he] at hc
  have Hc := Lib.hid hc
  have hle := h.le
  clear hc h he
  rcases (show i < 0 ∨ (0 ≤ i ∧ (n : Int) < k) ∨ (0 ≤ i ∧ k ≤ (n : Int) ∧ k < i) by omega) with h1 | ⟨h1, h2⟩ | ⟨h1, h2, h3⟩
  all_goals
    clear hk
    go_enter Try.func24, Try.ntmps24
    go_wp2_with fail
    refine Hc.out.mono ?_
    rintro e w1 ⟨A1, n1, c1, rfl, _, hb⟩
    go_wp2_with fail
    go_ret2
    exact ⟨rfl, hb⟩
theorem between_same (base : ByteArray) (l : List Rv) (A : Option Addr) (B i : Nat) (w : World) (h : RdR w B A i i l) (hB : B ≤ w.heap.size) (he : txE base l = 0) (R : List Pt)
    (hR : btw (allL (txt base l i).size) ((l.drop i).take (i - i)) = R) :
    Calls Try.prog 24 #[.string base, .slice A i i, .int .i64 i, .int .i64 i] w fun e w' => ∃ A1 n1 c1, e = .returned (.tuple #[.slice A1 n1 c1, .int .i64 0]) ∧ RdP w' w'.heap.size A1 n1 c1 R ∧ Below w.heap.size w w' := by
  have hp := txE_parts he
  have hc := texts_any base l A i i B w h hB (by omega)
  rw [he] at hc
  have Hc := Lib.hid hc
  have hn : i = l.length := h.1
  have hcaps := h.caps
  have hkn' : (i : Int) ≤ (i : Int) := by omega
  have hik' : (i : Int) ≤ (i : Int) := by omega
  have hi0 : (0 : Int) ≤ (i : Int) := by omega
  have hin : (i : Int) < (i : Int) + 1 := by omega
  have hn64 : (i : Int) ≤ 64 := by omega
  have hnc : (i : Int) ≤ (i : Int) := by omega
  have hkc : (i : Int) ≤ (i : Int) := by omega
  have hat := txs_at l base i (by omega)
  have hlen := txs_len l base
  have hS5 := txt_size l base i hp.1
  have hdr := txr_take (l.drop i) (txt base l i) (i - i) (txr_drop l base i hp.2.2)
  obtain ⟨S, hS⟩ : ∃ S, txt base l i = S := ⟨_, rfl⟩
  rw [hS] at hat hS5 hdr hR
  have Hda := Lib.hid (do_all hS5)
  have Hat := Lib.hid hat
  have Hlen := Lib.hid (show (txs base l).length = i + 1 by omega)
  have Hdr := Lib.hid hdr
  have HR := Lib.hid hR
  have Hn := Lib.hid hn
  have hR0 : allL (S.size : Int) = R := by have h1 := HR.out; rw [Nat.sub_self, List.take_zero] at h1; exact h1
  have HR0 := Lib.hid hR0
  clear hc h he hp hat hlen hS hn hdr hR hR0
  go_enter Try.func24, Try.ntmps24
  go_wp2_with fail
  refine Hc.out.mono ?_
  rintro e w1 ⟨A1, n1, c1, rfl, hown, hb⟩
  have ho := hown trivial
  unfold OwnS at ho
  rw [Hlen.out] at ho
  have hnn : n1 = i + 1 ∧ ∃ g, A1 = some ⟨g, 0, none⟩ := by
    rcases ho.2 with ⟨hv, h0⟩ | ⟨g', cap, cur, hv, _⟩
    · omega
    · injection hv with h1 h2 h3; exact ⟨h2, g', h1⟩
  obtain ⟨rfl, g, rfl⟩ := hnn
  have hcl : w1.cell? ⟨g, i, none⟩ = some (.string S) := by
    rw [World.ownsRow.cellAt ho i (by omega), List.getElem?_map, Hat.out]
    rfl
  clear hown ho
  go_wp2_with fail
  refine (idle_any S.size hS5 _).mono ?_
  rintro e w2 ⟨A2, n2, c2, rfl, hr2, hb2⟩
  have hw2 := hb.trans (hb2.mono hb.size)
  have Hr2 := Lib.hid hr2
  clear hr2 hb2 hb hcl
  go_wp2_with fail
  go_loopw [11, 12, 14, 48] (fun ev ov pv iv wr => iv = .int .i64 0 ∧ ov = .slice A2 n2 c2 ∧ wr = w2) (fun _ _ _ i _ => 0)
  case atStart => exact ⟨rfl, rfl, rfl⟩
  case round =>
    obtain ⟨rfl, rfl, rfl⟩ := hrel
    go_wp2_with fail
    go_ret2
    exact ⟨_, _, _, rfl, by rw [← HR0.out]; exact Hr2.out, hw2⟩
theorem between_more (base : ByteArray) (l : List Rv) (A : Option Addr) (n c B i k : Nat) (w : World) (h : RdR w B A n c l) (hB : B ≤ w.heap.size) (he : txE base l = 0) (hik : i ≤ k) (hkn : k ≤ n) (R : List Pt)
    (hR : btw (allL (txt base l i).size) ((l.drop i).take (k - i)) = R) (hci : c ≠ i) :
    Calls Try.prog 24 #[.string base, .slice A n c, .int .i64 i, .int .i64 k] w fun e w' => ∃ A1 n1 c1, e = .returned (.tuple #[.slice A1 n1 c1, .int .i64 0]) ∧ RdP w' w'.heap.size A1 n1 c1 R ∧ Below w.heap.size w w' := by
  have hp := txE_parts he
  have hc := texts_any base l A n c B w h hB (by omega)
  rw [he] at hc
  have Hc := Lib.hid hc
  have hn : n = l.length := h.1
  have hcaps := h.caps
  have hkn' : (k : Int) ≤ (n : Int) := by omega
  have hik' : (i : Int) ≤ (k : Int) := by omega
  have hi0 : (0 : Int) ≤ (i : Int) := by omega
  have hin : (i : Int) < (n : Int) + 1 := by omega
  have hn64 : (n : Int) ≤ 64 := by omega
  have hnc : (n : Int) ≤ (c : Int) := by omega
  have hkc : (k : Int) ≤ (c : Int) := by omega
  have hat := txs_at l base i (by omega)
  have hlen := txs_len l base
  have hS5 := txt_size l base i hp.1
  have hdr := txr_take (l.drop i) (txt base l i) (k - i) (txr_drop l base i hp.2.2)
  obtain ⟨S, hS⟩ : ∃ S, txt base l i = S := ⟨_, rfl⟩
  rw [hS] at hat hS5 hdr hR
  have Hda := Lib.hid (do_all hS5)
  have Hat := Lib.hid hat
  have Hlen := Lib.hid (show (txs base l).length = n + 1 by omega)
  have Hdr := Lib.hid hdr
  have HR := Lib.hid hR
  have Hn := Lib.hid hn
  obtain ⟨A', hA'⟩ : ∃ A', Option.map (fun x : Addr => x.add (i * 3)) A = A' := ⟨_, rfl⟩
  obtain ⟨N, hN⟩ : ∃ N, k - i = N := ⟨_, rfl⟩
  have hdrop : RdR w B A' N (c - i) ((l.drop i).take N) := (h.drop i (by omega) A' (fun _ b o e => by
    rw [← hA', e]
    simp only [Option.map_some, Addr.add]
    by_cases h0 : i * 3 = 0
    · simp [h0]
    · simp [h0])).take N (by omega)
  rw [hN] at HR Hdr
  have hN64 : (N : Int) ≤ 64 := by omega
  have hNk : (k : Int) - (i : Int) = (N : Int) := by omega
  have Hd := Lib.hid hdrop
  have hcif : (c = i) = False := by simp; omega
  clear hc h he hp hat hlen hS hn hdr hR hci hdrop
  go_enter Try.func24, Try.ntmps24
  go_wp2_with fail
  refine Hc.out.mono ?_
  rintro e w1 ⟨A1, n1, c1, rfl, hown, hb⟩
  have ho := hown trivial
  unfold OwnS at ho
  rw [Hlen.out] at ho
  have hnn : n1 = n + 1 ∧ ∃ g, A1 = some ⟨g, 0, none⟩ := by
    rcases ho.2 with ⟨hv, h0⟩ | ⟨g', cap, cur, hv, _⟩
    · omega
    · injection hv with h1 h2 h3; exact ⟨h2, g', h1⟩
  obtain ⟨rfl, g, rfl⟩ := hnn
  have hcl : w1.cell? ⟨g, i, none⟩ = some (.string S) := by
    rw [World.ownsRow.cellAt ho i (by omega), List.getElem?_map, Hat.out]
    rfl
  clear hown ho
  go_wp2_with fail
  refine (idle_any S.size hS5 _).mono ?_
  rintro e w2 ⟨A2, n2, c2, rfl, hr2, hb2⟩
  have hw2 := hb.trans (hb2.mono hb.size)
  have Hr2 := Lib.hid hr2
  clear hr2 hb2 hb hcl
  go_wp2_with fail
  go_loopw [11, 12, 14, 48] (fun ev ov pv iv wr => ∃ (j : Nat) (A1 : Option Addr) (n1 c1 : Nat) (o : List Pt), j ≤ N ∧ iv = .int .i64 j ∧ ov = .slice A1 n1 c1 ∧ Hid (RdP wr wr.heap.size A1 n1 c1 o) ∧ Hid (doE o S = 0 ∧ txr (doS o S) (((l.drop i).take N).drop j) = 0 ∧ btw o (((l.drop i).take N).drop j) = R) ∧ Below w.heap.size w wr) (fun _ _ _ i _ => N - (intOf i).toNat)
  case atStart => exact ⟨0, _, _, _, _, by omega, rfl, rfl, Hr2, Lib.hid ⟨Hda.out.1, by rw [Hda.out.2, List.drop_zero]; exact Hdr.out, by rw [List.drop_zero]; exact HR.out⟩, hw2⟩
  case round =>
    obtain ⟨j, A3, n3, c3, t, hj, rfl, rfl, hrt, hst, hbwr⟩ := hrel
    by_cases hlt : j < N
    · have hkl : j < ((l.drop i).take N).length := by have := Hd.out.1; omega
      obtain ⟨b4, o4, A4, n4, c4, rfl, hb4, d0, d1, d2, hrd⟩ := (Hd.out.below (hbwr.mono hB)).at_ j hlt
      have hdr : ((l.drop i).take N).drop j = ((l.drop i).take N)[j] :: ((l.drop i).take N).drop (j + 1) := List.drop_eq_getElem_cons hkl
      rw [hdr] at hst
      have hstep := Lib.hid (btw_step hst.out.1 hst.out.2.1)
      obtain ⟨r, hr⟩ : ∃ r, r = ((l.drop i).take N)[j] := ⟨_, rfl⟩
      rw [← hr] at hst hstep d0 d1 hrd
      clear hr hdr
      obtain ⟨ra, rb, d⟩ := r
      simp only at d0 d1 d2 hrd hstep
      have hj0 : (0 : Int) ≤ (j : Int) := by omega
      have hjn : (j : Int) < (N : Int) := by omega
      have hgl : b4 < wr.heap.size := by have := hbwr.size; omega
      have hwb := hbwr.size
      have hw4 := hbwr.alloc hbwr.size (.cells #[.int .i64 ra, .int .i64 rb, .slice A4 n4 c4] 29)
      have hrd' := (hrd.more (show B ≤ wr.heap.size by omega)).stepA (.cells #[.int .i64 ra, .int .i64 rb, .slice A4 n4 c4] 29)
      have hrt' := hrt.out.stepA (.cells #[.int .i64 ra, .int .i64 rb, .slice A4 n4 c4] 29)
      have hcall := comp_rdn t d A3 A4 n3 n4 c3 c4 _ hrt' hrd' 0 _ hstep.out.1 rfl
      have Hcall := Lib.hid hcall
      have Hnx := Lib.hid (show doE (compL t d) S = 0 ∧ txr (doS (compL t d) S) (((l.drop i).take N).drop (j + 1)) = 0 ∧ btw (compL t d) (((l.drop i).take N).drop (j + 1)) = R from ⟨hstep.out.2.1, hstep.out.2.2, hst.out.2.2⟩)
      clear hrd hrd' hrt' hcall hst hstep
      go_wp2_with fail
      refine Hcall.out.mono ?_
      rintro e w5 ⟨A5, n5, c5, rfl, hr5, hb5⟩
      have hw5 := hw4.trans (hb5.mono hw4.size)
      have Hr5 := Lib.hid hr5
      clear hr5 hb5
      go_wp2_with fail
      go_roundw
      case rel => exact ⟨j + 1, _, _, _, _, by omega, by go_num, rfl, Hr5, Hnx, hw5⟩
      case measure => simp [intOf]; omega
    · have hjn : decide (j < N) = false := by simpa using hlt
      obtain rfl : j = N := by omega
      have h1 := hst.out.2.2
      rw [List.drop_eq_nil_of_le (by have := Hd.out.1; omega)] at h1
      have hRt : t = R := h1
      subst hRt
      clear hst h1
      go_wp2_with fail
      go_ret2
      exact ⟨_, _, _, rfl, hrt.out, hbwr⟩
theorem between_good (base : ByteArray) (l : List Rv) (A : Option Addr) (n c B i k : Nat) (w : World) (h : RdR w B A n c l) (hB : B ≤ w.heap.size) (he : txE base l = 0) (hik : i ≤ k) (hkn : k ≤ n) (R : List Pt)
    (hR : btw (allL (txt base l i).size) ((l.drop i).take (k - i)) = R) :
    Calls Try.prog 24 #[.string base, .slice A n c, .int .i64 i, .int .i64 k] w fun e w' => ∃ A1 n1 c1, e = .returned (.tuple #[.slice A1 n1 c1, .int .i64 0]) ∧ RdP w' w'.heap.size A1 n1 c1 R ∧ Below w.heap.size w w' := by
  by_cases hci : c = i
  · have := h.caps
    obtain rfl : k = i := by omega
    obtain rfl : n = k := by omega
    subst hci
    exact between_same base l A B _ w h hB he R hR
  · exact between_more base l A n c B i k w h hB he hik hkn R hR hci
end Go.Proofs.Ytfncpcmaplhojaa
