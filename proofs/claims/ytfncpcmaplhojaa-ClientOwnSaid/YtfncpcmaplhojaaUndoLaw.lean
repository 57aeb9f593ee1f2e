/- What undo.Of says, and what comes between two revisions; plain lists, no program. -/
import Derived.Test.YtfncpcmaplhojaaRevsLaw
import Derived.Test.YtfncpcmaplhojaaTurnLaw
import Derived.Test.YtfncpcmaplhojaaMeetLaw
namespace Go.Proofs.Ytfncpcmaplhojaa
set_option linter.unusedVariables false
set_option linter.unusedSimpArgs false

/-- what is left of a delta behind revisions -/
def mtE : List Pt → List Rv → Int
  | _, [] => 0
  | o, r :: l => if meetE r.2.2 o ≠ 0 then meetE r.2.2 o else mtE (meetD r.2.2 o) l
def mtL : List Pt → List Rv → List Pt
  | o, [] => o
  | o, r :: l => mtL (meetD r.2.2 o) l
theorem mt_step {o : List Pt} {r : Rv} {l : List Rv} {E : Int} {R : List Pt} (h : mtE o (r :: l) = E ∧ (E = 0 → mtL o (r :: l) = R)) :
    (meetE r.2.2 o ≠ 0 → E = meetE r.2.2 o) ∧ (meetE r.2.2 o = 0 → mtE (meetD r.2.2 o) l = E ∧ (E = 0 → mtL (meetD r.2.2 o) l = R)) := by
  obtain ⟨h1, h2⟩ := h
  simp only [mtE] at h1
  refine ⟨fun h3 => ?_, fun h3 => ?_⟩
  · rw [if_pos h3] at h1; exact h1.symm
  · rw [if_neg (by omega)] at h1; exact ⟨h1, h2⟩
theorem txr_at : ∀ (l : List Rv) (s : ByteArray) (k : Nat) (h : k < l.length), txr s l = 0 → oneE l[k] = 0 ∧ doE (l[k]).2.2 (txt s l k) = 0 ∧ txt s l (k + 1) = doS (l[k]).2.2 (txt s l k)
  | [], s, k, h, _ => absurd h (by simp)
  | r :: l, s, 0, _, h => by
    simp only [txr] at h
    split at h
    · omega
    · split at h
      · omega
      · rename_i h1 h2
        refine ⟨by simpa using h1, by simpa [txt] using h2, ?_⟩
        cases l <;> simp [txt]
  | r :: l, s, k + 1, hk, h => by
    simp only [txr] at h
    split at h
    · omega
    · split at h
      · omega
      · have := txr_at l (doS r.2.2 s) k (by simpa using hk) h
        simpa [txt] using this
theorem mt_good : ∀ (l : List Rv) (o : List Pt), chk o = 0 → mtE o l = 0 → chk (mtL o l) = 0 ∧ nP (units (mtL o l)) = nP (units o)
  | [], o, h, _ => ⟨h, rfl⟩
  | r :: l, o, h, h2 => by
    simp only [mtE] at h2
    split at h2
    · omega
    · rename_i h3
      have h3' : meetE r.2.2 o = 0 := by omega
      have := mt_good l (meetD r.2.2 o) (meet_good h3').2 h2
      simp only [mtL]
      exact ⟨this.1, by rw [this.2, (meet_sizes h3').2.2.2.2]⟩
/-- bytes that are cut -/
def nC : List U → Nat
  | [] => 0
  | some none :: r => nC r + 1
  | _ :: r => nC r
theorem nC_append (a b : List U) : nC (a ++ b) = nC a + nC b := by
  induction a with
  | nil => simp [nC]
  | cons u a ih => rcases u with _ | _ | x <;> simp [nC, ih] <;> omega
theorem nP_tn : ∀ (us : List U) (s : List UInt8), nI us = s.length → nP (tn us s) = nC us
  | [], s, _ => by simp [tn, nP, nC]
  | none :: us, [], h => by simp [nI] at h
  | none :: us, x :: s, h => by simp only [tn, nP, nC]; exact nP_tn us s (by simpa [nI] using h)
  | some none :: us, [], h => by simp [nI] at h
  | some none :: us, x :: s, h => by simp only [tn, nP, nC]; rw [nP_tn us s (by simpa [nI] using h)]
  | some (some b) :: us, s, h => by
    have := nP_tn us s (by simpa [nI] using h)
    cases s <;> simpa [tn, nP, nC] using this
def szC : List Pt → Int
  | [] => 0
  | p :: l => (if p.1 = 3 then p.2.1 else 0) + szC l
theorem nC_units : ∀ (l : List Pt), Fine l → (nC (units l) : Int) = szC l
  | [], _ => rfl
  | p :: l, h => by
    have h2 := nC_units l fun q hq => h q (by simp [hq])
    have hr (u : U) (hu : nC [u] = 0) (n : Nat) : nC (List.replicate n u) = 0 := by
      induction n with
      | zero => rfl
      | succ n ih => rw [List.replicate_succ, show u :: List.replicate n u = [u] ++ List.replicate n u from rfl, nC_append, ih, hu]
    have hcn (n : Nat) : nC (List.replicate n (some none)) = n := by
      induction n with
      | zero => rfl
      | succ n ih => rw [List.replicate_succ]; simp only [nC]; rw [ih]
    have hp : ∀ l : List UInt8, nC (l.map (fun b => (some (some b) : U))) = 0 := by
      intro l
      induction l with
      | nil => rfl
      | cons x l ih => simpa [nC] using ih
    have h1 : (nC (up p) : Int) = if p.1 = 3 then p.2.1 else 0 := by
      obtain ⟨k, n, t⟩ := p
      rcases h (k, n, t) (by simp) with ⟨h1 | h1, h4, h3⟩ | ⟨h1, _, _⟩
      · simp only at h1 h3; subst h1
        simp only [up, if_true]
        rw [hr _ rfl]; rfl
      · simp only at h1 h3 h4; subst h1
        rw [show up ((3, n, t) : Pt) = List.replicate n.toNat (some none) from rfl, hcn]
        simp only [if_true]
        omega
      · simp only at h1; subst h1
        rw [show up ((2, n, t) : Pt) = t.data.toList.map (fun b => some (some b)) from rfl, hp]; rfl
    rw [units_cons, nC_append]
    simp only [szC]
    omega
theorem undo_puts {d : List Pt} {s : ByteArray} (h : doE d s = 0) (l : List Rv) (hm : mtE (turnL d s) l = 0) : szP (mtL (turnL d s) l) = szC d := by
  obtain ⟨t1, t2, t3, _⟩ := turn_ok h
  obtain ⟨hk, hn, _, _⟩ := do_chk h
  have g := mt_good l (turnL d s) t2 hm
  have e : nP (units (turnL d s)) = nC (units d) := by rw [t3, nP_cz, nP_tn _ _ hn]
  rw [← nP_units _ (chk_parts g.1).2.2.1, g.2, e, nC_units _ (chk_parts hk).2.2.1]
/-- what comes between revisions -/
def btw : List Pt → List Rv → List Pt
  | o, [] => o
  | o, r :: l => btw (compL o r.2.2) l
theorem btw_do : ∀ (l : List Rv) (o : List Pt) (s : ByteArray), doE o s = 0 → txr (doS o s) l = 0 → doE (btw o l) s = 0 ∧ doS (btw o l) s = txt (doS o s) l l.length
  | [], o, s, h, _ => ⟨h, rfl⟩
  | r :: l, o, s, h, h2 => by
    simp only [txr] at h2
    split at h2
    · omega
    · split at h2
      · omega
      · rename_i h3 h4
        obtain ⟨c1, c2, c3⟩ := comp_do h (b := r.2.2) (by omega)
        have := btw_do l (compL o r.2.2) s c2 (by rw [c3]; exact h2)
        simp only [btw, txt, List.length_cons]
        rw [c3] at this
        exact this
theorem btw_step {o : List Pt} {r : Rv} {l : List Rv} {s : ByteArray} (h : doE o s = 0) (h2 : txr (doS o s) (r :: l) = 0) : compE o r.2.2 = 0 ∧ doE (compL o r.2.2) s = 0 ∧ txr (doS (compL o r.2.2) s) l = 0 := by
  simp only [txr] at h2
  split at h2
  · omega
  · split at h2
    · omega
    · obtain ⟨c1, c2, c3⟩ := comp_do h (b := r.2.2) (by omega)
      exact ⟨c1, c2, by rw [c3]; exact h2⟩
theorem btw_of {base : ByteArray} {l : List Rv} (h : txE base l = 0) (i k : Nat) (hik : i ≤ k) (hk : k ≤ l.length) :
    doE (btw (allL (txt base l i).size) ((l.drop i).take (k - i))) (txt base l i) = 0 ∧ doS (btw (allL (txt base l i).size) ((l.drop i).take (k - i))) (txt base l i) = txt base l k := by
  have hp := txE_parts h
  have h5 := txt_size l base i hp.1
  have hd := do_all h5
  have ht := txr_take (l.drop i) (txt base l i) (k - i) (txr_drop l base i hp.2.2)
  have := btw_do ((l.drop i).take (k - i)) (allL (txt base l i).size) (txt base l i) hd.1 (by rw [hd.2]; exact ht)
  rw [hd.2] at this
  refine ⟨this.1, this.2.trans ?_⟩
  have e : ((l.drop i).take (k - i)).length = k - i := by rw [List.length_take, List.length_drop]; omega
  rw [e, txt_take _ _ _ _ (Nat.le_refl _), txt_drop, show i + (k - i) = k by omega]
end Go.Proofs.Ytfncpcmaplhojaa
