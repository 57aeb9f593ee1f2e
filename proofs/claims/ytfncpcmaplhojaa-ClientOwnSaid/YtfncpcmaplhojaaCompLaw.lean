/- Two deltas gone through side by side: what is told, step by step; plain lists, no program. -/
import Derived.Test.YtfncpcmaplhojaaDeltaLaw
namespace Go.Proofs.Ytfncpcmaplhojaa
set_option linter.unusedVariables false
set_option linter.unusedSimpArgs false

def compE (a b : List Pt) : Int := if chk a ≠ 0 then chk a else if chk b ≠ 0 then chk b else if nO (units a) ≠ nI (units b) then 4 else 0
def compL (a b : List Pt) : List Pt := if compE a b = 0 then grp (cz (cmp (units a) (units b))) else []
/-- told, and still to tell -/
def CI (told xs ys X : List U) : Prop := told ++ cmp xs ys = X ∧ nO xs = nI ys
theorem cu_nat (n : Nat) : cu (n : Int) = List.replicate n (some none) := by simp [cu]
theorem ku_nat (n : Nat) : ku (n : Int) = List.replicate n none := by simp [ku]
theorem pu_len (s : ByteArray) : (pu s).length = s.size := by simp [pu]
section
variable {told ys xs X : List U} {r rx ry : List Pt} {N M : Int} {t s : ByteArray} {u v n : Nat}
theorem cstep_cut (h : CI told (rem ((3, N, t) :: r) u) ys X) (hs : Shape (3, N, t)) (hu : u + n ≤ N.toNat) : CI (told ++ cu n) (rem (adv ((3, N, t) :: r) u n).1 (adv ((3, N, t) :: r) u n).2) ys X := by
  obtain ⟨h1, h2⟩ := h
  rw [rem_cut hs hu] at h1 h2
  rw [cmp_cuts] at h1
  rw [nO_append, nO_cuts] at h2
  exact ⟨by rw [cu_nat, List.append_assoc]; exact h1, by omega⟩
theorem cstep_put (h : CI told xs (rem ((2, M, t) :: r) u) X) (hx : ∀ r, xs ≠ some none :: r) (hs : Shape (2, M, t)) (hu : u + n ≤ t.size) : CI (told ++ pu (t.extract u (u + n))) xs (rem (adv ((2, M, t) :: r) u n).1 (adv ((2, M, t) :: r) u n).2) X := by
  obtain ⟨h1, h2⟩ := h
  rw [rem_put hs hu] at h1 h2
  rw [nI_append, nI_pu] at h2
  unfold pu at h1
  rw [cmp_puts _ _ _ hx] at h1
  exact ⟨by rw [List.append_assoc]; exact h1, by omega⟩
theorem cstep_kk (h : CI told (rem ((1, N, t) :: rx) u) (rem ((1, M, s) :: ry) v) X) (hs : Shape (1, N, t)) (hs' : Shape (1, M, s)) (hu : u + n ≤ N.toNat) (hv : v + n ≤ M.toNat) :
    CI (told ++ ku n) (rem (adv ((1, N, t) :: rx) u n).1 (adv ((1, N, t) :: rx) u n).2) (rem (adv ((1, M, s) :: ry) v n).1 (adv ((1, M, s) :: ry) v n).2) X := by
  obtain ⟨h1, h2⟩ := h
  rw [rem_keep hs hu, rem_keep hs' hv] at h1 h2
  rw [cmp_kk] at h1
  rw [nO_append, nI_append, nO_keeps, nI_keeps] at h2
  exact ⟨by rw [ku_nat, List.append_assoc]; exact h1, by omega⟩
theorem cstep_kc (h : CI told (rem ((1, N, t) :: rx) u) (rem ((3, M, s) :: ry) v) X) (hs : Shape (1, N, t)) (hs' : Shape (3, M, s)) (hu : u + n ≤ N.toNat) (hv : v + n ≤ M.toNat) :
    CI (told ++ cu n) (rem (adv ((1, N, t) :: rx) u n).1 (adv ((1, N, t) :: rx) u n).2) (rem (adv ((3, M, s) :: ry) v n).1 (adv ((3, M, s) :: ry) v n).2) X := by
  obtain ⟨h1, h2⟩ := h
  rw [rem_keep hs hu, rem_cut hs' hv] at h1 h2
  rw [cmp_kc] at h1
  rw [nO_append, nI_append, nO_keeps, nI_cuts] at h2
  exact ⟨by rw [cu_nat, List.append_assoc]; exact h1, by omega⟩
theorem ext_len (hu : u + n ≤ t.size) : (t.extract u (u + n)).size = n := by
  have : (t.extract u (u + n)).data.toList.length = n := by
    rw [ByteArray.data_extract, Array.toList_extract, List.extract_eq_take_drop, List.length_take, List.length_drop]
    have : t.data.toList.length = t.size := rfl
    omega
  exact this
theorem cstep_pk (h : CI told (rem ((2, N, t) :: rx) u) (rem ((1, M, s) :: ry) v) X) (hs : Shape (2, N, t)) (hs' : Shape (1, M, s)) (hu : u + n ≤ t.size) (hv : v + n ≤ M.toNat) :
    CI (told ++ pu (t.extract u (u + n))) (rem (adv ((2, N, t) :: rx) u n).1 (adv ((2, N, t) :: rx) u n).2) (rem (adv ((1, M, s) :: ry) v n).1 (adv ((1, M, s) :: ry) v n).2) X := by
  obtain ⟨h1, h2⟩ := h
  rw [rem_put hs hu, rem_keep hs' hv] at h1 h2
  rw [nO_append, nI_append, nO_pu, nI_keeps, ext_len hu] at h2
  have e : (t.extract u (u + n)).data.toList.length = n := ext_len hu
  have e2 : List.replicate n (none : U) = List.replicate (t.extract u (u + n)).data.toList.length none := by rw [e]
  unfold pu at h1
  rw [e2, cmp_pk] at h1
  exact ⟨by rw [List.append_assoc]; exact h1, by omega⟩
theorem cstep_pc (h : CI told (rem ((2, N, t) :: rx) u) (rem ((3, M, s) :: ry) v) X) (hs : Shape (2, N, t)) (hs' : Shape (3, M, s)) (hu : u + n ≤ t.size) (hv : v + n ≤ M.toNat) :
    CI told (rem (adv ((2, N, t) :: rx) u n).1 (adv ((2, N, t) :: rx) u n).2) (rem (adv ((3, M, s) :: ry) v n).1 (adv ((3, M, s) :: ry) v n).2) X := by
  obtain ⟨h1, h2⟩ := h
  rw [rem_put hs hu, rem_cut hs' hv] at h1 h2
  rw [nO_append, nI_append, nO_pu, nI_cuts, ext_len hu] at h2
  have e : (t.extract u (u + n)).data.toList.length = n := ext_len hu
  have e2 : List.replicate n (some none : U) = List.replicate (t.extract u (u + n)).data.toList.length (some none) := by rw [e]
  unfold pu at h1
  rw [e2, cmp_pc] at h1
  exact ⟨h1, by omega⟩
theorem rem_nocut_keep (hs : Shape (1, N, t)) (hu : u < N.toNat) : ∀ r', rem ((1, N, t) :: r) u ≠ some none :: r' := by
  intro r' e
  rw [rem_keep (n := 1) hs (by omega)] at e
  simp at e
theorem rem_noput_keep (hs : Shape (1, N, t)) (hu : u < N.toNat) : ∀ c r', rem ((1, N, t) :: r) u ≠ some (some c) :: r' := by
  intro c r' e
  rw [rem_keep (n := 1) hs (by omega)] at e
  simp at e
theorem rem_noput_cut (hs : Shape (3, N, t)) (hu : u < N.toNat) : ∀ c r', rem ((3, N, t) :: r) u ≠ some (some c) :: r' := by
  intro c r' e
  rw [rem_cut (n := 1) hs (by omega)] at e
  simp at e
theorem rem_nocut_put (hs : Shape (2, N, t)) (hu : u < t.size) : ∀ r', rem ((2, N, t) :: r) u ≠ some none :: r' := by
  intro r' e
  rw [rem_put (n := 1) hs (by omega)] at e
  have hl : (pu (t.extract u (u + 1))).length = 1 := by rw [pu_len, ext_len (by omega)]
  obtain ⟨x, hx⟩ := List.length_eq_one_iff.1 hl
  have hm : x ∈ pu (t.extract u (u + 1)) := by rw [hx]; simp
  rw [hx] at e
  unfold pu at hm
  obtain ⟨b, _, rfl⟩ := List.mem_map.1 hm
  simp at e
theorem nI_rem_keep (hs : Shape (1, N, t)) (hu : u < N.toNat) : 1 ≤ nI (rem ((1, N, t) :: r) u) ∧ 1 ≤ nO (rem ((1, N, t) :: r) u) := by
  rw [rem_keep (n := 1) hs (by omega), nI_append, nO_append, nI_keeps, nO_keeps]; omega
theorem nI_rem_cut (hs : Shape (3, N, t)) (hu : u < N.toNat) : 1 ≤ nI (rem ((3, N, t) :: r) u) := by
  rw [rem_cut (n := 1) hs (by omega), nI_append, nI_cuts]; omega
theorem nO_rem_put (hs : Shape (2, N, t)) (hu : u < t.size) : 1 ≤ nO (rem ((2, N, t) :: r) u) := by
  rw [rem_put (n := 1) hs (by omega), nO_append, nO_pu, ext_len (by omega)]; omega
end
theorem CI.len {told xs ys X : List U} (h : CI told xs ys X) : told.length ≤ X.length := by
  rw [← h.1, List.length_append]; omega
theorem CI.fin {told X : List U} (h : CI told [] [] X) : told = X := by
  have := h.1
  simpa [cmp, lead] using this
theorem comp_chk {a b : List Pt} (h : compE a b = 0) : chk a = 0 ∧ chk b = 0 ∧ nO (units a) = nI (units b) ∧ compL a b = grp (cz (cmp (units a) (units b))) ∧ chk (compL a b) = 0 := by
  have e : compL a b = grp (cz (cmp (units a) (units b))) := by unfold compL; rw [if_pos h]
  unfold compE at h
  split at h
  · omega
  · split at h
    · omega
    · split at h
      · omega
      · rename_i h1 h2 h3
        have ha : chk a = 0 := by omega
        have hb : chk b = 0 := by omega
        have hn : nO (units a) = nI (units b) := by omega
        refine ⟨ha, hb, hn, e, ?_⟩
        rw [e]
        exact good_cz (by rw [nI_cmp _ _ hn]; exact (chk_parts ha).2.2.2.1) (by rw [nO_cmp _ _ hn]; exact (chk_parts hb).2.2.2.2.1)
theorem comp_units {a b : List Pt} (h : compE a b = 0) : units (compL a b) = cz (cmp (units a) (units b)) := by rw [(comp_chk h).2.2.2.1, units_grp]
theorem comp_err {a b : List Pt} (h : compE a b ≠ 0) : compL a b = [] := by unfold compL; rw [if_neg h]
theorem comp_zero {a b : List Pt} (ha : chk a = 0) (hb : chk b = 0) (hn : nO (units a) = nI (units b)) : compE a b = 0 := by
  unfold compE; rw [if_neg (by omega), if_neg (by omega), if_neg (by omega)]
theorem comp_sizes {a b : List Pt} (h : compE a b = 0) : nI (units (compL a b)) = nI (units a) ∧ nO (units (compL a b)) = nO (units b) := by
  rw [comp_units h, nI_cz, nO_cz, nI_cmp _ _ (comp_chk h).2.2.1, nO_cmp _ _ (comp_chk h).2.2.1]; exact ⟨rfl, rfl⟩
theorem comp_eq {a b a' b' : List Pt} (h : compE a b = 0) (h' : compE a' b' = 0) (he : cz (cmp (units a) (units b)) = cz (cmp (units a') (units b'))) : compL a b = compL a' b' := by
  rw [(comp_chk h).2.2.2.1, (comp_chk h').2.2.2.1, he]
theorem joins_left {a b c : List Pt} (h1 : compE a b = 0) (h2 : compE b c = 0) : compE (compL a b) c = 0 ∧ compE a (compL b c) = 0 ∧ compL (compL a b) c = compL a (compL b c) := by
  have q1 := comp_chk h1
  have q2 := comp_chk h2
  have e1 : compE (compL a b) c = 0 := comp_zero q1.2.2.2.2 q2.2.1 (by rw [(comp_sizes h1).2]; exact q2.2.2.1)
  have e2 : compE a (compL b c) = 0 := comp_zero q1.1 q2.2.2.2.2 (by rw [(comp_sizes h2).1]; exact q1.2.2.1)
  refine ⟨e1, e2, comp_eq e1 e2 ?_⟩
  rw [comp_units h1, comp_units h2]
  exact comp_assoc q1.2.2.1 q2.2.2.1
theorem all_left {a : List Pt} (h : chk a = 0) : compE (allL (nI (units a))) a = 0 ∧ compL (allL (nI (units a))) a = a := by
  have hn := (chk_parts h).2.2.2.1
  have e : compE (allL (nI (units a))) a = 0 := comp_zero (all_chk _ hn) h (by rw [all_units, nO_keeps])
  refine ⟨e, ?_⟩
  rw [(comp_chk e).2.2.2.1, all_units, comp_left rfl, grp_cz_good h]
theorem all_right {a : List Pt} (h : chk a = 0) : compE a (allL (nO (units a))) = 0 ∧ compL a (allL (nO (units a))) = a := by
  have hn := (chk_parts h).2.2.2.2.1
  have e : compE a (allL (nO (units a))) = 0 := comp_zero h (all_chk _ hn) (by rw [all_units, nI_keeps])
  refine ⟨e, ?_⟩
  rw [(comp_chk e).2.2.2.1, all_units, comp_right rfl, grp_cz_good h]
theorem put_all {s : ByteArray} (h1 : 1 ≤ s.size) (h : s.size ≤ 500) : compE [(2, 0, s)] (allL s.size) = 0 ∧ compL [(2, 0, s)] (allL s.size) = [(2, 0, s)] := by
  have := all_right (put_chk s h1 h)
  rwa [put_units, nO_pu] at this
end Go.Proofs.Ytfncpcmaplhojaa
