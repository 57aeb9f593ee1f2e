/- Edges of compositions; plain lists, no program. -/
import Derived.Test.YtgocddkoancdiaaTurnLaw
namespace Go.Proofs.Ytgocddkoancdiaa
set_option linter.unusedVariables false
set_option linter.unusedSimpArgs false

theorem chk_mk {l : List Pt} (h1 : l.length ≤ 1600) (h2 : Adj l) (h3 : ∀ p ∈ l, fitE p = 0) (h4 : szI l ≤ 500) (h5 : szO l ≤ 500) : chk l = 0 := by
  have h6 : chkL 0 l = 0 := (chkL_zero l 0).2 ⟨by
    rcases l with _ | ⟨p, l⟩
    · exact .inr rfl
    · left
      have := ((fitE_zero p).1 (h3 p (by simp))).1
      simp only [hk]
      rcases this with h | h <;> omega, by omega, h2, h3⟩
  unfold chk
  rw [if_neg (by omega), if_neg (by omega), if_neg (by omega)]
theorem fit_keep {n : Int} (h1 : 1 ≤ n) (h2 : n ≤ 500) : fitE (1, n, emp) = 0 := (fitE_zero _).2 ⟨.inl ⟨.inl rfl, h1, rfl⟩, h2, by simp only; decide⟩
theorem fit_cut {n : Int} (h1 : 1 ≤ n) (h2 : n ≤ 500) : fitE (3, n, emp) = 0 := (fitE_zero _).2 ⟨.inl ⟨.inr rfl, h1, rfl⟩, h2, by simp only; decide⟩
theorem fit_put {t : ByteArray} (h1 : 1 ≤ t.size) (h2 : t.size ≤ 500) : fitE (2, 0, t) = 0 := (fitE_zero _).2 ⟨.inr ⟨rfl, rfl, h1⟩, by simp only; omega, h2⟩
theorem units_keep1 (n : Nat) (t : ByteArray) : up (1, (n : Int), t) = List.replicate n none := by simp [up]
theorem units_cut1 (n : Nat) (t : ByteArray) : up (3, (n : Int), t) = List.replicate n (some none) := by simp [up]
theorem lead_pu (t : ByteArray) : lead (pu t) = pu t := by
  unfold pu
  induction t.data.toList with
  | nil => rfl
  | cons x l ih => simp only [List.map_cons, lead]; rw [ih]
theorem pu_ne (s : ByteArray) : ∀ r, pu s ≠ some none :: r := by
  intro r e
  unfold pu at e
  rcases h : s.data.toList with _ | ⟨x, l⟩ <;> rw [h] at e <;> simp at e
theorem edge1 (s t : ByteArray) (hs : 1 ≤ s.size) (ht : 1 ≤ t.size) (h : s.size + t.size ≤ 500) : compE [(2, 0, s)] [(1, (s.size : Int), emp), (2, 0, t)] = 0 ∧ compL [(2, 0, s)] [(1, (s.size : Int), emp), (2, 0, t)] = [(2, 0, s ++ t)] := by
  have hu : units [(1, (s.size : Int), emp), (2, 0, t)] = List.replicate s.size none ++ pu t := by rw [units_cons, units_keep1, put_units]
  have hk : chk [(1, (s.size : Int), emp), (2, 0, t)] = 0 := by
    refine chk_mk (by simp) ⟨by simp, by simp, trivial⟩ ?_ ?_ ?_
    · intro p hp
      simp only [List.mem_cons, List.not_mem_nil, or_false] at hp
      rcases hp with rfl | rfl
      · exact fit_keep (by omega) (by omega)
      · exact fit_put ht (by omega)
    · simp [szI]; omega
    · simp [szO]; omega
  have e := comp_zero (put_chk s hs (by omega)) hk (by rw [put_units, hu, nO_pu, nI_append, nI_keeps, nI_pu]; omega)
  refine ⟨e, ?_⟩
  have hst : (s ++ t).size = s.size + t.size := ByteArray.size_append ..
  rw [(comp_chk e).2.2.2.1, put_units, hu]
  have h1 : cmp (pu s) (List.replicate s.size none ++ pu t) = pu (s ++ t) := by
    have := cmp_pk s.data.toList [] (pu t)
    rw [List.append_nil] at this
    refine this.trans ?_
    rw [show cmp [] (pu t) = lead (pu t) from rfl, lead_pu, ba_app]
    rfl
  rw [h1, ← put_units]
  exact grp_cz_good (put_chk _ (by omega) (by omega))
theorem edge2 (s : ByteArray) (hs : 1 ≤ s.size) (h : s.size ≤ 500) : compE [(2, 0, s)] [(3, (s.size : Int), emp)] = 0 ∧ compL [(2, 0, s)] [(3, (s.size : Int), emp)] = [] := by
  have hu : units [(3, (s.size : Int), emp)] = List.replicate s.size (some none) := by rw [units_cons, units_cut1]; simp [units]
  have hk : chk [(3, (s.size : Int), emp)] = 0 := by
    refine chk_mk (by simp) trivial ?_ ?_ ?_
    · intro p hp
      simp only [List.mem_cons, List.not_mem_nil, or_false] at hp
      subst hp
      exact fit_cut (by omega) (by omega)
    · simp [szI]; omega
    · simp [szO]
  have e := comp_zero (put_chk s hs h) hk (by rw [put_units, hu, nO_pu, nI_cuts])
  refine ⟨e, ?_⟩
  rw [(comp_chk e).2.2.2.1, put_units, hu]
  have := cmp_pc s.data.toList [] []
  rw [List.append_nil, List.append_nil] at this
  have e2 : cmp (pu s) (List.replicate s.size (some none)) = [] := this
  rw [e2]; rfl
theorem edge3 (s t : ByteArray) (hs : 1 ≤ s.size) (ht : 1 ≤ t.size) (h : s.size + t.size ≤ 500) : compE [(2, 0, s)] [(2, 0, t), (3, (s.size : Int), emp)] = 0 ∧ compL [(2, 0, s)] [(2, 0, t), (3, (s.size : Int), emp)] = [(2, 0, t)] := by
  have hu : units [(2, 0, t), (3, (s.size : Int), emp)] = pu t ++ List.replicate s.size (some none) := by
    rw [units_cons, units_cons, units_cut1]; simp [units, up, pu]
  have hk : chk [(2, 0, t), (3, (s.size : Int), emp)] = 0 := by
    refine chk_mk (by simp) ⟨by simp, by simp, trivial⟩ ?_ ?_ ?_
    · intro p hp
      simp only [List.mem_cons, List.not_mem_nil, or_false] at hp
      rcases hp with rfl | rfl
      · exact fit_put ht (by omega)
      · exact fit_cut (by omega) (by omega)
    · simp [szI]; omega
    · simp [szO]; omega
  have e := comp_zero (put_chk s hs (by omega)) hk (by rw [put_units, hu, nO_pu, nI_append, nI_cuts, nI_pu]; omega)
  refine ⟨e, ?_⟩
  rw [(comp_chk e).2.2.2.1, put_units, hu]
  have h1 : cmp (pu s) (pu t ++ List.replicate s.size (some none)) = pu t := by
    have h2 := cmp_puts t.data.toList (pu s) (List.replicate s.size (some none)) (pu_ne s)
    refine h2.trans ?_
    have := cmp_pc s.data.toList [] []
    rw [List.append_nil, List.append_nil] at this
    have e2 : cmp (pu s) (List.replicate s.size (some none)) = [] := this
    rw [e2, List.append_nil]; rfl
  rw [h1, ← put_units]
  exact grp_cz_good (put_chk t ht (by omega))
theorem edge4 (n : Nat) (h1 : 1 ≤ n) (h : n ≤ 497) : compE [(3, (n : Int), emp), (1, 3, emp)] [(3, 3, emp)] = 0 ∧ compL [(3, (n : Int), emp), (1, 3, emp)] [(3, 3, emp)] = [(3, (n : Int) + 3, emp)] := by
  have hu : units [(3, (n : Int), emp), (1, 3, emp)] = List.replicate n (some none) ++ List.replicate 3 none := by
    rw [units_cons, units_cut1]; simp [units, up]
  have hv : units [(3, 3, emp)] = List.replicate 3 (some none) := by simp [units, up]
  have hk : chk [(3, (n : Int), emp), (1, 3, emp)] = 0 := by
    refine chk_mk (by simp) ⟨by simp, by simp, trivial⟩ ?_ ?_ ?_
    · intro p hp
      simp only [List.mem_cons, List.not_mem_nil, or_false] at hp
      rcases hp with rfl | rfl
      · exact fit_cut (by omega) (by omega)
      · exact fit_keep (by omega) (by omega)
    · simp [szI]; omega
    · simp [szO]
  have hkc : ∀ m : Nat, 1 ≤ m → m ≤ 500 → chk [(3, (m : Int), emp)] = 0 := fun m h1 h2 => by
    refine chk_mk (by simp) trivial ?_ ?_ ?_
    · intro p hp
      simp only [List.mem_cons, List.not_mem_nil, or_false] at hp
      subst hp
      exact fit_cut (by omega) (by omega)
    · simp [szI]; omega
    · simp [szO]
  have e := comp_zero hk (hkc 3 (by omega) (by omega)) (by rw [hu, show ((3 : Nat) : Int) = 3 from rfl, hv, nO_append, nO_cuts, nO_keeps, nI_cuts])
  refine ⟨e, ?_⟩
  rw [show ((3 : Nat) : Int) = 3 from rfl] at e
  rw [(comp_chk e).2.2.2.1, hu, hv, cmp_cuts]
  have e2 := cmp_kc 3 [] []
  rw [List.append_nil, List.append_nil] at e2
  rw [e2]
  have e3 : List.replicate n (some none) ++ (List.replicate 3 (some none) ++ cmp [] []) = units [(3, ((n + 3 : Nat) : Int), emp)] := by
    rw [units_cons, units_cut1, show cmp ([] : List U) [] = [] from rfl, List.append_nil, List.replicate_append_replicate]
    simp [units]
  rw [e3, grp_cz_good (hkc (n + 3) (by omega) (by omega))]
  rfl
end Go.Proofs.Ytgocddkoancdiaa
