/- Two deltas, one behind the other; plain lists, no program. -/
import Derived.Test.YtgocddkoancdiaaNormLaw
import Derived.Test.YtgocddkoancdiaaTurnLaw
namespace Go.Proofs.Ytgocddkoancdiaa
set_option linter.unusedVariables false
set_option linter.unusedSimpArgs false

theorem beside_units {a b : List Pt} (h : normE (a ++ b) = 0) : units (normL (a ++ b)) = cz (units a ++ units b) := by
  rw [(norm_chk h).2.1, units_grp, units_append]
theorem beside_do {a b : List Pt} {s t : ByteArray} (h1 : doE a s = 0) (h2 : doE b t = 0) (h : normE (a ++ b) = 0) :
    doE (normL (a ++ b)) (s ++ t) = 0 ∧ doS (normL (a ++ b)) (s ++ t) = doS a s ++ doS b t := by
  have hu := beside_units h
  have n1 := (do_chk h1).2.1
  have n2 := (do_chk h2).2.1
  have e : doE (normL (a ++ b)) (s ++ t) = 0 := do_zero (norm_chk h).1 (by rw [hu, nI_cz, nI_append, ByteArray.size_append]; omega)
  refine ⟨e, ba_list ?_⟩
  have n1' : nI (units a) = s.data.toList.length := n1
  have n2' : nI (units b) = t.data.toList.length := n2
  have ha : ∀ x y : ByteArray, (x ++ y).data.toList = x.data.toList ++ y.data.toList := fun x y => by rw [ByteArray.data_append, Array.toList_append]
  rw [do_list e, hu, ha, ha, do_list h1, do_list h2, ap_cz id _ _ (by rw [nI_append, List.length_append]; omega), ap_append id _ _ _ _ n1']
theorem beside_comp {a b c d : List Pt} (h1 : compE a b = 0) (h2 : compE c d = 0) (h3 : normE (a ++ c) = 0) (h4 : normE (b ++ d) = 0) (h5 : normE (compL a b ++ compL c d) = 0) :
    compE (normL (a ++ c)) (normL (b ++ d)) = 0 ∧ normL (compL a b ++ compL c d) = compL (normL (a ++ c)) (normL (b ++ d)) := by
  have q1 := comp_chk h1
  have q2 := comp_chk h2
  have u3 := beside_units h3
  have u4 := beside_units h4
  have e : compE (normL (a ++ c)) (normL (b ++ d)) = 0 := comp_zero (norm_chk h3).1 (norm_chk h4).1 (by rw [u3, u4, nO_cz, nI_cz, nO_append, nI_append]; have := q1.2.2.1; have := q2.2.2.1; omega)
  refine ⟨e, ?_⟩
  rw [(norm_chk h5).2.1, (comp_chk e).2.2.2.1, u3, u4, units_append, comp_units h1, comp_units h2, comp_beside q1.2.2.1 q2.2.2.1]
theorem len_good {l : List Pt} (h : chk l = 0) : l.length ≤ nI (units l) + nO (units l) := by
  have h1 : l.length ≤ (units l).length := by
    have hadd : ∀ (u : U) (l : List Pt), (addU u l).length ≤ l.length + 1 := by
      intro u l
      rcases u with _ | _ | x <;> rcases l with _ | ⟨p, l⟩ <;> simp only [addU] <;> (try split) <;> simp
    have hg : ∀ us : List U, (grp us).length ≤ us.length := by
      intro us
      induction us with
      | nil => exact Nat.le_refl _
      | cons u us ih => have := hadd u (grp us); simp only [grp, List.length_cons]; omega
    have := hg (units l)
    rwa [grp_good h] at this
  have := len_sizes (units l)
  omega
theorem norm_zero {l : List Pt} (h1 : l.length ≤ 1600) (h2 : ∀ p ∈ l, NOk p) (h3 : nI (units l) ≤ 500) (h4 : nO (units l) ≤ 500) : normE l = 0 := by
  unfold normE
  rw [if_neg (by omega), if_neg (by have := (nerr_zero l).2 h2; omega)]
  exact good_cz h3 h4
theorem nok_good {l : List Pt} (h : chk l = 0) : ∀ p ∈ l, NOk p := fun p hp => nok_of_fit ((chk_parts h).2.2.2.2.2 p hp)
theorem beside_turn {a b : List Pt} {s t : ByteArray} (h1 : doE a s = 0) (h2 : doE b t = 0) (h : normE (a ++ b) = 0) (h5 : s.size + t.size ≤ 500) :
    normE (turnL a s ++ turnL b t) = 0 ∧ doE (normL (a ++ b)) (s ++ t) = 0 ∧ normL (turnL a s ++ turnL b t) = turnL (normL (a ++ b)) (s ++ t) := by
  have hu := beside_units h
  have t1 := turn_ok h1
  have t2 := turn_ok h2
  have n1 := (do_chk h1).2.1
  have n2 := (do_chk h2).2.1
  have hc := chk_parts (norm_chk h).1
  rw [hu, nI_cz, nO_cz, nI_append, nO_append] at hc
  have l1 := len_good t1.2.1
  have l2 := len_good t2.2.1
  rw [t1.2.2.2.1, t1.2.2.2.2] at l1
  rw [t2.2.2.2.1, t2.2.2.2.2] at l2
  have hs := hc.2.2.2.2.1
  have e1 : normE (turnL a s ++ turnL b t) = 0 := norm_zero (by rw [List.length_append]; omega) (fun p hp => by
    rcases List.mem_append.1 hp with h | h
    · exact nok_good t1.2.1 p h
    · exact nok_good t2.2.1 p h) (by rw [units_append, nI_append, t1.2.2.2.1, t2.2.2.2.1]; omega) (by rw [units_append, nO_append, t1.2.2.2.2, t2.2.2.2.2]; omega)
  have e2 := (beside_do h1 h2 h).1
  refine ⟨e1, e2, ?_⟩
  have n1' : nI (units a) = s.data.toList.length := n1
  have n2' : nI (units b) = t.data.toList.length := n2
  have ha : (s ++ t).data.toList = s.data.toList ++ t.data.toList := by rw [ByteArray.data_append, Array.toList_append]
  rw [(norm_chk e1).2.1, units_append, t1.2.2.1, t2.2.2.1, turn_beside _ _ n1' n2', (turn_ok e2).1, hu, ha]
end Go.Proofs.Ytgocddkoancdiaa
