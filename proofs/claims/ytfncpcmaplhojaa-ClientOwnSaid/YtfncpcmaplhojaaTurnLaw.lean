/- What turn.Of says; plain lists, no program. -/
import Derived.Test.YtfncpcmaplhojaaApplyLaw
import Derived.Test.YtfncpcmaplhojaaCompLaw
namespace Go.Proofs.Ytfncpcmaplhojaa
set_option linter.unusedVariables false
set_option linter.unusedSimpArgs false

def turnL (d : List Pt) (s : ByteArray) : List Pt := if doE d s = 0 then grp (cz (tn (units d) s.data.toList)) else []
theorem turn_err {d : List Pt} {s : ByteArray} (h : doE d s ≠ 0) : turnL d s = [] := by unfold turnL; rw [if_neg h]
theorem turn_ok {d : List Pt} {s : ByteArray} (h : doE d s = 0) : turnL d s = grp (cz (tn (units d) s.data.toList)) ∧ chk (turnL d s) = 0 ∧ units (turnL d s) = cz (tn (units d) s.data.toList) ∧ nI (units (turnL d s)) = nO (units d) ∧ nO (units (turnL d s)) = nI (units d) := by
  have e : turnL d s = grp (cz (tn (units d) s.data.toList)) := by unfold turnL; rw [if_pos h]
  obtain ⟨hk, hn, _, h5⟩ := do_chk h
  have hp := chk_parts hk
  have hn' : nI (units d) = s.data.toList.length := hn
  have h1 := nI_tn (units d) s.data.toList hn'
  have h2 := nO_tn (units d) s.data.toList hn'
  have hu : units (turnL d s) = cz (tn (units d) s.data.toList) := by rw [e, units_grp]
  refine ⟨e, ?_, hu, by rw [hu, nI_cz, h1], by rw [hu, nO_cz, h2]⟩
  rw [e]
  exact good_cz (by rw [h1]; exact hp.2.2.2.2.1) (by rw [h2]; exact hp.2.2.2.1)
theorem tn_keeps : ∀ (s : List UInt8), tn (List.replicate s.length none) s = List.replicate s.length none
  | [] => rfl
  | x :: s => by rw [List.length_cons, List.replicate_succ]; simp only [tn]; rw [tn_keeps s]
theorem tn_cuts : ∀ (s : List UInt8), tn (List.replicate s.length (some none)) s = s.map (fun b => some (some b))
  | [] => rfl
  | x :: s => by rw [List.length_cons, List.replicate_succ]; simp only [tn, List.map_cons]; rw [tn_cuts s]
theorem tn_puts (t : List UInt8) (us : List U) (r : List UInt8) : tn (t.map (fun b => some (some b)) ++ us) r = List.replicate t.length (some none) ++ tn us r := by
  induction t with
  | nil => rfl
  | cons x t ih => simp only [List.map_cons, List.cons_append, tn, List.length_cons, List.replicate_succ]; rw [ih]
theorem tn_step_keep {N : Nat} {t : ByteArray} {l : List Pt} {told X : List U} {r : List UInt8} (h : told ++ tn (units ((1, (N : Int), t) :: l)) r = X) (hn : nI (units ((1, (N : Int), t) :: l)) = r.length) :
    (told ++ ku N) ++ tn (units l) (r.drop N) = X ∧ nI (units l) = (r.drop N).length ∧ N ≤ r.length := by
  have e : up ((1, (N : Int), t) : Pt) = List.replicate N none := by simp [up]
  rw [units_cons, e] at h hn
  rw [nI_append, nI_keeps] at hn
  have h3 : (r.take N).length = N := by rw [List.length_take]; omega
  have h4 := tn_append (List.replicate N none) (units l) (r.take N) (r.drop N) (by rw [nI_keeps, h3])
  rw [List.take_append_drop] at h4
  rw [h4] at h
  have h5 := tn_keeps (r.take N)
  rw [h3] at h5
  rw [h5] at h
  exact ⟨by rw [ku_nat, List.append_assoc]; exact h, by rw [List.length_drop]; omega, by omega⟩
theorem tn_step_cut {N : Nat} {t : ByteArray} {l : List Pt} {told X : List U} {r : List UInt8} (h : told ++ tn (units ((3, (N : Int), t) :: l)) r = X) (hn : nI (units ((3, (N : Int), t) :: l)) = r.length) :
    (told ++ (r.take N).map (fun b => some (some b))) ++ tn (units l) (r.drop N) = X ∧ nI (units l) = (r.drop N).length ∧ N ≤ r.length := by
  have e : up ((3, (N : Int), t) : Pt) = List.replicate N (some none) := by simp [up]
  rw [units_cons, e] at h hn
  rw [nI_append, nI_cuts] at hn
  have h3 : (r.take N).length = N := by rw [List.length_take]; omega
  have h4 := tn_append (List.replicate N (some none)) (units l) (r.take N) (r.drop N) (by rw [nI_cuts, h3])
  rw [List.take_append_drop] at h4
  rw [h4] at h
  have h5 := tn_cuts (r.take N)
  rw [h3] at h5
  rw [h5] at h
  exact ⟨by rw [List.append_assoc]; exact h, by rw [List.length_drop]; omega, by omega⟩
theorem tn_step_put {N : Int} {t : ByteArray} {l : List Pt} {told X : List U} {r : List UInt8} (h : told ++ tn (units ((2, N, t) :: l)) r = X) (hn : nI (units ((2, N, t) :: l)) = r.length) :
    (told ++ cu t.size) ++ tn (units l) r = X ∧ nI (units l) = r.length := by
  have e : up ((2, N, t) : Pt) = t.data.toList.map (fun b => some (some b)) := by simp [up]
  have h0 : nI (t.data.toList.map (fun b => (some (some b) : U))) = 0 := nI_pu t
  have h1 : t.data.toList.length = t.size := rfl
  rw [units_cons, e] at h hn
  rw [nI_append, h0] at hn
  rw [tn_puts, h1] at h
  exact ⟨by rw [cu_nat, List.append_assoc]; exact h, by omega⟩
/-- what is done and turned -/
theorem turn_do {d : List Pt} {s : ByteArray} (h : doE d s = 0) : doE (turnL d s) (doS d s) = 0 ∧ doS (turnL d s) (doS d s) = s ∧ turnL (turnL d s) (doS d s) = d := by
  obtain ⟨t1, t2, t3, t4, t5⟩ := turn_ok h
  obtain ⟨hk, hn, _, _⟩ := do_chk h
  have hl := do_list h
  have hn' : nI (units d) = s.data.toList.length := hn
  have e : doE (turnL d s) (doS d s) = 0 := do_zero t2 (by rw [t4, do_size h])
  have hs : (doS d s).data.toList.length = nO (units d) := by rw [← do_size h]; rfl
  refine ⟨e, ba_list ?_, ?_⟩
  · rw [do_list e, t3, hl, ap_cz id _ _ (by rw [nI_tn _ _ hn', ← hs, hl]), ap_tn _ _ hn']
  · rw [(turn_ok e).1, t3, hl, tn_twice _ _ hn', cz_good hk, grp_good hk]
/-- two as one, done -/
theorem comp_do {a b : List Pt} {s : ByteArray} (h1 : doE a s = 0) (h2 : doE b (doS a s) = 0) : compE a b = 0 ∧ doE (compL a b) s = 0 ∧ doS (compL a b) s = doS b (doS a s) := by
  obtain ⟨ka, na, _, _⟩ := do_chk h1
  obtain ⟨kb, nb, _, _⟩ := do_chk h2
  have hab : nO (units a) = nI (units b) := by rw [nb, do_size h1]
  have e := comp_zero ka kb hab
  have e2 : doE (compL a b) s = 0 := do_zero (comp_chk e).2.2.2.2 (by rw [(comp_sizes e).1, na])
  refine ⟨e, e2, ba_list ?_⟩
  have na' : nI (units a) = s.data.toList.length := na
  rw [do_list e2, do_list h2, do_list h1, comp_units e, ap_cz id _ _ (by rw [nI_cmp _ _ hab, na']), ap_cmp id _ _ hab _ na']
theorem turn_comp {a b : List Pt} {s : ByteArray} (h1 : doE a s = 0) (h2 : compE a b = 0) :
    doE (compL a b) s = 0 ∧ doE b (doS a s) = 0 ∧ compE (turnL b (doS a s)) (turnL a s) = 0 ∧ compL (turnL b (doS a s)) (turnL a s) = turnL (compL a b) s := by
  obtain ⟨ka, na, _, _⟩ := do_chk h1
  obtain ⟨_, kb, hab, _, kc⟩ := comp_chk h2
  have na' : nI (units a) = s.data.toList.length := na
  have e1 : doE (compL a b) s = 0 := do_zero kc (by rw [(comp_sizes h2).1, na])
  have e2 : doE b (doS a s) = 0 := do_zero kb (by rw [do_size h1, hab])
  have tb := turn_ok e2
  have ta := turn_ok h1
  have e3 : compE (turnL b (doS a s)) (turnL a s) = 0 := comp_zero tb.2.1 ta.2.1 (by rw [tb.2.2.2.2, ta.2.2.2.1, hab])
  refine ⟨e1, e2, e3, ?_⟩
  rw [(comp_chk e3).2.2.2.1, (turn_ok e1).1, tb.2.2.1, ta.2.2.1, comp_units h2, do_list h1, turn_parts hab _ na']
end Go.Proofs.Ytfncpcmaplhojaa
