/- Contracts of part.Maker's methods: Keep, Done. What part.Norm says; plain lists, no program. Contracts of part.Norm, part.Idle, scrivref.In. code.Read's contract, the result as a slice that is read. scrivkeep's helpers over room: spoil. Contracts of slices.Equal over parts, scrivref.Same, scrivref.In, scrivref.All, scrivkeep.All, scrivkeep.put. scrivkeep's helpers over room: roomy. scrivkeep's helpers over room: mark, filledUp. -/
import Derived.Test.YtmnnaemcjmiplaaK9
import Derived.Test.YtmnnaemcjmiplaaK5
import Derived.Test.YtmnnaemcjmiplaaK8
import Derived.Test.YtmnnaemcjmiplaaK3
import Derived.Deep.DeepAppendRoom
import Derived.Laws.AppendOwnNone
namespace Go.Proofs.Ytmnnaemcjmiplaa
open Go.ChangeShapes Go.WideShapes Go.RowKit
set_option linter.unusedVariables false
set_option linter.unusedSimpArgs false
set_option maxRecDepth 100000
set_option maxHeartbeats 4000000

theorem bump_snoc (n : Int) (l : List Pt) (p : Pt) : bump n (l ++ [p]) = if p.1 = 1 then l ++ [(1, p.2.1 + n, emp)] else l ++ [p] ++ [(1, n, emp)] := by
  induction l with
  | nil => simp only [List.nil_append, bump]; split <;> rfl
  | cons q l ih =>
    rcases hl : l ++ [p] with _ | ⟨x, r⟩
    · simp at hl
    · have e : bump n (q :: l ++ [p]) = q :: bump n (l ++ [p]) := by
        rw [List.cons_append, hl]; rfl
      rw [e, ih]
      split <;> simp
theorem pc_set (I : List Pt) (k m u : Int) (t : ByteArray) : (pc (I ++ [(k, m, t)])).set (I.length * 3 + 1) (.int .i64 u) = pc (I ++ [(k, u, t)]) := by
  rw [pc_append, pc_append, List.set_append_right _ _ (by rw [pc_len]; omega), pc_len, show I.length * 3 + 1 - I.length * 3 = 1 by omega]
  rfl
/-- the last part grows -/
theorem keep_last {w : World} {B g h cp : Nat} {I : List Pt} {m n : Int} {t : ByteArray} {P C : Value} (hb : Blk w g 129 #[.slice (some ⟨h, 0, none⟩) (I.length + 1) cp, P, C])
    (ho : OwnP w B (.slice (some ⟨h, 0, none⟩) (I.length + 1) cp) (I ++ [(1, m, t)])) (hgh : g ≠ h) :
    Blk (w.setCell ⟨h, I.length * 3 + 1, none⟩ (.int .i64 (m + n))) g 129 #[.slice (some ⟨h, 0, none⟩) (I.length + 1) cp, P, C] ∧
      OwnP (w.setCell ⟨h, I.length * 3 + 1, none⟩ (.int .i64 (m + n))) B (.slice (some ⟨h, 0, none⟩) (I.length + 1) cp) (I ++ [(1, m + n, t)]) ∧
      MFr w (w.setCell ⟨h, I.length * 3 + 1, none⟩ (.int .i64 (m + n))) g (some h) (some h) := by
  refine ⟨hb.far hgh _, ?_, ?_, .inl rfl⟩
  · unfold OwnP at ho ⊢
    rw [List.length_append, List.length_singleton] at ho ⊢
    have := (World.ownsRow.stored ho (I.length * 3 + 1) (.int .i64 (m + n))).1
    rwa [pc_set] at this
  · exact (Only.setSelf w h (I.length * 3 + 1) (.int .i64 (m + n))).mono fun k _ hk => .inr (by rw [hk])
theorem pend_none (p : ByteArray) (c : Int) (hp : p.size = 0) (hc : c ≤ 0) : pend p c = [] := by unfold pend; rw [if_pos hp, if_neg (by omega)]; rfl
theorem flush_any {B g : Nat} {ob : Option Nat} {us : List U} {o : List Pt} {p : ByteArray} {c : Int} {w : World} (h : MkS w B g ob o p c) (hr : MRep us o p c) (hl : us.length ≤ 99999999) (hB : B ≤ w.heap.size) :
    Calls Try.prog 114 #[.pointer (some ⟨g, 0, none⟩)] w fun e w' => e = .returned (.tuple #[]) ∧ FlP w B g ob (grp (cz us)) w' := by
  rw [← hr.flush]
  obtain ⟨v, hb, ho, hob⟩ := h
  obtain ⟨h1, _, h3, _, _, _⟩ := hr.bounds
  unfold pend
  rcases str_cases p with rfl | ⟨hp, hp1⟩
  · rw [if_pos (show (⟨#[]⟩ : ByteArray).size = 0 from rfl), List.nil_append]
    by_cases hc : 0 < c
    · rw [if_pos hc]
      exact flush_cut g v o B ob c w hb ho hob hc (by omega) hB
    · rw [if_neg hc, List.append_nil]
      exact flush_none g v o B ob c w hb ho hob (by omega)
  · rw [if_neg (by omega)]
    by_cases hc : 0 < c
    · rw [if_pos hc, ← List.append_assoc]
      exact flush_both g v o B ob p c w hb ho hob hc hp (by omega) hB
    · rw [if_neg hc, List.append_nil]
      exact flush_put g v o B ob p c w hb ho hob (by omega) hp (by omega) hB
theorem mdone_any {B g : Nat} {ob : Option Nat} {us : List U} {w : World} (h : Mk w B g ob us) (hl : us.length ≤ 99999999) (hB : B ≤ w.heap.size) :
    Calls Try.prog 80 #[.pointer (some ⟨g, 0, none⟩)] w fun e w' => ∃ v ob', e = .returned v ∧ OwnP w' B v (grp (cz us)) ∧ v.ownBlock = ob' ∧ MFr w w' g ob ob' := by
  obtain ⟨o, p, c, hs, hr⟩ := h
  have Hs := Lib.hid hs
  have Hr := Lib.hid hr
  clear hs hr
  go_enter Try.func80, Try.ntmps80
  go_wp2_with fail
  refine (flush_any Hs.out Hr.out hl hB).mono ?_
  rintro e w1 ⟨rfl, ob1, ⟨v, hb, ho, hob⟩, hfr⟩
  have c0 := hb.cell 0
  have hl1 := hb.lt
  have Hfin : Hid (∃ v_1 ob', Ending.returned v = .returned v_1 ∧ OwnP w1 B v_1 (grp (cz us)) ∧ v_1.ownBlock = ob' ∧ MFr w w1 g ob ob') := Lib.hid ⟨v, ob1, rfl, ho, hob, hfr⟩
  obtain ⟨A1, c1, hv⟩ := ho.form
  subst hv
  clear hb ho hob hfr
  go_wp2_with fail
  go_ret
  exact Hfin.out
theorem mkeep_zero {B g : Nat} {ob : Option Nat} {us : List U} {w : World} (h : Mk w B g ob us) :
    Calls Try.prog 77 #[.pointer (some ⟨g, 0, none⟩), .int .i64 0] w fun e w' => e = .returned (.tuple #[]) ∧ w = w' := by
  clear h
  go_enter Try.func77, Try.ntmps77
  go_wp2_with fail
  refine bodyPost_ret (results_none rfl _ _ _) rfl ?_
  exact ⟨rfl, rfl⟩
theorem mkeep_pos {B g : Nat} {ob : Option Nat} {us : List U} {w : World} (n : Int) (h : Mk w B g ob us) (hl : us.length ≤ 99999990) (hB : B ≤ w.heap.size) (hn : 0 < n) (hn2 : n ≤ 100000000) :
    Calls Try.prog 77 #[.pointer (some ⟨g, 0, none⟩), .int .i64 n] w fun e w' => e = .returned (.tuple #[]) ∧ ∃ ob', Mk w' B g ob' (us ++ ku n) ∧ MFr w w' g ob ob' := by
  obtain ⟨o, p, c, hs, hr⟩ := h
  have hk := hr.keep hn
  rw [hr.flush] at hk
  have Hk := Lib.hid hk
  have Hs := Lib.hid hs
  have Hr := Lib.hid hr
  have hne : (n == 0) = false := by simp; omega
  have hfine := fine_grp (cz us)
  have hbd := len_units (grp (cz us)) hfine
  rw [units_grp, len_cz] at hbd
  have Hlg := Lib.hid (len_grp (cz us))
  have Hlc := Lib.hid (len_cz us)
  have Hfine := Lib.hid hfine
  have Hbd := Lib.hid hbd
  clear hs hr hk hfine hbd
  go_enter Try.func77, Try.ntmps77
  go_wp2_with fail
  refine (flush_any Hs.out Hr.out (by omega) hB).mono ?_
  rintro e w1 ⟨rfl, ob1, ⟨v, hb, ho, hob⟩, hfr⟩
  have hB1 : B ≤ w1.heap.size := by have := hfr.1.2.2.2.1; omega
  generalize hO : grp (cz us) = O at *
  have hlenO : O.length ≤ 99999990 := by have := Hlg.out; have := Hlc.out; omega
  clear hO
  have Hfr := Lib.hid hfr
  have Hob := Lib.hid hob
  have c0 := hb.cell 0
  have f0 := hb.frozen 0
  have c1 := hb.cell 1
  have c2 := hb.cell 2
  have hl1 := hb.lt
  have Hne := Lib.hid (Ne.symm (own_blk_ne (t := 129) ho hb (by decide)))
  have Hb := Lib.hid hb
  have Ho := Lib.hid ho
  clear hb hob hfr
  rcases List.eq_nil_or_concat O with rfl | ⟨I, l, rfl⟩
  · obtain ⟨A, cp, hv⟩ := ho.form_ (n := 0) rfl
    subst hv
    clear ho
    have hbn : Hid (bump n [] = [] ++ [(1, n, emp)]) := Lib.hid rfl
    go_wp2_with (first | (at_builtin; refine wpList_app_part _ rfl (.tmp 44) (.tmp 47) rfl B _ [] rfl Ho.out 1 n ⟨#[]⟩ 1 rfl (by simp) hB1 ?_; intro v2 w2 g1 g2 g3 g4; obtain ⟨A2, c2', rfl⟩ := g1.form_ (n := 1) rfl; have hb1 := Blk.grown Hb.out g3 Hne.out; have d0 := hb1.cell 0; have d1 := hb1.cell 1; have d2 := hb1.cell 2; have e0 := hb1.frozen 0; have e1 := hb1.frozen 1; have e2 := hb1.frozen 2; have l1 := hb1.lt))
    go_end0
    have Hf := fl_app Hb.out Ho.out Hob.out g1 g3 g4
    exact ⟨rfl, _, ⟨_, _, _, ⟨_, Hf.1, Hf.2.1, rfl⟩, by have := Hk.out; rw [hbn.out] at this; exact this⟩, Hfr.out.trans Hf.2.2⟩
  · rw [List.concat_eq_append] at *
    have hpc : pc (I ++ [l]) ≠ [] := by rw [pc_append]; simp [pc, pcells]
    obtain ⟨h, cp, hv0, hnc, hcm⟩ := own_nil ho hpc
    have hv := hv0
    rw [List.length_append, List.length_singleton] at hv hlenO
    subst hv
    have hcell := fun j hj => World.ownsRow.cellAt (show w1.ownsRow B 81 3 (.slice (some ⟨h, 0, none⟩) (I.length + 1) cp) (I.length + 1) (pc (I ++ [l])) from by have := ho; unfold OwnP at this; rwa [List.length_append, List.length_singleton] at this) j hj
    have hlast : (I ++ [l])[I.length]'(by simp) = l := by simp
    obtain ⟨p0, p1, p2⟩ := pc_at (I ++ [l]) I.length (by simp)
    rw [hlast] at p0 p1 p2
    have hc0 := (hcell (I.length * 3) (by omega)).trans p0
    have hc1 := (hcell (I.length * 3 + 1) (by omega)).trans p1
    have hfz : w1.frozen? ⟨h, I.length * 3 + 1, none⟩ = false := World.ownsRow.frozenAt (show w1.ownsRow B 81 3 (.slice (some ⟨h, 0, none⟩) (I.length + 1) cp) (I.length + 1) (pc (I ++ [l])) from by have := ho; unfold OwnP at this; rwa [List.length_append, List.length_singleton] at this) _
    have hsh := Hfine.out l (by simp)
    have hbl := Hbd.out l (by simp)
    have hlt := own_lt ho h rfl
    obtain ⟨kd, m, t⟩ := l
    simp only at hc0 hc1
    have hI0 : (0 : Int) ≤ (I.length : Int) := by omega
    have hgh : g ≠ h := fun e => Hne.out (by rw [e]; rfl)
    have Hbs := Lib.hid (bump_snoc n I (kd, m, t))
    clear hcell p0 p1 p2 hlast hpc hv0
    by_cases hkd : kd = 1
    · subst hkd
      have hm : 1 ≤ m ∧ m ≤ us.length ∧ t = emp := by
        rcases hsh with ⟨_, h2, h3⟩ | ⟨h2, _, _⟩
        · simp only [lenP] at hbl h2 h3
          simp at hbl
          exact ⟨h2, by omega, h3⟩
        · simp at h2
      obtain ⟨hm1, hm2, rfl⟩ := hm
      have hm3 : m ≤ 99999990 := by omega
      clear hsh hbl ho hm2
      go_wp2_with fail
      refine bodyPost_ret (results_none rfl _ _ _) rfl ?_
      have hK := keep_last (n := n) Hb.out Ho.out hgh
      have hob : ob1 = some h := by rw [← Hob.out]; rfl
      subst hob
      refine ⟨rfl, some h, ⟨_, _, _, ⟨_, hK.1, hK.2.1, rfl⟩, ?_⟩, Hfr.out.trans hK.2.2⟩
      have h1 := Hk.out
      have h2 := Hbs.out
      rw [if_pos trivial] at h2
      rw [h2] at h1
      exact h1
    · have hkd' : (kd == 1) = false := by simpa using hkd
      have hlb : (I ++ [((kd, m, t) : Pt)]).length ≤ 100000000 := by rw [List.length_append, List.length_singleton]; omega
      have Hkd := Lib.hid hkd
      clear hsh hbl ho hkd
      go_wp2_with (first | (at_builtin; refine wpList_app_part _ rfl (.tmp 44) (.tmp 47) rfl B _ (I ++ [((kd, m, t) : Pt)]) rfl Ho.out 1 n ⟨#[]⟩ 1 rfl hlb hB1 ?_; intro v2 w2 g1 g2 g3 g4; obtain ⟨A2, c2', rfl⟩ := g1.form_ (n := I.length + 2) (by simp); have hb1 := Blk.grown Hb.out g3 Hne.out; have d0 := hb1.cell 0; have d1 := hb1.cell 1; have d2 := hb1.cell 2; have e0 := hb1.frozen 0; have e1 := hb1.frozen 1; have e2 := hb1.frozen 2; have l1 := hb1.lt))
      go_end0
      have Hf := fl_app Hb.out Ho.out Hob.out g1 g3 g4
      refine ⟨rfl, _, ⟨_, _, _, ⟨_, Hf.1, Hf.2.1, rfl⟩, ?_⟩, Hfr.out.trans Hf.2.2⟩
      have h1 := Hk.out
      rw [Hbs.out, if_neg Hkd.out] at h1
      exact h1
theorem mkeep_any {B g : Nat} {ob : Option Nat} {us : List U} {w : World} (n : Int) (h : Mk w B g ob us) (hl : us.length ≤ 99999990) (hB : B ≤ w.heap.size) (hn : 0 ≤ n) (hn2 : n ≤ 100000000) :
    Calls Try.prog 77 #[.pointer (some ⟨g, 0, none⟩), .int .i64 n] w fun e w' => e = .returned (.tuple #[]) ∧ ∃ ob', Mk w' B g ob' (us ++ ku n) ∧ MFr w w' g ob ob' := by
  rcases (show n = 0 ∨ 0 < n by omega) with rfl | h0
  · refine (mkeep_zero h).mono ?_
    rintro e w' ⟨rfl, rfl⟩
    exact ⟨rfl, ob, by simpa [ku] using h, MFr.refl _ _ _⟩
  · exact mkeep_pos n h hl hB h0 hn2
end Go.Proofs.Ytmnnaemcjmiplaa
namespace Go.Proofs.Ytmnnaemcjmiplaa
set_option linter.unusedVariables false
set_option linter.unusedSimpArgs false

def nerr1 (p : Pt) : Int := if p.1 < 1 ∨ 3 < p.1 ∨ p.2.1 < 0 ∨ (p.1 = 2 ∧ 0 < p.2.1) ∨ (p.1 ≠ 2 ∧ p.2.2.size ≠ 0) then 3 else if 500 < p.2.1 ∨ 500 < p.2.2.size then 2 else 0
def nerr : List Pt → Int
  | [] => 0
  | p :: l => if nerr1 p ≠ 0 then nerr1 p else nerr l
def normE (l : List Pt) : Int := if 1600 < l.length then 2 else if nerr l ≠ 0 then nerr l else chk (grp (cz (units l)))
def normL (l : List Pt) : List Pt := if normE l = 0 then grp (cz (units l)) else []
def NOk (p : Pt) : Prop := ((p.1 = 1 ∨ p.1 = 3) ∧ 0 ≤ p.2.1 ∧ p.2.1 ≤ 500 ∧ p.2.2 = emp) ∨ (p.1 = 2 ∧ p.2.1 = 0 ∧ p.2.2.size ≤ 500)
theorem nerr1_big {kd m : Int} (hk : kd = 1 ∨ kd = 3) (h : 500 < m) : nerr1 (kd, m, emp) = 2 := by
  have hz : emp.size = 0 := rfl
  unfold nerr1
  simp only
  rw [if_neg (by omega), if_pos (.inl h)]
theorem nerr1_zero (p : Pt) : nerr1 p = 0 ↔ NOk p := by
  unfold nerr1 NOk
  constructor
  · intro h
    split at h
    · omega
    · split at h
      · omega
      · rename_i h1 h2
        by_cases hk : p.1 = 2
        · exact .inr ⟨hk, by omega, by omega⟩
        · exact .inl ⟨by omega, by omega, by omega, emp_of_size (by omega)⟩
  · intro h
    rcases h with ⟨h1, h2, h3, h4⟩ | ⟨h1, h2, h3⟩
    · have : p.2.2.size = 0 := by rw [h4]; rfl
      rw [if_neg (by omega), if_neg (by omega)]
    · rw [if_neg (by omega), if_neg (by omega)]
theorem nerr_zero : ∀ l : List Pt, nerr l = 0 ↔ ∀ p ∈ l, NOk p
  | [] => by simp [nerr]
  | p :: l => by
    have h1 := nerr1_zero p
    have h2 := nerr_zero l
    simp only [nerr, List.mem_cons, forall_eq_or_imp]
    rw [← h1, ← h2]
    by_cases h : nerr1 p = 0
    · simp [h]
    · simp [h]
theorem nok_of_fit {p : Pt} (h : fitE p = 0) : NOk p := by
  obtain ⟨h1, h2, h3⟩ := (fitE_zero p).1 h
  rcases h1 with ⟨h1, h4, h5⟩ | ⟨h1, h4, h5⟩
  · exact .inl ⟨h1, by omega, h2, h5⟩
  · exact .inr ⟨h1, h4, h3⟩
theorem norm_good {l : List Pt} (h : chk l = 0) : normE l = 0 ∧ normL l = l := by
  have hp := chk_parts h
  have h1 : nerr l = 0 := (nerr_zero l).2 fun p hp' => nok_of_fit (hp.2.2.2.2.2 p hp')
  have h2 := grp_cz_good h
  have h3 : normE l = 0 := by
    unfold normE
    rw [if_neg (by omega), if_neg (by omega), h2, h]
  refine ⟨h3, ?_⟩
  unfold normL
  rw [if_pos h3, h2]
theorem norm_chk {l : List Pt} (h : normE l = 0) : chk (normL l) = 0 ∧ normL l = grp (cz (units l)) ∧ (∀ p ∈ l, NOk p) ∧ l.length ≤ 1600 := by
  have e : normL l = grp (cz (units l)) := by unfold normL; rw [if_pos h]
  unfold normE at h
  split at h
  · omega
  · split at h
    · omega
    · rename_i h1 h2
      rw [e]
      exact ⟨h, rfl, (nerr_zero l).1 (by omega), by omega⟩
theorem norm_again {l : List Pt} (h : normE l = 0) : normE (normL l) = 0 ∧ normL (normL l) = normL l := norm_good (norm_chk h).1
theorem norm_err {l : List Pt} (h : normE l ≠ 0) : normL l = [] := by unfold normL; rw [if_neg h]
/-- all that is in a list of parts -/
def szN : List Pt → Int
  | [] => 0
  | p :: l => p.2.1 + szN l
theorem nI_nok (p : Pt) (h : NOk p) : (nI (up p) : Int) = p.2.1 := by
  obtain ⟨k, n, t⟩ := p
  rcases h with ⟨h1 | h1, h2, h3, h4⟩ | ⟨h1, h2, h3⟩
  · simp only at h1 h2; subst h1
    simp only [up, if_true]
    rw [nI_keeps]; omega
  · simp only at h1 h2; subst h1
    rw [show up ((3, n, t) : Pt) = List.replicate n.toNat (some none) from rfl, nI_cuts]; simp only; omega
  · simp only at h1 h2; subst h1; subst h2
    have := nI_pu t
    rw [show up ((2, 0, t) : Pt) = pu t from rfl, this]; rfl
theorem nI_noks : ∀ l : List Pt, (∀ p ∈ l, NOk p) → (nI (units l) : Int) = szN l
  | [], _ => rfl
  | p :: l, h => by
    have h1 := nI_nok p (h p (by simp))
    have h2 := nI_noks l fun q hq => h q (by simp [hq])
    rw [units_cons, nI_append]
    simp only [szN]
    omega
theorem nO_nok (p : Pt) (h : NOk p) : (nO (up p) : Int) ≤ 500 := by
  obtain ⟨k, n, t⟩ := p
  rcases h with ⟨h1 | h1, h2, h3, h4⟩ | ⟨h1, h2, h3⟩
  · simp only at h1 h2 h3; subst h1
    simp only [up, if_true]
    rw [nO_keeps]; omega
  · simp only at h1 h2; subst h1
    rw [show up ((3, n, t) : Pt) = List.replicate n.toNat (some none) from rfl, nO_cuts]; simp
  · simp only at h1 h2 h3; subst h1; subst h2
    have := nO_pu t
    rw [show up ((2, 0, t) : Pt) = pu t from rfl, this]; omega
theorem len_nok (p : Pt) (h : NOk p) : (up p).length ≤ 500 := by
  obtain ⟨k, n, t⟩ := p
  rcases h with ⟨h1 | h1, h2, h3, h4⟩ | ⟨h1, h2, h3⟩
  · simp only at h1 h2 h3; subst h1
    simp only [up, if_true, List.length_replicate]; omega
  · simp only at h1 h2 h3; subst h1
    rw [show up ((3, n, t) : Pt) = List.replicate n.toNat (some none) from rfl, List.length_replicate]; omega
  · simp only at h1 h2 h3; subst h1; subst h2
    rw [show up ((2, 0, t) : Pt) = pu t from rfl]
    unfold pu
    rw [List.length_map]; exact h3
theorem len_noks : ∀ l : List Pt, (∀ p ∈ l, NOk p) → (units l).length ≤ 500 * l.length
  | [], _ => Nat.le_refl _
  | p :: l, h => by
    have h1 := len_nok p (h p (by simp))
    have h2 := len_noks l fun q hq => h q (by simp [hq])
    rw [units_cons, List.length_append, List.length_cons]; omega
theorem nI_le_len : ∀ us : List U, nI us ≤ us.length ∧ nO us ≤ us.length
  | [] => ⟨Nat.le_refl _, Nat.le_refl _⟩
  | none :: us => by have := nI_le_len us; simp only [List.length_cons, nI, nO]; omega
  | some none :: us => by have := nI_le_len us; simp only [List.length_cons, nI, nO]; omega
  | some (some b) :: us => by have := nI_le_len us; simp only [List.length_cons, nI, nO]; omega
theorem text_le {l : List Pt} (h : Fine l) : ∀ p ∈ l, p.2.2.size ≤ (units l).length := by
  intro p hp
  have h1 := lenP_sizes l h p hp
  have h2 := (nI_le_len (units l)).2
  rcases h p hp with ⟨_, _, h3⟩ | ⟨h3, _, _⟩
  · rw [h3]; exact Nat.zero_le _
  · have := h1.2 h3; omega
theorem text_good {l : List Pt} (h : chk l = 0) : ∀ p ∈ l, p.2.2.size ≤ 140737488351232 := fun p hp => by
  have := ((fitE_zero p).1 ((chk_parts h).2.2.2.2.2 p hp)).2.2
  omega
theorem chkL_fine : ∀ (d : List Pt) (last : Int), (hk d ≠ last ∨ d = []) → ¬ (last = 3 ∧ hk d = 2) → Adj d → Fine d → chkL last d = 0 ∨ chkL last d = 2
  | [], _, _, _, _, _ => .inl rfl
  | p :: l, last, h1, h2, ha, hf => by
    have h1' : p.1 ≠ last := by rcases h1 with h | h; exact h; simp at h
    have h2' : ¬ (last = 3 ∧ p.1 = 2) := h2
    have hp := fitE_large p (hf p (by simp))
    simp only [chkL]
    rw [if_neg (by rintro (h | h); exact h1' h; exact h2' h)]
    rcases hp with hp | hp
    · rw [if_neg (by simp [hp])]
      refine chkL_fine l p.1 ?_ ?_ ?_ fun q hq => hf q (by simp [hq])
      · rcases l with _ | ⟨q, l⟩
        · exact .inr rfl
        · exact .inl fun e => ha.1 e.symm
      · rcases l with _ | ⟨q, l⟩
        · simp [hk]
        · exact ha.2.1
      · rcases l with _ | ⟨q, l⟩
        · trivial
        · exact ha.2.2
    · rw [if_pos (by simp [hp])]; exact .inr hp
theorem chk_unfit {us : List U} (hc : Cn us) {p : Pt} (hp : p ∈ grp us) (hf : fitE p ≠ 0) : chk (grp us) = 2 := by
  have h1 := chkL_fine (grp us) 0 (by
    rcases us with _ | ⟨u, us⟩
    · exact .inr rfl
    · left
      rw [hk_grp]
      rcases u with _ | _ | b <;> simp [kU, one]) (by omega) (adj_grp us hc) (fine_grp us)
  have h2 : chkL 0 (grp us) ≠ 0 := fun h => hf (((chkL_zero _ 0).1 h).2.2.2 p hp)
  unfold chk
  split
  · rfl
  · omega
theorem nerr_append (a b : List Pt) (h : nerr a = 0) : nerr (a ++ b) = nerr b := by
  induction a with
  | nil => rfl
  | cons p a ih =>
    simp only [nerr] at h
    have h0 : nerr1 p = 0 := by
      by_cases h0 : nerr1 p = 0
      · exact h0
      · rw [if_pos h0] at h; exact absurd h h0
    rw [if_neg (by simp [h0])] at h
    simp only [List.cons_append, nerr]
    rw [if_neg (by simp [h0]), ih h]
end Go.Proofs.Ytmnnaemcjmiplaa
namespace Go.Proofs.Ytmnnaemcjmiplaa
open Go.ChangeShapes Go.WideShapes Go.RowKit
set_option linter.unusedVariables false
set_option linter.unusedSimpArgs false
set_option maxRecDepth 100000
set_option maxHeartbeats 4000000

section
variable {w w' : World} {B g : Nat} {ob ob' : Option Nat} {us : List U} {S : Nat → Prop}
theorem Mk.alloc (h : Mk w B g ob us) (o : Obj) : Mk (w.alloc o) B g ob us := by
  obtain ⟨o', p, c, ⟨v, h1, h2, h3⟩, h4⟩ := h
  exact ⟨o', p, c, ⟨v, h1.alloc o, World.ownsRow.alloc h2 o, h3⟩, h4⟩
theorem Mk.ge (h : Mk w B g ob us) : ∀ k, ob = some k → B ≤ k ∧ k < w.heap.size ∧ k ≠ g := by
  obtain ⟨o', p, c, ⟨v, h1, h2, h3⟩, h4⟩ := h
  intro k hk
  rw [← h3] at hk
  refine ⟨own_ge h2 k hk, own_lt h2 k hk, fun e => ?_⟩
  subst e
  exact own_blk_ne (t := 129) h2 h1 (by decide) hk
theorem Mk.lt (h : Mk w B g ob us) : g < w.heap.size := by
  obtain ⟨o', p, c, ⟨v, h1, h2, h3⟩, h4⟩ := h
  exact h1.lt
theorem Mk.only (h : Mk w B g ob us) (ho : Only w w' S) (h1 : ¬ S g) (h2 : ∀ k, ob = some k → ¬ S k) : Mk w' B g ob us := by
  obtain ⟨o', p, c, ⟨v, h3, h4, h5⟩, h6⟩ := h
  exact ⟨o', p, c, ⟨v, h3.only ho h1, own_only h4 ho fun k hk => h2 k (by rw [← h5]; exact hk), h5⟩, h6⟩
theorem MFr.below_ (h : MFr w w' g ob ob') (hB : B ≤ w.heap.size) (hg : B ≤ g) (ho : ∀ k, ob = some k → B ≤ k) : Below B w w' := h.1.below hB fun k hk => by
  rcases hk with rfl | hk
  · exact hg
  · exact ho k hk
theorem Mk.fresh (w : World) (o : Obj) : Mk (w.alloc (.cells #[.slice none 0 0, .string ⟨#[]⟩, .int .i64 0] 129)) w.heap.size w.heap.size none [] :=
  ⟨[], emp, 0, ⟨_, Blk.new w _ _, OwnP.nil _ _, rfl⟩, MRep.new⟩
end
/-- the result of a call that makes a delta or tells an error -/
def ResP (w w' : World) (e : Ending) (er : Int) (l : List Pt) : Prop := ∃ v, e = .returned (.tuple #[v, .int .i64 er]) ∧ OwnP w' w.heap.size v l ∧ Below w.heap.size w w'
theorem ResP.err (w : World) {w' : World} (er : Int) (hb : Below w.heap.size w w') : ResP w w' (.returned (.tuple #[.slice none 0 0, .int .i64 er])) er [] := ⟨_, rfl, OwnP.nil _ _, hb⟩
theorem ResP.rd {w w' : World} {e : Ending} {er : Int} {l : List Pt} (h : ResP w w' e er l) (ht : ∀ p ∈ l, p.2.2.size ≤ 140737488351232) :
    ∃ A c, e = .returned (.tuple #[.slice A l.length c, .int .i64 er]) ∧ RdP w' w'.heap.size A l.length c l ∧ Below w.heap.size w w' := by
  obtain ⟨v, rfl, ho, hb⟩ := h
  obtain ⟨A, c, rfl, hr⟩ := ho.rd ht
  exact ⟨A, c, rfl, hr, hb⟩
/-- how a part may be wrong -/
inductive PC (kd m : Int) (t : ByteArray) : Prop
  | lo (h : kd < 1) | hi (h : 3 < kd)
  | neg (k : kd = 1 ∨ kd = 2 ∨ kd = 3) (h : m < 0)
  | num (k : kd = 2) (h : 0 < m)
  | txt (k : kd = 1 ∨ kd = 3) (h : 0 ≤ m) (ht : t.toList.isEmpty = false) (h1 : 1 ≤ (t.size : Int))
  | big (k : kd = 1 ∨ kd = 3) (h : 500 < m) (ht : t = ⟨#[]⟩)
  | bigt (k : kd = 2) (h : m = 0) (ht : 500 < (t.size : Int))
  | keep (k : kd = 1) (h : 0 ≤ m) (h5 : m ≤ 500) (ht : t = ⟨#[]⟩)
  | cut (k : kd = 3) (h : 0 ≤ m) (h5 : m ≤ 500) (ht : t = ⟨#[]⟩)
  | put (k : kd = 2) (h : m = 0) (ht : (t.size : Int) ≤ 500)
theorem pc_any (kd m : Int) (t : ByteArray) : PC kd m t := by
  by_cases h1 : kd < 1
  · exact .lo h1
  by_cases h3 : 3 < kd
  · exact .hi h3
  by_cases hm : m < 0
  · exact .neg (by omega) hm
  by_cases h2 : kd = 2
  · by_cases h0 : 0 < m
    · exact .num h2 h0
    · by_cases ht : 500 < t.size
      · exact .bigt h2 (by omega) (by omega)
      · exact .put h2 (by omega) (by omega)
  · rcases str_cases t with ht | ⟨ht, ht1⟩
    · by_cases h5 : 500 < m
      · exact .big (by omega) h5 ht
      · rcases (show kd = 1 ∨ kd = 3 by omega) with hk | hk
        · exact .keep hk (by omega) (by omega) ht
        · exact .cut hk (by omega) (by omega) ht
    · exact .txt (by omega) (by omega) ht ht1
theorem norm_step (l : List Pt) (k : Nat) (h : k < l.length) (hz : nerr (l.take k) = 0) : nerr1 l[k] ≠ 0 → nerr l = nerr1 l[k] := by
  intro hne
  have e : l = l.take k ++ (l[k] :: l.drop (k + 1)) := by
    rw [← List.drop_eq_getElem_cons h, List.take_append_drop]
  have h2 : nerr l = nerr (l[k] :: l.drop (k + 1)) := by
    conv => lhs; rw [e]
    exact nerr_append _ _ hz
  rw [h2]
  simp only [nerr]
  rw [if_pos hne]
theorem texts_norm (l : List Pt) : ∀ p ∈ normL l, p.2.2.size ≤ 140737488351232 := by
  by_cases h : normE l = 0
  · exact text_good (norm_chk h).1
  · rw [norm_err h]; simp
end Go.Proofs.Ytmnnaemcjmiplaa
namespace Go.Proofs.Ytmnnaemcjmiplaa
open Go.ChangeShapes Go.WideShapes Go.RowKit
set_option linter.unusedVariables false
set_option linter.unusedSimpArgs false
set_option maxRecDepth 100000
set_option maxHeartbeats 4000000

theorem readL_small (s : List UInt8) : ∀ p ∈ readL s, p.2.2.size ≤ 140737488351232 := by
  intro p hp
  by_cases h : readE s = 0
  · have hk := (read_one h).1
    have hf := (chk_parts hk).2.2.2.2.2 p hp
    rcases fit_bounds p hf with ⟨_, _, _, h4⟩ | ⟨_, _, _, h4⟩
    · rw [h4]; decide
    · omega
  · unfold readL at hp
    rw [if_neg h] at hp
    cases hp
theorem cread_rd (s : ByteArray) (w : World) (hs : s.size ≤ 140737488351232) :
    Calls Try.prog 60 #[.string s] w fun e w' => ∃ A c, e = .returned (.tuple #[.slice A (readL s.data.toList).length c, .int .i64 (readE s.data.toList)]) ∧ RdP w' w'.heap.size A (readL s.data.toList).length c (readL s.data.toList) ∧ Below w.heap.size w w' := by
  refine (cread_any s w hs).mono ?_
  rintro e w1 h
  exact ResP.rd h (readL_small _)
end Go.Proofs.Ytmnnaemcjmiplaa
namespace Go.Proofs.Ytmnnaemcjmiplaa
open Go.ChangeShapes Go.WideShapes Go.RowKit
set_option linter.unusedVariables false
set_option linter.unusedSimpArgs false
set_option maxRecDepth 100000
set_option maxHeartbeats 4000000

theorem spoil_any (p : Pt) (g n cap : Nat) (cur : Array Value) (w : World) (hb : Blk w g 81 cur) (hs : cur.size = cap * 3) (hn : n ≤ cap) (hc : cap ≤ maxLen) :
    Calls Try.prog 52 #[.slice (some ⟨g, 0, none⟩) n cap, pval p] w fun e w' => e = .returned (.tuple #[]) ∧ Only w w' (fun k => k = g) := by
  obtain ⟨kd, m, t⟩ := p
  have hcap : (cap : Int) ≤ 9223372036854775807 := by unfold maxLen at hc; omega
  have hnc : (n : Int) ≤ (cap : Int) := by omega
  have h0 : (0 : Int) ≤ (cap : Int) := by omega
  have Hs := Lib.hid hs
  have Hb := Lib.hid hb
  have hlt := hb.lt
  clear hs hb
  unfold pval
  go_enter Try.func52, Try.ntmps52
  go_wp2_with fail
  have Hx := Lib.hid (Blk.new w 81 #[.int .i64 kd, .int .i64 m, .string t])
  have Hg := Lib.hid (Hb.out.alloc (.cells #[.int .i64 kd, .int .i64 m, .string t] 81))
  have Ho := Lib.hid (Only.alloc (S := fun k => k = g) w (.cells #[.int .i64 kd, .int .i64 m, .string t] 81))
  generalize w.alloc (.cells #[.int .i64 kd, .int .i64 m, .string t] 81) = W at *
  obtain ⟨x, hx⟩ : ∃ x, w.heap.size = x := ⟨_, rfl⟩
  rw [hx] at Hx hlt ⊢
  go_loopw [4, 11] (fun uv iv wr => ∃ (k : Nat) (cs : Array Value), k ≤ cap ∧ iv = .int .i64 k ∧ Hid (cs.size = cap * 3) ∧ Hid (Blk wr g 81 cs) ∧ Hid (Blk wr x 81 #[.int .i64 kd, .int .i64 m, .string t]) ∧ Hid (Only w wr (fun k => k = g))) (fun _ iv _ => cap - (intOf iv).toNat)
  case atStart => exact ⟨0, cur, by omega, rfl, Hs, Hg, Hx, Ho⟩
  case round =>
    obtain ⟨k, cs, hk, rfl, hcs, hgb, hxb, ho⟩ := hrel
    by_cases hlt2 : k < cap
    · have hkc : (k : Int) < (cap : Int) := by omega
      have hk0 : (0 : Int) ≤ (k : Int) := by omega
      have hsz := hcs.out
      have a0 := hgb.out.cell (k * 3)
      have a1 := hgb.out.cell (k * 3 + 1)
      have a2 := hgb.out.cell (k * 3 + 2)
      obtain ⟨v0, e0⟩ : ∃ v, cs[k * 3]? = some v := ⟨cs[k * 3]'(by omega), Array.getElem?_eq_getElem (by omega)⟩
      obtain ⟨v1, e1⟩ : ∃ v, cs[k * 3 + 1]? = some v := ⟨cs[k * 3 + 1]'(by omega), Array.getElem?_eq_getElem (by omega)⟩
      obtain ⟨v2, e2⟩ : ∃ v, cs[k * 3 + 2]? = some v := ⟨cs[k * 3 + 2]'(by omega), Array.getElem?_eq_getElem (by omega)⟩
      rw [e0] at a0
      rw [e1] at a1
      rw [e2] at a2
      have f0 := hgb.out.frozen (k * 3)
      have f1 := hgb.out.frozen (k * 3 + 1)
      have f2 := hgb.out.frozen (k * 3 + 2)
      have x0 := hxb.out.cell 0
      have x1 := hxb.out.cell 1
      have x2 := hxb.out.cell 2
      have hxl := hxb.out.lt
      have hgl := hgb.out.lt
      clear e0 e1 e2 hsz
      have hxg : x ≠ g := by omega
      go_wp2_with fail
      go_roundw
      case rel =>
        refine ⟨k + 1, ((cs.setIfInBounds (k * 3) (.int .i64 kd)).setIfInBounds (k * 3 + 1) (.int .i64 m)).setIfInBounds (k * 3 + 2) (.string t), by omega, by go_num, Lib.hid (by simpa using hcs.out), Lib.hid (((hgb.out.set_ _ _).set_ _ _).set_ _ _), Lib.hid (((hxb.out.far hxg _).far hxg _).far hxg _), Lib.hid (((ho.out.trans (Only.setSelf _ _ _ _)).trans (Only.setSelf _ _ _ _)).trans (Only.setSelf _ _ _ _))⟩
      case measure => simp [intOf]; omega
    · obtain rfl : k = cap := by omega
      go_wp2_with fail
      go_end0
      exact ⟨rfl, ho.out⟩
end Go.Proofs.Ytmnnaemcjmiplaa
namespace Go.Proofs.Ytmnnaemcjmiplaa
open Go.ChangeShapes Go.WideShapes Go.RowKit
set_option linter.unusedVariables false
set_option linter.unusedSimpArgs false
set_option maxRecDepth 100000
set_option maxHeartbeats 4000000

/-- a slice that a buildSlice has just made of parts -/
theorem RdP.built (w : World) (cs : Array Value) (l : List Pt) (n : Nat) (hn : n = l.length) (hc : cs.toList = pc l) (hm : n ≤ maxLen) (ht : ∀ p ∈ l, p.2.2.size ≤ 140737488351232) :
    RdP (w.alloc (.cells cs 81)) (w.heap.size + 1) (some ⟨w.heap.size, 0, none⟩) n n l := by
  refine ⟨hn, ?_, ht⟩
  rw [← hc]
  exact Rd.built w _ cs (by have := congrArg List.length hc; simp only [Array.length_toList, pc_len] at this; omega) hm
theorem RdP.builtS (w : World) (cs : Array Value) (l : List Pt) (n : Nat) (hn : n = l.length) (hc : cs.toList = pc l) (hm : n ≤ maxLen) (ht : ∀ p ∈ l, p.2.2.size ≤ 140737488351232) :
    RdP (w.alloc (.cells cs 81)) (w.alloc (.cells cs 81)).heap.size (some ⟨w.heap.size, 0, none⟩) n n l := by
  rw [World.size_alloc]; exact RdP.built w cs l n hn hc hm ht
theorem put_any (s : ByteArray) (hs : s.size ≤ 140737488351232) (w : World) :
    Calls Try.prog 32 #[.string s] w fun e w' => ∃ A, e = .returned (.slice A 1 1) ∧ RdP w' w'.heap.size A 1 1 [(2, 0, s)] ∧ Below w.heap.size w w' := by
  have hr := RdP.built w #[.int .i64 2, .int .i64 0, .string s] [(2, 0, s)] 1 rfl rfl (by decide) (by simpa using hs)
  have Hr := Lib.hid hr
  clear hr
  go_enter Try.func32, Try.ntmps32
  go_wp2_with fail
  go_ret
  exact ⟨_, rfl, by simpa using Hr.out, (Below.refl _ _).alloc (Nat.le_refl _) _⟩
theorem same_long (l l' : List Pt) (A A' : Option Addr) (n n' c c' B B' : Nat) (w : World) (h : RdP w B A n c l) (h' : RdP w B' A' n' c' l') (e : n ≠ n') :
    Calls Try.prog 97 #[.slice A n c, .slice A' n' c'] w fun e w' => e = .returned (.bool (decide (l = l'))) ∧ Below w.heap.size w w' := by
  have hne : decide (l = l') = false := by
    rw [decide_eq_false_iff_not]
    rintro rfl
    exact e (h.1.trans h'.1.symm)
  have hb : ((n : Int) == (n' : Int)) = false := by simp; omega
  have h1 := h.le
  have h2 := h'.le
  rw [hne]
  clear h h' hne
  go_enter Try.func97, Try.ntmps97
  go_wp2_with fail
  go_ret
  exact ⟨rfl, Below.refl _ _⟩
theorem same_same (l l' : List Pt) (A A' : Option Addr) (n c c' B B' : Nat) (w : World) (h : RdP w B A n c l) (h' : RdP w B' A' n c' l') :
    Calls Try.prog 97 #[.slice A n c, .slice A' n c'] w fun e w' => e = .returned (.bool (decide (l = l'))) ∧ Below w.heap.size w w' := by
  have hle := h.le
  have H := Lib.hid h
  have H' := Lib.hid h'
  obtain ⟨R, hR⟩ : ∃ R, decide (l = l') = R := ⟨_, rfl⟩
  rw [hR]
  have HR := Lib.hid hR
  clear h h' hR
  go_enter Try.func97, Try.ntmps97
  go_wp2_with fail
  go_loopw [5, 13] (fun i0 i wr => ∃ (k q : Nat), k ≤ n ∧ i = .int .i64 k ∧ wr = w.drewN q ∧ Hid (l.take k = l'.take k)) (fun _ i _ => n - (intOf i).toNat)
  case atStart => exact ⟨0, 0, by omega, rfl, rfl, Lib.hid rfl⟩
  case round =>
    obtain ⟨k, q, hk, rfl, rfl, htk⟩ := hrel
    by_cases hlt : k < n
    · obtain ⟨b, o, rfl, hb, c0, c1, c2⟩ := H.out.at_ k hlt
      obtain ⟨b', o', rfl, hb', c0', c1', c2'⟩ := H'.out.at_ k hlt
      have hkl : k < l.length := by have := H.out.1; omega
      have hkl' : k < l'.length := by have := H'.out.1; omega
      have hs : Hid (l.take (k + 1) = l.take k ++ [l[k]]) := Lib.hid (by rw [List.take_succ_eq_append_getElem hkl])
      have hs' : Hid (l'.take (k + 1) = l'.take k ++ [l'[k]]) := Lib.hid (by rw [List.take_succ_eq_append_getElem hkl'])
      have hd : Hid (l[k] ≠ l'[k] → R = false) := Lib.hid fun h => by
        rw [← HR.out, decide_eq_false_iff_not]
        rintro rfl
        exact h rfl
      generalize l[k] = p at *
      generalize l'[k] = p' at *
      obtain ⟨kd, m, t⟩ := p
      obtain ⟨kd', m', t'⟩ := p'
      simp only at c0 c1 c2 c0' c1' c2'
      have hk0 : (0 : Int) ≤ (k : Int) := by omega
      have hkn : (k : Int) < (n : Int) := by omega
      by_cases e0 : kd = kd'
      · subst e0
        by_cases e1 : m = m'
        · subst e1
          by_cases e2 : t = t'
          · subst e2
            clear hd
            go_wp2_with fail
            go_region
            all_goals
              go_wp2_with fail
              go_roundw
              case rel => exact ⟨k + 1, q + 1, by omega, by go_num, rfl, Lib.hid (by rw [hs.out, hs'.out, htk.out])⟩
              case measure => simp [intOf]; omega
          · have hl : ¬ t.toList = t'.toList := fun h => e2 (bs_ext (by rw [← ByteArray.toList_eq, ← ByteArray.toList_eq]; exact h))
            have hR : R = false := hd.out (by simp; exact e2)
            subst hR
            clear e2 hd
            go_wp2_with fail
            go_region
            all_goals
              go_wp2_with fail
              go_ret
              exact ⟨rfl, below_drewN_ (Below.refl _ _) (q + 1)⟩
        · have hR : R = false := hd.out (by simp; intro h; exact absurd h e1)
          subst hR
          clear hd
          go_wp2_with fail
          go_region
          all_goals
            go_wp2_with fail
            go_ret
            exact ⟨rfl, below_drewN_ (Below.refl _ _) (q + 1)⟩
      · have hR : R = false := hd.out (by simp; intro h; exact absurd h e0)
        subst hR
        clear hd
        go_wp2_with fail
        go_region
        all_goals
          go_wp2_with fail
          go_ret
          exact ⟨rfl, below_drewN_ (Below.refl _ _) (q + 1)⟩
    · have hR : R = true := by
        rw [← HR.out, decide_eq_true_iff]
        have h1 := htk.out
        have h2 := H.out.1
        have h3 := H'.out.1
        rwa [List.take_of_length_le (by omega), List.take_of_length_le (by omega)] at h1
      subst hR
      go_wp2_with fail
      go_ret
      exact ⟨rfl, below_drewN_ (Below.refl _ _) q⟩
theorem same_any (l l' : List Pt) (A A' : Option Addr) (n n' c c' B B' : Nat) (w : World) (h : RdP w B A n c l) (h' : RdP w B' A' n' c' l') :
    Calls Try.prog 61 #[.slice A n c, .slice A' n' c'] w fun e w' => e = .returned (.bool (decide (l = l'))) ∧ Below w.heap.size w w' := by
  have hcall : Calls Try.prog 97 #[.slice A n c, .slice A' n' c'] w fun e w' => e = .returned (.bool (decide (l = l'))) ∧ Below w.heap.size w w' := by
    by_cases e : n = n'
    · subst e; exact same_same l l' A A' n c c' B B' w h h'
    · exact same_long l l' A A' n n' c c' B B' w h h' e
  generalize decide (l = l') = R at *
  have Hc := Lib.hid hcall
  clear h h' hcall
  go_enter Try.func61, Try.ntmps61
  go_wp2_with fail
  refine Hc.out.mono ?_
  rintro e w1 ⟨rfl, hb⟩
  go_wp2_with fail
  go_ret
  exact ⟨rfl, hb⟩
theorem same_true (l l' : List Pt) (A A' : Option Addr) (n n' c c' B B' : Nat) (w : World) (h : RdP w B A n c l) (h' : RdP w B' A' n' c' l') (e : l = l') :
    Calls Try.prog 61 #[.slice A n c, .slice A' n' c'] w fun e w' => e = .returned (.bool true) ∧ Below w.heap.size w w' := by
  have := same_any l l' A A' n n' c c' B B' w h h'
  rwa [decide_eq_true e] at this
end Go.Proofs.Ytmnnaemcjmiplaa
namespace Go.Proofs.Ytmnnaemcjmiplaa
open Go.ChangeShapes Go.WideShapes Go.RowKit
set_option linter.unusedVariables false
set_option linter.unusedSimpArgs false
set_option maxRecDepth 100000
set_option maxHeartbeats 4000000

theorem take_set3 (l : List Value) (j : Nat) (a b c : Value) (h : j * 3 + 3 ≤ l.length) :
    (((l.set (j * 3) a).set (j * 3 + 1) b).set (j * 3 + 2) c).take ((j + 1) * 3) = l.take (j * 3) ++ [a, b, c] := by
  apply List.ext_getElem?
  intro i
  rw [List.getElem?_take]
  by_cases h1 : i < j * 3
  · rw [if_pos (by omega), List.getElem?_append_left (by rw [List.length_take]; omega), List.getElem?_take, if_pos h1,
      List.getElem?_set_ne (by omega), List.getElem?_set_ne (by omega), List.getElem?_set_ne (by omega)]
  · have hl : (l.take (j * 3)).length = j * 3 := by rw [List.length_take]; omega
    rw [List.getElem?_append_right (by omega), hl]
    by_cases h2 : i = j * 3
    · subst h2
      rw [if_pos (by omega), List.getElem?_set_ne (by omega), List.getElem?_set_ne (by omega), List.getElem?_set_self (by omega)]
      simp
    · by_cases h3 : i = j * 3 + 1
      · subst h3
        rw [if_pos (by omega), List.getElem?_set_ne (by omega), List.getElem?_set_self (by rw [List.length_set]; omega)]
        simp
      · by_cases h4 : i = j * 3 + 2
        · subst h4
          rw [if_pos (by omega), List.getElem?_set_self (by rw [List.length_set, List.length_set]; omega)]
          simp
        · rw [if_neg (by omega)]
          obtain ⟨m, rfl⟩ : ∃ m, i = j * 3 + 3 + m := ⟨i - (j * 3 + 3), by omega⟩
          rw [show j * 3 + 3 + m - j * 3 = m + 3 by omega]
          rfl
/-- a list with room behind it, in which p stands three times -/
def Room (w : World) (B g n : Nat) (l : List Pt) : Prop := B ≤ g ∧ ∃ cs : Array Value, Blk w g 81 cs ∧ cs.size = (n + 3) * 3 ∧ cs.toList = pc l
theorem room_step (cs : Array Value) (l : List Pt) (j N : Nat) (kd m : Int) (t : ByteArray) (hs : cs.size = N * 3) (hj : j < N) (ht : cs.toList.take (j * 3) = pc l) :
    (((cs.setIfInBounds (j * 3) (.int .i64 kd)).setIfInBounds (j * 3 + 1) (.int .i64 m)).setIfInBounds (j * 3 + 2) (.string t)).toList.take ((j + 1) * 3) = pc (l ++ [(kd, m, t)]) := by
  rw [Array.toList_setIfInBounds, Array.toList_setIfInBounds, Array.toList_setIfInBounds, take_set3 _ _ _ _ _ (by rw [Array.length_toList, hs]; omega), ht, pc_append]
  rfl
theorem room_src {w : World} {B n c : Nat} {ad : Addr} {l : List Pt} (h : RdP w B (some ad) n c l) : ∀ j u, (pc l)[j]? = some u → w.cell? (ad.add j) = some u := by
  intro j u hj
  by_cases h0 : 0 < n
  · obtain ⟨b, o, e, hb, hc⟩ := h.2.1.2.2.2 h0
    obtain rfl := Option.some.inj e
    have := hc j u hj
    by_cases h00 : j = 0
    · subst h00; simpa [Addr.add] using this
    · simpa [Addr.add, h00] using this
  · have : l.length = 0 := by rw [← h.1]; omega
    rw [List.length_eq_zero_iff] at this
    subst this
    simp [pc] at hj
theorem pc_one (l : List Pt) : ∀ u ∈ pc l, u.oneCell' = true := by
  intro u hu
  unfold pc at hu
  obtain ⟨p, _, hp⟩ := List.mem_flatMap.1 hu
  simp only [pcells, List.mem_cons, List.not_mem_nil, or_false] at hp
  rcases hp with rfl | rfl | rfl <;> rfl
/-- append of parts where there is room -/
theorem wpList_app_room {ops : Array Oper} {rest : List Oper} {o : Oper} {a : Act} {Q : Exit → Act → World → Prop} (w : World) (hgd : o.guard = none) (s x : Operand)
    (ho : o.op = .call { callee := .builtin .append, args := #[s, x], argTypes := #[25, 25] })
    (B g N : Nat) (hs : a.eval s = .slice (some ⟨g, 0, none⟩) 0 N) (hown : w.ownsRow B 81 3 (.slice (some ⟨g, 0, none⟩) 0 N) 0 [])
    (A : Option Addr) (n c B' : Nat) (l : List Pt) (hx : a.eval x = .slice A n c) (hr : RdP w B' A n c l) (hA : A = none → c = 0) (hn : n ≤ N)
    (h : ∀ w', w'.ownsRow B 81 3 (.slice (some ⟨g, 0, none⟩) n N) n (pc l) → w.grownBy w' (some g) → wpList Try.prog ops Q rest (a.put o.dst (.slice (some ⟨g, 0, none⟩) n N)) w') :
    wpList Try.prog ops Q (o :: rest) a w := by
  obtain ⟨i0, hi, hz0, hz1, hz2⟩ := info_parts Try.info_part
  cases A with
  | none =>
    obtain rfl := hA rfl
    obtain rfl : n = 0 := by have := hr.2.1.1; omega
    have e : l = [] := by rw [← List.length_eq_zero_iff, ← hr.1]
    subst e
    exact wpList_append_own_none hgd s x 25 ho B 81 i0 3 Try.underlying25 hi _ 0 [] hs hown hx (h w hown ⟨rfl, rfl, rfl, Nat.le_refl _, fun _ _ _ => rfl⟩)
  | some ad =>
    refine wpList_append_own_spare w hgd s x 25 ho B 81 i0 3 Try.underlying25 hi hz1 _ _ _ _ hs hown ad n c (pc l) hx (by rw [pc_len, hr.1]) (room_src hr) (pc_one l) (by omega) ?_
    intro w' h1 h2
    rw [Nat.zero_add, List.nil_append] at h1
    rw [Nat.zero_add]
    exact h w' h1 h2
end Go.Proofs.Ytmnnaemcjmiplaa
namespace Go.Proofs.Ytmnnaemcjmiplaa
open Go.ChangeShapes Go.WideShapes Go.RowKit
set_option linter.unusedVariables false
set_option linter.unusedSimpArgs false
set_option maxRecDepth 100000
set_option maxHeartbeats 4000000

def mk9 : Pt := (9, 0, ⟨#[109, 97, 114, 107]⟩)
end Go.Proofs.Ytmnnaemcjmiplaa
