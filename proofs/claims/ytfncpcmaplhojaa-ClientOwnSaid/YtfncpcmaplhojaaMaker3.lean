/- Contracts of part.Maker's methods: Keep, Done. -/
import Derived.Test.YtfncpcmaplhojaaMaker2
namespace Go.Proofs.Ytfncpcmaplhojaa
open Go.ChangeShapes Go.WideShapes Go.RowKit
set_option linter.unusedVariables false
set_option linter.unusedSimpArgs false
set_option maxRecDepth 100000
set_option maxHeartbeats 4000000

theorem bump_snoc (n : Int) (l : List Pt) (p : Pt) : bump n (l ++ [p]) = if p.1 = 1 then l ++ [(1, p.2.1 + n, emp)] else l ++ [p] ++ [(1, n, emp)] := by
  induction l with
  | nil => simp only [List.nil_append, bump]; split <;> rfl
  | cons q l ih =>
    rcases hl : l ++ [p] with _ | ⟨x, r⟩
    · simp at hl
    · have e : bump n (q :: l ++ [p]) = q :: bump n (l ++ [p]) := by
        rw [List.cons_append, hl]; rfl
      rw [e, ih]
      split <;> simp
theorem pc_set (I : List Pt) (k m u : Int) (t : ByteArray) : (pc (I ++ [(k, m, t)])).set (I.length * 3 + 1) (.int .i64 u) = pc (I ++ [(k, u, t)]) := by
  rw [pc_append, pc_append, List.set_append_right _ _ (by rw [pc_len]; omega), pc_len, show I.length * 3 + 1 - I.length * 3 = 1 by omega]
  rfl
/-- the last part grows -/
theorem keep_last {w : World} {B g h cp : Nat} {I : List Pt} {m n : Int} {t : ByteArray} {P C : Value} (hb : Blk w g 165 #[.slice (some ⟨h, 0, none⟩) (I.length + 1) cp, P, C])
    (ho : OwnP w B (.slice (some ⟨h, 0, none⟩) (I.length + 1) cp) (I ++ [(1, m, t)])) (hgh : g ≠ h) :
    Blk (w.setCell ⟨h, I.length * 3 + 1, none⟩ (.int .i64 (m + n))) g 165 #[.slice (some ⟨h, 0, none⟩) (I.length + 1) cp, P, C] ∧
      OwnP (w.setCell ⟨h, I.length * 3 + 1, none⟩ (.int .i64 (m + n))) B (.slice (some ⟨h, 0, none⟩) (I.length + 1) cp) (I ++ [(1, m + n, t)]) ∧
      MFr w (w.setCell ⟨h, I.length * 3 + 1, none⟩ (.int .i64 (m + n))) g (some h) (some h) := by
  refine ⟨hb.far hgh _, ?_, ?_, .inl rfl⟩
  · unfold OwnP at ho ⊢
    rw [List.length_append, List.length_singleton] at ho ⊢
    have := (World.ownsRow.stored ho (I.length * 3 + 1) (.int .i64 (m + n))).1
    rwa [pc_set] at this
  · exact (Only.setSelf w h (I.length * 3 + 1) (.int .i64 (m + n))).mono fun k _ hk => .inr (by rw [hk])
theorem pend_none (p : ByteArray) (c : Int) (hp : p.size = 0) (hc : c ≤ 0) : pend p c = [] := by unfold pend; rw [if_pos hp, if_neg (by omega)]; rfl
theorem flush_any {B g : Nat} {ob : Option Nat} {us : List U} {o : List Pt} {p : ByteArray} {c : Int} {w : World} (h : MkS w B g ob o p c) (hr : MRep us o p c) (hl : us.length ≤ 99999999) (hB : B ≤ w.heap.size) :
    Calls Try.prog 110 #[.pointer (some ⟨g, 0, none⟩)] w fun e w' => e = .returned (.tuple #[]) ∧ FlP w B g ob (grp (cz us)) w' := by
  rw [← hr.flush]
  obtain ⟨v, hb, ho, hob⟩ := h
  obtain ⟨h1, _, h3, _, _, _⟩ := hr.bounds
  unfold pend
  rcases str_cases p with rfl | ⟨hp, hp1⟩
  · rw [if_pos (show (⟨#[]⟩ : ByteArray).size = 0 from rfl), List.nil_append]
    by_cases hc : 0 < c
    · rw [if_pos hc]
      exact flush_cut g v o B ob c w hb ho hob hc (by omega) hB
    · rw [if_neg hc, List.append_nil]
      exact flush_none g v o B ob c w hb ho hob (by omega)
  · rw [if_neg (by omega)]
    by_cases hc : 0 < c
    · rw [if_pos hc, ← List.append_assoc]
      exact flush_both g v o B ob p c w hb ho hob hc hp (by omega) hB
    · rw [if_neg hc, List.append_nil]
      exact flush_put g v o B ob p c w hb ho hob (by omega) hp (by omega) hB
theorem mdone_any {B g : Nat} {ob : Option Nat} {us : List U} {w : World} (h : Mk w B g ob us) (hl : us.length ≤ 99999999) (hB : B ≤ w.heap.size) :
    Calls Try.prog 95 #[.pointer (some ⟨g, 0, none⟩)] w fun e w' => ∃ v ob', e = .returned v ∧ OwnP w' B v (grp (cz us)) ∧ v.ownBlock = ob' ∧ MFr w w' g ob ob' := by
  obtain ⟨o, p, c, hs, hr⟩ := h
  have Hs := Lib.hid hs
  have Hr := Lib.hid hr
  clear hs hr
  go_enter Try.func95, Try.ntmps95
  go_wp2_with fail
  refine (flush_any Hs.out Hr.out hl hB).mono ?_
  rintro e w1 ⟨rfl, ob1, ⟨v, hb, ho, hob⟩, hfr⟩
  have c0 := hb.cell 0
  have hl1 := hb.lt
  have Hfin : Hid (∃ v_1 ob', Ending.returned v = .returned v_1 ∧ OwnP w1 B v_1 (grp (cz us)) ∧ v_1.ownBlock = ob' ∧ MFr w w1 g ob ob') := Lib.hid ⟨v, ob1, rfl, ho, hob, hfr⟩
  obtain ⟨A1, c1, hv⟩ := ho.form
  subst hv
  clear hb ho hob hfr
  go_wp2_with fail
  go_ret
  exact Hfin.out
theorem mkeep_zero {B g : Nat} {ob : Option Nat} {us : List U} {w : World} (h : Mk w B g ob us) :
    Calls Try.prog 94 #[.pointer (some ⟨g, 0, none⟩), .int .i64 0] w fun e w' => e = .returned (.tuple #[]) ∧ w = w' := by
  clear h
  go_enter Try.func94, Try.ntmps94
  go_wp2_with fail
  refine bodyPost_ret (results_none rfl _ _ _) rfl ?_
  exact ⟨rfl, rfl⟩
theorem mkeep_pos {B g : Nat} {ob : Option Nat} {us : List U} {w : World} (n : Int) (h : Mk w B g ob us) (hl : us.length ≤ 99999990) (hB : B ≤ w.heap.size) (hn : 0 < n) (hn2 : n ≤ 100000000) :
    Calls Try.prog 94 #[.pointer (some ⟨g, 0, none⟩), .int .i64 n] w fun e w' => e = .returned (.tuple #[]) ∧ ∃ ob', Mk w' B g ob' (us ++ ku n) ∧ MFr w w' g ob ob' := by
  obtain ⟨o, p, c, hs, hr⟩ := h
  have hk := hr.keep hn
  rw [hr.flush] at hk
  have Hk := Lib.hid hk
  have Hs := Lib.hid hs
  have Hr := Lib.hid hr
  have hne : (n == 0) = false := by simp; omega
  have hfine := fine_grp (cz us)
  have hbd := len_units (grp (cz us)) hfine
  rw [units_grp, len_cz] at hbd
  have Hlg := Lib.hid (len_grp (cz us))
  have Hlc := Lib.hid (len_cz us)
  have Hfine := Lib.hid hfine
  have Hbd := Lib.hid hbd
  clear hs hr hk hfine hbd
  go_enter Try.func94, Try.ntmps94
  go_wp2_with fail
  refine (flush_any Hs.out Hr.out (by omega) hB).mono ?_
  rintro e w1 ⟨rfl, ob1, ⟨v, hb, ho, hob⟩, hfr⟩
  have hB1 : B ≤ w1.heap.size := by have := hfr.1.2.2.2.1; omega
  generalize hO : grp (cz us) = O at *
  have hlenO : O.length ≤ 99999990 := by have := Hlg.out; have := Hlc.out; omega
  clear hO
  have Hfr := Lib.hid hfr
  have Hob := Lib.hid hob
  have c0 := hb.cell 0
  have f0 := hb.frozen 0
  have c1 := hb.cell 1
  have c2 := hb.cell 2
  have hl1 := hb.lt
  have Hne := Lib.hid (Ne.symm (own_blk_ne (t := 165) ho hb (by decide)))
  have Hb := Lib.hid hb
  have Ho := Lib.hid ho
  clear hb hob hfr
  rcases List.eq_nil_or_concat O with rfl | ⟨I, l, rfl⟩
  · obtain ⟨A, cp, hv⟩ := ho.form_ (n := 0) rfl
    subst hv
    clear ho
    have hbn : Hid (bump n [] = [] ++ [(1, n, emp)]) := Lib.hid rfl
    go_wp2_with (first | (at_builtin; refine wpList_app_part _ rfl (.tmp 44) (.tmp 47) rfl B _ [] rfl Ho.out 1 n ⟨#[]⟩ 1 rfl (by simp) hB1 ?_; intro v2 w2 g1 g2 g3 g4; obtain ⟨A2, c2', rfl⟩ := g1.form_ (n := 1) rfl; have hb1 := Blk.grown Hb.out g3 Hne.out; have d0 := hb1.cell 0; have d1 := hb1.cell 1; have d2 := hb1.cell 2; have e0 := hb1.frozen 0; have e1 := hb1.frozen 1; have e2 := hb1.frozen 2; have l1 := hb1.lt))
    go_end0
    have Hf := fl_app Hb.out Ho.out Hob.out g1 g3 g4
    exact ⟨rfl, _, ⟨_, _, _, ⟨_, Hf.1, Hf.2.1, rfl⟩, by have := Hk.out; rw [hbn.out] at this; exact this⟩, Hfr.out.trans Hf.2.2⟩
  · rw [List.concat_eq_append] at *
    have hpc : pc (I ++ [l]) ≠ [] := by rw [pc_append]; simp [pc, pcells]
    obtain ⟨h, cp, hv0, hnc, hcm⟩ := own_nil ho hpc
    have hv := hv0
    rw [List.length_append, List.length_singleton] at hv hlenO
    subst hv
    have hcell := fun j hj => World.ownsRow.cellAt (show w1.ownsRow B 45 3 (.slice (some ⟨h, 0, none⟩) (I.length + 1) cp) (I.length + 1) (pc (I ++ [l])) from by have := ho; unfold OwnP at this; rwa [List.length_append, List.length_singleton] at this) j hj
    have hlast : (I ++ [l])[I.length]'(by simp) = l := by simp
    obtain ⟨p0, p1, p2⟩ := pc_at (I ++ [l]) I.length (by simp)
    rw [hlast] at p0 p1 p2
    have hc0 := (hcell (I.length * 3) (by omega)).trans p0
    have hc1 := (hcell (I.length * 3 + 1) (by omega)).trans p1
    have hfz : w1.frozen? ⟨h, I.length * 3 + 1, none⟩ = false := World.ownsRow.frozenAt (show w1.ownsRow B 45 3 (.slice (some ⟨h, 0, none⟩) (I.length + 1) cp) (I.length + 1) (pc (I ++ [l])) from by have := ho; unfold OwnP at this; rwa [List.length_append, List.length_singleton] at this) _
    have hsh := Hfine.out l (by simp)
    have hbl := Hbd.out l (by simp)
    have hlt := own_lt ho h rfl
    obtain ⟨kd, m, t⟩ := l
    simp only at hc0 hc1
    have hI0 : (0 : Int) ≤ (I.length : Int) := by omega
    have hgh : g ≠ h := fun e => Hne.out (by rw [e]; rfl)
    have Hbs := Lib.hid (bump_snoc n I (kd, m, t))
    clear hcell p0 p1 p2 hlast hpc hv0
    by_cases hkd : kd = 1
    · subst hkd
      have hm : 1 ≤ m ∧ m ≤ us.length ∧ t = emp := by
        rcases hsh with ⟨_, h2, h3⟩ | ⟨h2, _, _⟩
        · simp only [lenP] at hbl h2 h3
          simp at hbl
          exact ⟨h2, by omega, h3⟩
        · simp at h2
      obtain ⟨hm1, hm2, rfl⟩ := hm
      have hm3 : m ≤ 99999990 := by omega
      clear hsh hbl ho hm2
      go_wp2_with fail
      refine bodyPost_ret (results_none rfl _ _ _) rfl ?_
      have hK := keep_last (n := n) Hb.out Ho.out hgh
      have hob : ob1 = some h := by rw [← Hob.out]; rfl
      subst hob
      refine ⟨rfl, some h, ⟨_, _, _, ⟨_, hK.1, hK.2.1, rfl⟩, ?_⟩, Hfr.out.trans hK.2.2⟩
      have h1 := Hk.out
      have h2 := Hbs.out
      rw [if_pos trivial] at h2
      rw [h2] at h1
      exact h1
    · have hkd' : (kd == 1) = false := by simpa using hkd
      have hlb : (I ++ [((kd, m, t) : Pt)]).length ≤ 100000000 := by rw [List.length_append, List.length_singleton]; omega
      have Hkd := Lib.hid hkd
      clear hsh hbl ho hkd
      go_wp2_with (first | (at_builtin; refine wpList_app_part _ rfl (.tmp 44) (.tmp 47) rfl B _ (I ++ [((kd, m, t) : Pt)]) rfl Ho.out 1 n ⟨#[]⟩ 1 rfl hlb hB1 ?_; intro v2 w2 g1 g2 g3 g4; obtain ⟨A2, c2', rfl⟩ := g1.form_ (n := I.length + 2) (by simp); have hb1 := Blk.grown Hb.out g3 Hne.out; have d0 := hb1.cell 0; have d1 := hb1.cell 1; have d2 := hb1.cell 2; have e0 := hb1.frozen 0; have e1 := hb1.frozen 1; have e2 := hb1.frozen 2; have l1 := hb1.lt))
      go_end0
      have Hf := fl_app Hb.out Ho.out Hob.out g1 g3 g4
      refine ⟨rfl, _, ⟨_, _, _, ⟨_, Hf.1, Hf.2.1, rfl⟩, ?_⟩, Hfr.out.trans Hf.2.2⟩
      have h1 := Hk.out
      rw [Hbs.out, if_neg Hkd.out] at h1
      exact h1
theorem mkeep_any {B g : Nat} {ob : Option Nat} {us : List U} {w : World} (n : Int) (h : Mk w B g ob us) (hl : us.length ≤ 99999990) (hB : B ≤ w.heap.size) (hn : 0 ≤ n) (hn2 : n ≤ 100000000) :
    Calls Try.prog 94 #[.pointer (some ⟨g, 0, none⟩), .int .i64 n] w fun e w' => e = .returned (.tuple #[]) ∧ ∃ ob', Mk w' B g ob' (us ++ ku n) ∧ MFr w w' g ob ob' := by
  rcases (show n = 0 ∨ 0 < n by omega) with rfl | h0
  · refine (mkeep_zero h).mono ?_
    rintro e w' ⟨rfl, rfl⟩
    exact ⟨rfl, ob, by simpa [ku] using h, MFr.refl _ _ _⟩
  · exact mkeep_pos n h hl hB h0 hn2
end Go.Proofs.Ytfncpcmaplhojaa
