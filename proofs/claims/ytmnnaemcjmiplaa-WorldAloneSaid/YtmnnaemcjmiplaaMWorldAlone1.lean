/- walk of scrivkeep.WorldAlone. -/
import Derived.Test.YtmnnaemcjmiplaaW30
namespace Go.Proofs.Ytmnnaemcjmiplaa
open Go.ChangeShapes Go.WideShapes Go.RowKit
set_option linter.unusedVariables false
set_option linter.unusedSimpArgs false
set_option maxRecDepth 100000
set_option maxHeartbeats 4000000
theorem edit_text (x : St) (d : List Pt) : (editS x d).c.text = doS d x.c.text := by
  have h : (edL x.c d).text = doS d x.c.text := by
    unfold edL
    split
    · rfl
    · split <;> rfl
  unfold editS
  split
  · exact h
  · exact h
theorem doS_nil {t : ByteArray} (h : doE [] t = 0) : doS [] t = t := by
  have h1 := (do_chk h).2.1
  have h2 := do_size h
  have e1 : (nI (units []) : Nat) = 0 := by simp [units, nI]
  have e2 : (nO (units []) : Nat) = 0 := by simp [units, nO]
  have s1 : t.size = 0 := by omega
  have s2 : (doS [] t).size = 0 := by omega
  have z : ∀ u : ByteArray, u.size = 0 → u = emp := by
    intro u hu
    apply ba_list
    have : u.data.toList.length = 0 := hu
    rw [List.eq_nil_of_length_eq_zero this]
    rfl
  exact (z _ s2).trans (z _ s1).symm
/-- who is alone has this text -/
def EvA (t : ByteArray) (s : Sh) (X : List St) : Prop := X.length = 1 ∧ ∃ x, X[0]? = some x ∧ x.c.text = t
theorem EvA.up {t : ByteArray} {s s' : Sh} {X X' : List St} {i : Nat} {b : Bool} (h : EvA t s X) (hu : UpR s X i b s' X') : EvA t s' X' := by
  obtain ⟨h1, y, h2, h3⟩ := h
  cases hu with
  | no x hx hu => exact ⟨h1, y, h2, h3⟩
  | yes x b d hx hu hE hl =>
    have hi : i = 0 := by have := (List.getElem?_eq_some_iff.1 hx).1; omega
    subst hi
    rw [hx] at h2
    have h2 := Option.some.inj h2
    refine ⟨by rw [List.length_set]; exact h1, _, List.getElem?_set_self (by omega), ?_⟩
    rw [← h3, ← h2]
theorem EvA.down {t : ByteArray} {s : Sh} {X X' : List St} {i : Nat} {b : Bool} {put edits : Int} {e : Nat → Nat} (h : EvA t s X) (hW : WI s X put edits e) (hd : DownR s X i b X') : EvA t s X' := by
  obtain ⟨h1, y, h2, h3⟩ := h
  cases hd with
  | no x hx ht => exact ⟨h1, y, h2, h3⟩
  | yes x hx ht =>
    have hi : i = 0 := by have := (List.getElem?_eq_some_iff.1 hx).1; omega
    subst hi
    rw [hx] at h2
    have h2 := Option.some.inj h2
    have hw := hW.who (s.log.revs[x.told]) (List.getElem_mem ht)
    have hww := (hW.seat 0 x hx).who
    refine ⟨by rw [List.length_set]; exact h1, _, List.getElem?_set_self (by omega), ?_⟩
    rw [← h3, ← h2, downS, if_pos (by rw [hww]; omega), ownS]
    split <;> rfl
theorem EvA.evw (t : ByteArray) (put edits : Int) (e : Nat → Nat) : EvW put edits e (EvA t) :=
  ⟨fun s X i b s' X' hW hu h => h.up hu, fun s X i b X' hW hd h => h.down hW hd⟩
theorem EvA.edit {t : ByteArray} {s : Sh} {X : List St} (h : EvA t s X) {x : St} (hx : X[0]? = some x) (d : List Pt) : EvA (doS d t) s (X.set 0 (editS x d)) := by
  obtain ⟨h1, y, h2, h3⟩ := h
  rw [hx] at h2
  have h2 := Option.some.inj h2
  refine ⟨by rw [List.length_set]; exact h1, _, List.getElem?_set_self (by omega), ?_⟩
  rw [edit_text, h2, h3]
theorem EvA.act {t : ByteArray} {k i : Nat} {s s' : Sh} {X X' : List St} {put edits put' edits' : Int} {e e' : Nat → Nat} (h : EvA t s X) (hW : WI s X put edits e) (ha : ActR k i [] s X put edits e s' X' put' edits' e') : EvA t s' X' := by
  rcases ha with ⟨rfl, rfl, _⟩ | ⟨_, rfl, x, hx, hdo, rfl, _⟩ | ⟨_, _, _, _, ⟨b, hu⟩ | ⟨rfl, b, hd⟩⟩
  · exact h
  · have hi : i = 0 := by have := (List.getElem?_eq_some_iff.1 hx).1; have := h.1; omega
    subst hi
    have := h.edit hx []
    obtain ⟨h1, y, h2, h3⟩ := h
    rw [hx] at h2
    have h2 := Option.some.inj h2
    rw [h2, h3] at hdo
    rw [doS_nil hdo] at this
    exact this
  · exact h.up hu
  · exact h.down hW hd
theorem EvA.zero : EvA ⟨#[97]⟩ shN (X0 1) := ⟨X0_len 1, editS (seat0 0) [(2, 0, ⟨#[97]⟩)], rfl, by rw [edit_text]; decide +kernel⟩
theorem walk_WorldAlone (v1 : Value) (l : List (List Int)) (v2 : Value) (ds : List (List Pt)) (w : World) (hl : IsRows w v1 l) (hd : IsDeltas w v2 ds) :
    Calls Try.prog 10 #[v1, v2] w fun e w' => e = .returned (.bool true) ∧ Below w.heap.size w w' := by
  obtain ⟨Al, nl, cl, sl, rfl, hrs, hrl⟩ := hl
  obtain ⟨Ad, nd, cd, sd, rfl, hds, hdd⟩ := hd
  obtain ⟨B, hB⟩ : ∃ B, w.heap.size = B := ⟨_, rfl⟩
  rw [hB] at hrs hrl hds hdd
  have HRS := Lib.hid hrs
  have HRL := Lib.hid hrl
  have HDS := Lib.hid hds
  have HDD := Lib.hid hdd
  have HBw := Lib.hid hB
  have HB : Hid (B ≤ w.heap.size) := Lib.hid (by omega)
  have HW : Hid (Below B w w) := Lib.hid (Below.refl _ _)
  have hnl0 : (0 : Int) ≤ (nl : Int) := by omega
  have hnd0 : (0 : Int) ≤ (nd : Int) := by omega
  have hnlc : nl ≤ cl ∧ cl ≤ maxLen := ⟨hrs.2.1, hrs.2.2.1⟩
  have hndc : nd ≤ cd ∧ cd ≤ maxLen := ⟨hds.2.1, hds.2.2.1⟩
  have hcl1 : (nl : Int) ≤ (cl : Int) := by omega
  have hcl2 : (cl : Int) ≤ 9223372036854775807 := by have := hnlc.2; simp only [maxLen] at this; omega
  have hcd1 : (nd : Int) ≤ (cd : Int) := by omega
  have hcd2 : (cd : Int) ≤ 9223372036854775807 := by have := hndc.2; simp only [maxLen] at this; omega
  clear hrs hrl hds hdd hB hnlc hndc
  go_enter Try.func10, Try.ntmps10
  have hc_ := wnew_B (B := B) 1 (Nat.le_refl 1) (by decide) w HB.out
  have Hc_ := Lib.hid hc_
  clear hc_
  go_wp2_with fail
  refine Hc_.out.mono ?_
  rintro en w1 ⟨q, rfl, hwd, hb1⟩
  clear Hc_
  have HN := Lib.hid hwd
  obtain ⟨Z, hZ⟩ : ∃ Z, w1.heap.size = Z := ⟨_, rfl⟩
  rw [hZ] at HN
  have HZ : Hid (Z ≤ w1.heap.size) := Lib.hid (Nat.le_of_eq hZ.symm)
  clear hwd hZ
  have HW_ := Lib.hid (HW.out.trans (hb1.mono HB.out))
  clear HW
  have HW := HW_
  clear HW_
  have HB_ : Hid (B ≤ w1.heap.size) := Lib.hid (Nat.le_trans HB.out hb1.size)
  clear HB hb1
  have HB := HB_
  clear HB_
  have hc_ := wput_any ⟨#[97]⟩ (by decide) w1
  have Hc_ := Lib.hid hc_
  clear hc_
  go_wp2_with fail
  refine Hc_.out.mono ?_
  rintro en w2 ⟨Aa, rfl, hra, hza, hb2⟩
  clear Hc_
  have HRA := Lib.hid hra
  have HZA : Hid (∀ ad, Aa = some ad → Z ≤ ad.block) := Lib.hid (fun ad e => Nat.le_trans HZ.out (hza ad e))
  clear hra hza
  have HN_ := Lib.hid (HN.out.below hb2)
  clear HN
  have HN := HN_
  clear HN_
  have HZ_ := Lib.hid (Nat.le_trans HZ.out (hb2.size))
  clear HZ
  have HZ := HZ_
  clear HZ_
  have HW_ := Lib.hid (HW.out.trans (hb2.mono HB.out))
  clear HW
  have HW := HW_
  clear HW_
  have HB_ : Hid (B ≤ w2.heap.size) := Lib.hid (Nat.le_trans HB.out hb2.size)
  clear HB hb2
  have HB := HB_
  clear HB_
  have hc_ := wfirst_B 1 (Nat.le_refl 1) HN.out HB.out ⟨#[97]⟩ (by decide) Aa 1 1 HRA.out HZA.out chk_a (by rw [nP_a]; decide)
  rw [nP_a] at hc_
  have Hc_ := Lib.hid hc_
  clear hc_
  go_wp2_with fail
  refine Hc_.out.mono ?_
  rintro en w3 ⟨rfl, hwd0, hb2⟩
  have hwd : WdB w3 B q shN (X0 1) 1 1 (fun k => if k = 0 then 1 else 0) := hwd0
  clear hwd0
  clear Hc_
  have HWD := Lib.hid hwd
  clear hwd
  have HW_ := Lib.hid (HW.out.trans hb2)
  clear HW
  have HW := HW_
  clear HW_
  have HB_ : Hid (B ≤ w3.heap.size) := Lib.hid (Nat.le_trans HB.out hb2.size)
  clear HB hb2
  have HB := HB_
  clear HB_
  clear HN HRA HZA HZ
  go_upto_region 6 with (fail)
  have HE : Hid (EvA ⟨#[97]⟩ shN (X0 1)) := Lib.hid EvA.zero
  go_loopw [7, 8, 9, 10, 11, 12, 13, 14, 37] (fun sv x8 x9 x10 x11 x12 x13 x14 iv wr => ∃ (k : Nat) (s : Sh) (X : List St) (put edits : Int) (e : Nat → Nat) (t : ByteArray), k ≤ nl ∧ iv = .int .i64 k ∧ sv = .string t ∧ Hid (WdB wr B q s X put edits e) ∧ Hid (EvA t s X) ∧ Hid (Below B w wr) ∧ Hid (B ≤ wr.heap.size)) (fun _ _ _ _ _ _ _ _ iv _ => nl - (intOf iv).toNat)
  case atStart => exact ⟨0, _, _, _, _, _, _, by omega, rfl, rfl, HWD, HE, HW, HB⟩
  case round =>
    clear HWD HE HW HB
    obtain ⟨k, s, X, put, edits, e, t, hk, rfl, rfl, HWD, HE, HW, HB⟩ := hrel
    have HX : Hid (X.length = 1) := Lib.hid HE.out.1
    by_cases hlt : k < nl
    · skip
      have hk0 : (0 : Int) ≤ (k : Int) := by omega
      have hkn : (k : Int) < (nl : Int) := by omega
      have hsll : sl.length = nl := HRS.out.1.symm
      have hll : l.length = nl := by rw [← hsll]; exact HRL.out.1.symm
      obtain ⟨sk, hsk⟩ : ∃ sk, sl[k]? = some sk := ⟨_, List.getElem?_eq_getElem (by omega)⟩
      obtain ⟨cs, hcs⟩ : ∃ cs, l[k]? = some cs := ⟨_, List.getElem?_eq_getElem (by omega)⟩
      obtain ⟨bk, ok, hAl, hbk, dk⟩ := (HRS.out.below HW.out).at_ hsk
      subst hAl
      have hbk' : bk < wr.heap.size := Nat.lt_of_lt_of_le hbk HB.out
      have hrow := HRL.out.2 k sk cs hsk hcs
      obtain ⟨Ac, nc, cc⟩ := sk
      simp only at hrow dk
      have HRW := Lib.hid hrow
      have hnc0 : (0 : Int) ≤ (nc : Int) := by omega
      have HNC : Hid (nc = cs.length) := Lib.hid hrow.1
      clear hsll hll hsk hcs hrow
      cases cs with
      | nil =>
        obtain rfl : nc = 0 := HNC.out
        by_cases hkd : k < nd
        · skip
          have hkd' : (k : Int) < (nd : Int) := by omega
          have hsdl : sd.length = nd := HDS.out.1.symm
          have hdl : ds.length = nd := by rw [← hsdl]; exact HDD.out.1.symm
          obtain ⟨tk, htk⟩ : ∃ tk, sd[k]? = some tk := ⟨_, List.getElem?_eq_getElem (by omega)⟩
          obtain ⟨d, hdk⟩ : ∃ d, ds[k]? = some d := ⟨_, List.getElem?_eq_getElem (by omega)⟩
          obtain ⟨be, oe, hAd, hbe, de⟩ := (HDS.out.below HW.out).at_ htk
          subst hAd
          have hbe' : be < wr.heap.size := Nat.lt_of_lt_of_le hbe HB.out
          have hdel := HDD.out.2 k tk d htk hdk
          obtain ⟨Ae, ne, ce⟩ := tk
          simp only at hdel de
          have HDL := Lib.hid hdel
          have hne0 : (0 : Int) ≤ (ne : Int) := by omega
          have hnec : ne ≤ ce ∧ ce ≤ maxLen := ⟨hdel.2.1.1, hdel.2.1.2.1⟩
          have hce1 : (ne : Int) ≤ (ce : Int) := by omega
          have hce2 : (ce : Int) ≤ 9223372036854775807 := by have := hnec.2; simp only [maxLen] at this; omega
          have HTK := Lib.hid htk
          clear hsdl hdl hdk hdel hnec
          obtain ⟨x, hx, htx⟩ := HE.out.2
          have ht500 : t.size ≤ 500 := by rw [← htx]; exact (HWD.out.2.seat 0 x hx).ck.text
          have HXX := Lib.hid hx
          have HTX := Lib.hid htx
          clear hx htx
          have hc_ := do_any d Ae ne ce _ t wr ((HDL.out.below HW.out).more HB.out) (Nat.le_refl _) (by omega)
          have Hc_ := Lib.hid hc_
          clear hc_
          go_wp2_with fail
          refine Hc_.out.mono ?_
          rintro en w64 ⟨rfl, hb64⟩
          clear Hc_
          have HWD_ := Lib.hid (HWD.out.below hb64)
          clear HWD
          have HWD := HWD_
          clear HWD_
          have HW_ := Lib.hid (HW.out.trans (hb64.mono HB.out))
          clear HW
          have HW := HW_
          clear HW_
          have HB_ : Hid (B ≤ w64.heap.size) := Lib.hid (Nat.le_trans HB.out hb64.size)
          clear HB hb64
          have HB := HB_
          clear HB_
          have hbe9 : be < w64.heap.size := Nat.lt_of_lt_of_le hbe HB.out
          have de9 := (HDS.out.below HW.out).at_ HTK.out
          obtain ⟨be2, oe2, hAd2, hbe2, de2⟩ := de9
          have hAd2 := Option.some.inj hAd2
          injection hAd2 with e1 e2 e3
          subst e1 e2
          clear de
          have hc_ := wedit_B HWD.out HB.out (i := 0) (by rw [HX.out]; decide) d Ae ne ce (HDL.out.below HW.out)
          have Hc_ := Lib.hid hc_
          clear hc_
          go_wp2_with fail
          refine Hc_.out.mono ?_
          rintro en we (⟨EE, rfl, hEE, hwd, hb2⟩ | ⟨x1, rfl, hx1, hdo, hwd, hb2⟩)
          · skip
            clear Hc_
            have hEE2 : (EE == 0) = false := by simpa using hEE
            clear HWD
            have HWD := Lib.hid hwd
            clear hwd
            have HW_ := Lib.hid (HW.out.trans hb2)
            clear HW
            have HW := HW_
            clear HW_
            have HB_ : Hid (B ≤ we.heap.size) := Lib.hid (Nat.le_trans HB.out hb2.size)
            clear HB hb2
            have HB := HB_
            clear HB_
            have hc_ := wtext_B HWD.out (i := 0) HXX.out
            rw [HTX.out] at hc_
            have Hc_ := Lib.hid hc_
            clear hc_
            go_wp2_with fail
            refine Hc_.out.mono ?_
            rintro en w85 ⟨rfl, hb85⟩
            clear Hc_
            have HWD_ := Lib.hid (HWD.out.below hb85)
            clear HWD
            have HWD := HWD_
            clear HWD_
            have HW_ := Lib.hid (HW.out.trans (hb85.mono HB.out))
            clear HW
            have HW := HW_
            clear HW_
            have HB_ : Hid (B ≤ w85.heap.size) := Lib.hid (Nat.le_trans HB.out hb85.size)
            clear HB hb85
            have HB := HB_
            clear HB_
            clear HDL HTK
            go_wp2_with fail
            go_roundw
            case rel => exact ⟨k + 1, s, X, put, edits, e, t, by omega, by go_num, rfl, HWD, HE, HW, HB⟩
            case measure => simp [intOf]; omega
          · skip
            clear Hc_
            have HE2 : Hid (EvA (doS d t) s (X.set 0 (editS x1 d))) := Lib.hid (HE.out.edit hx1 d)
            have hde : doE d t = 0 := by
              rw [HXX.out] at hx1
              have h2 := Option.some.inj hx1
              rw [← HTX.out, h2]
              exact hdo
            clear hdo hx1
            obtain ⟨y, hy, hty⟩ := HE2.out.2
            have HYY := Lib.hid hy
            have HTY := Lib.hid hty
            clear hy hty
            clear HWD
            have HWD := Lib.hid hwd
            clear hwd
            have HW_ := Lib.hid (HW.out.trans hb2)
            clear HW
            have HW := HW_
            clear HW_
            have HB_ : Hid (B ≤ we.heap.size) := Lib.hid (Nat.le_trans HB.out hb2.size)
            clear HB hb2
            have HB := HB_
            clear HB_
            have hc_ := wtext_B HWD.out (i := 0) HYY.out
            rw [HTY.out] at hc_
            have Hc_ := Lib.hid hc_
            clear hc_
            go_wp2_with fail
            refine Hc_.out.mono ?_
            rintro en w85 ⟨rfl, hb85⟩
            clear Hc_
            have HWD_ := Lib.hid (HWD.out.below hb85)
            clear HWD
            have HWD := HWD_
            clear HWD_
            have HW_ := Lib.hid (HW.out.trans (hb85.mono HB.out))
            clear HW
            have HW := HW_
            clear HW_
            have HB_ : Hid (B ≤ w85.heap.size) := Lib.hid (Nat.le_trans HB.out hb85.size)
            clear HB hb85
            have HB := HB_
            clear HB_
            clear HDL HTK
            go_wp2_with fail
            go_roundw
            case rel => exact ⟨k + 1, s, _, _, _, _, _, by omega, by go_num, rfl, HWD, HE2, HW, HB⟩
            case measure => simp [intOf]; omega
        · skip
          have hkd' : (nd : Int) ≤ (k : Int) := by omega
          have HWI0 := Lib.hid HWD.out.2
          have hc_ := act_B HWD.out HB.out [] _ 0 cc (HRW.out.below HW.out) [] none 0 0 ⟨rfl, Rd.nil _ _ _, by simp⟩
          rw [HX.out] at hc_
          have Hc_ := Lib.hid hc_
          clear hc_
          go_wp2_with fail
          refine Hc_.out.mono ?_
          rintro en w65 ⟨rfl, s2, X2, put2, ed2, e2, hact, hwd, hb2⟩
          have HACT := Lib.hid hact
          clear hact
          clear Hc_
          clear HWD
          have HWD := Lib.hid hwd
          clear hwd
          have HW_ := Lib.hid (HW.out.trans hb2)
          clear HW
          have HW := HW_
          clear HW_
          have HB_ : Hid (B ≤ w65.heap.size) := Lib.hid (Nat.le_trans HB.out hb2.size)
          clear HB hb2
          have HB := HB_
          clear HB_
          have HE2 : Hid (EvA t s2 X2) := Lib.hid (HE.out.act HWI0.out HACT.out)
          clear HACT
          go_wp2_with fail
          go_roundw
          case rel => exact ⟨k + 1, s2, X2, _, ed2, e2, t, by omega, by go_num, rfl, HWD, HE2, HW, HB⟩
          case measure => simp [intOf]; omega
      | cons a r =>
        have hnc1 : (1 : Int) ≤ (nc : Int) := by have hncl := HNC.out; rw [List.length_cons] at hncl; omega
        obtain ⟨b0, o0, hAc, hb0, d0⟩ := (HRW.out.below HW.out).at_ 0 (by have hncl := HNC.out; rw [List.length_cons] at hncl; omega)
        subst hAc
        simp only [List.getElem_cons_zero, Nat.add_zero] at d0
        have hb0' : b0 < wr.heap.size := Nat.lt_of_lt_of_le hb0 HB.out
        have hnc01 : (0 : Int) < (nc : Int) := by omega
        obtain ⟨K, hKe⟩ : ∃ x, wi a 3 = x := ⟨_, rfl⟩
        have hKl : K < 3 := by rw [← hKe]; exact wi_lt a 3 (by decide)
        have hc_ := within_any a 3 wr (by decide) (by decide)
        rw [hKe] at hc_
        have Hc_ := Lib.hid hc_
        have HK := Lib.hid hKe
        clear hc_ hKe
        go_wp2_with fail
        refine Hc_.out.mono ?_
        rintro en w9 ⟨rfl, rfl⟩
        clear Hc_
        by_cases hK0 : K = 0
        · skip
          subst hK0
          by_cases hkd : k < nd
          · skip
            have hkd' : (k : Int) < (nd : Int) := by omega
            have hsdl : sd.length = nd := HDS.out.1.symm
            have hdl : ds.length = nd := by rw [← hsdl]; exact HDD.out.1.symm
            obtain ⟨tk, htk⟩ : ∃ tk, sd[k]? = some tk := ⟨_, List.getElem?_eq_getElem (by omega)⟩
            obtain ⟨d, hdk⟩ : ∃ d, ds[k]? = some d := ⟨_, List.getElem?_eq_getElem (by omega)⟩
            obtain ⟨be, oe, hAd, hbe, de⟩ := (HDS.out.below HW.out).at_ htk
            subst hAd
            have hbe' : be < wr.heap.size := Nat.lt_of_lt_of_le hbe HB.out
            have hdel := HDD.out.2 k tk d htk hdk
            obtain ⟨Ae, ne, ce⟩ := tk
            simp only at hdel de
            have HDL := Lib.hid hdel
            have hne0 : (0 : Int) ≤ (ne : Int) := by omega
            have hnec : ne ≤ ce ∧ ce ≤ maxLen := ⟨hdel.2.1.1, hdel.2.1.2.1⟩
            have hce1 : (ne : Int) ≤ (ce : Int) := by omega
            have hce2 : (ce : Int) ≤ 9223372036854775807 := by have := hnec.2; simp only [maxLen] at this; omega
            have HTK := Lib.hid htk
            clear hsdl hdl hdk hdel hnec
            obtain ⟨x, hx, htx⟩ := HE.out.2
            have ht500 : t.size ≤ 500 := by rw [← htx]; exact (HWD.out.2.seat 0 x hx).ck.text
            have HXX := Lib.hid hx
            have HTX := Lib.hid htx
            clear hx htx
            have hc_ := do_any d Ae ne ce _ t wr ((HDL.out.below HW.out).more HB.out) (Nat.le_refl _) (by omega)
            have Hc_ := Lib.hid hc_
            clear hc_
            go_wp2_with fail
            refine Hc_.out.mono ?_
            rintro en w84 ⟨rfl, hb84⟩
            clear Hc_
            have HWD_ := Lib.hid (HWD.out.below hb84)
            clear HWD
            have HWD := HWD_
            clear HWD_
            have HW_ := Lib.hid (HW.out.trans (hb84.mono HB.out))
            clear HW
            have HW := HW_
            clear HW_
            have HB_ : Hid (B ≤ w84.heap.size) := Lib.hid (Nat.le_trans HB.out hb84.size)
            clear HB hb84
            have HB := HB_
            clear HB_
            have hbe9 : be < w84.heap.size := Nat.lt_of_lt_of_le hbe HB.out
            have de9 := (HDS.out.below HW.out).at_ HTK.out
            obtain ⟨be2, oe2, hAd2, hbe2, de2⟩ := de9
            have hAd2 := Option.some.inj hAd2
            injection hAd2 with e1 e2 e3
            subst e1 e2
            clear de
            have hc_ := wedit_B HWD.out HB.out (i := 0) (by rw [HX.out]; decide) d Ae ne ce (HDL.out.below HW.out)
            have Hc_ := Lib.hid hc_
            clear hc_
            go_wp2_with fail
            refine Hc_.out.mono ?_
            rintro en we (⟨EE, rfl, hEE, hwd, hb2⟩ | ⟨x1, rfl, hx1, hdo, hwd, hb2⟩)
            · skip
              clear Hc_
              have hEE2 : (EE == 0) = false := by simpa using hEE
              clear HWD
              have HWD := Lib.hid hwd
              clear hwd
              have HW_ := Lib.hid (HW.out.trans hb2)
              clear HW
              have HW := HW_
              clear HW_
              have HB_ : Hid (B ≤ we.heap.size) := Lib.hid (Nat.le_trans HB.out hb2.size)
              clear HB hb2
              have HB := HB_
              clear HB_
              have hc_ := wtext_B HWD.out (i := 0) HXX.out
              rw [HTX.out] at hc_
              have Hc_ := Lib.hid hc_
              clear hc_
              go_wp2_with fail
              refine Hc_.out.mono ?_
              rintro en w105 ⟨rfl, hb105⟩
              clear Hc_
              have HWD_ := Lib.hid (HWD.out.below hb105)
              clear HWD
              have HWD := HWD_
              clear HWD_
              have HW_ := Lib.hid (HW.out.trans (hb105.mono HB.out))
              clear HW
              have HW := HW_
              clear HW_
              have HB_ : Hid (B ≤ w105.heap.size) := Lib.hid (Nat.le_trans HB.out hb105.size)
              clear HB hb105
              have HB := HB_
              clear HB_
              clear HDL HTK
              go_wp2_with fail
              go_roundw
              case rel => exact ⟨k + 1, s, X, put, edits, e, t, by omega, by go_num, rfl, HWD, HE, HW, HB⟩
              case measure => simp [intOf]; omega
            · skip
              clear Hc_
              have HE2 : Hid (EvA (doS d t) s (X.set 0 (editS x1 d))) := Lib.hid (HE.out.edit hx1 d)
              have hde : doE d t = 0 := by
                rw [HXX.out] at hx1
                have h2 := Option.some.inj hx1
                rw [← HTX.out, h2]
                exact hdo
              clear hdo hx1
              obtain ⟨y, hy, hty⟩ := HE2.out.2
              have HYY := Lib.hid hy
              have HTY := Lib.hid hty
              clear hy hty
              clear HWD
              have HWD := Lib.hid hwd
              clear hwd
              have HW_ := Lib.hid (HW.out.trans hb2)
              clear HW
              have HW := HW_
              clear HW_
              have HB_ : Hid (B ≤ we.heap.size) := Lib.hid (Nat.le_trans HB.out hb2.size)
              clear HB hb2
              have HB := HB_
              clear HB_
              have hc_ := wtext_B HWD.out (i := 0) HYY.out
              rw [HTY.out] at hc_
              have Hc_ := Lib.hid hc_
              clear hc_
              go_wp2_with fail
              refine Hc_.out.mono ?_
              rintro en w105 ⟨rfl, hb105⟩
              clear Hc_
              have HWD_ := Lib.hid (HWD.out.below hb105)
              clear HWD
              have HWD := HWD_
              clear HWD_
              have HW_ := Lib.hid (HW.out.trans (hb105.mono HB.out))
              clear HW
              have HW := HW_
              clear HW_
              have HB_ : Hid (B ≤ w105.heap.size) := Lib.hid (Nat.le_trans HB.out hb105.size)
              clear HB hb105
              have HB := HB_
              clear HB_
              clear HDL HTK
              go_wp2_with fail
              go_roundw
              case rel => exact ⟨k + 1, s, _, _, _, _, _, by omega, by go_num, rfl, HWD, HE2, HW, HB⟩
              case measure => simp [intOf]; omega
          · skip
            have hkd' : (nd : Int) ≤ (k : Int) := by omega
            have HWI0 := Lib.hid HWD.out.2
            have hc_ := act_B HWD.out HB.out (a :: r) _ nc cc (HRW.out.below HW.out) [] none 0 0 ⟨rfl, Rd.nil _ _ _, by simp⟩
            rw [HX.out] at hc_
            have Hc_ := Lib.hid hc_
            clear hc_
            go_wp2_with fail
            refine Hc_.out.mono ?_
            rintro en w85 ⟨rfl, s2, X2, put2, ed2, e2, hact, hwd, hb2⟩
            have HACT := Lib.hid hact
            clear hact
            clear Hc_
            clear HWD
            have HWD := Lib.hid hwd
            clear hwd
            have HW_ := Lib.hid (HW.out.trans hb2)
            clear HW
            have HW := HW_
            clear HW_
            have HB_ : Hid (B ≤ w85.heap.size) := Lib.hid (Nat.le_trans HB.out hb2.size)
            clear HB hb2
            have HB := HB_
            clear HB_
            have HE2 : Hid (EvA t s2 X2) := Lib.hid (HE.out.act HWI0.out HACT.out)
            clear HACT
            go_wp2_with fail
            go_roundw
            case rel => exact ⟨k + 1, s2, X2, _, ed2, e2, t, by omega, by go_num, rfl, HWD, HE2, HW, HB⟩
            case measure => simp [intOf]; omega
        · skip
          have hKi : (0 : Int) < ((K : Nat) : Int) := by omega
          have HWI0 := Lib.hid HWD.out.2
          have hc_ := act_B HWD.out HB.out (a :: r) _ nc cc (HRW.out.below HW.out) [] none 0 0 ⟨rfl, Rd.nil _ _ _, by simp⟩
          rw [HX.out] at hc_
          have Hc_ := Lib.hid hc_
          clear hc_
          go_wp2_with fail
          refine Hc_.out.mono ?_
          rintro en w65 ⟨rfl, s2, X2, put2, ed2, e2, hact, hwd, hb2⟩
          have HACT := Lib.hid hact
          clear hact
          clear Hc_
          clear HWD
          have HWD := Lib.hid hwd
          clear hwd
          have HW_ := Lib.hid (HW.out.trans hb2)
          clear HW
          have HW := HW_
          clear HW_
          have HB_ : Hid (B ≤ w65.heap.size) := Lib.hid (Nat.le_trans HB.out hb2.size)
          clear HB hb2
          have HB := HB_
          clear HB_
          have HE2 : Hid (EvA t s2 X2) := Lib.hid (HE.out.act HWI0.out HACT.out)
          clear HACT
          go_wp2_with fail
          go_roundw
          case rel => exact ⟨k + 1, s2, X2, _, ed2, e2, t, by omega, by go_num, rfl, HWD, HE2, HW, HB⟩
          case measure => simp [intOf]; omega
    · skip
      have hkn : k = nl := by omega
      subst hkn
      have hc_ := wsettle_B HWD.out HB.out (EvA t) (EvA.evw t _ _ _) HE.out
      have Hc_ := Lib.hid hc_
      clear hc_
      go_wp2_with fail
      refine Hc_.out.mono ?_
      rintro en w24 ⟨rfl, s9, X9, hwd, hcalm, hev9, hlen9, hb2⟩
      have HCA := Lib.hid hcalm
      have HEV := Lib.hid hev9
      have HX9 : Hid (X9.length = 1) := Lib.hid (by rw [hlen9]; exact HX.out)
      clear hcalm hlen9 hev9
      clear Hc_
      clear HWD
      have HWD := Lib.hid hwd
      clear hwd
      have HW_ := Lib.hid (HW.out.trans hb2)
      clear HW
      have HW := HW_
      clear HW_
      have HB_ : Hid (B ≤ w24.heap.size) := Lib.hid (Nat.le_trans HB.out hb2.size)
      clear HB hb2
      have HB := HB_
      clear HB_
      obtain ⟨x, hx, htx⟩ := HEV.out.2
      have HXX := Lib.hid hx
      have HTX := Lib.hid htx
      clear hx htx
      have hc_ := wtext_B HWD.out (i := 0) HXX.out
      rw [HTX.out] at hc_
      have Hc_ := Lib.hid hc_
      clear hc_
      go_wp2_with fail
      refine Hc_.out.mono ?_
      rintro en w25 ⟨rfl, hb25⟩
      clear Hc_
      have HWD_ := Lib.hid (HWD.out.below hb25)
      clear HWD
      have HWD := HWD_
      clear HWD_
      have HW_ := Lib.hid (HW.out.trans (hb25.mono HB.out))
      clear HW
      have HW := HW_
      clear HW_
      have HB_ : Hid (B ≤ w25.heap.size) := Lib.hid (Nat.le_trans HB.out hb25.size)
      clear HB hb25
      have HB := HB_
      clear HB_
      obtain ⟨R0, hR0⟩ : ∃ R0, s9.log.revs = R0 := ⟨_, rfl⟩
      obtain ⟨NR, hNR⟩ : ∃ NR, R0.length = NR := ⟨_, rfl⟩
      have HR0 := Lib.hid hR0
      have HNR := Lib.hid hNR
      have hNR4 : NR ≤ 64 := by rw [← hNR, ← hR0]; exact HWD.out.2.len
      have hNR0 : (0 : Int) ≤ (NR : Int) := by omega
      clear hR0 hNR
      have hc_ := wrevs_B HWD.out
      have Hc_ := Lib.hid hc_
      clear hc_
      go_wp2_with fail
      refine Hc_.out.mono ?_
      rintro en w26 ⟨⟨Aw, nw, cw⟩, ssw, rfl, how, hb26⟩
      clear Hc_
      have HWD_ := Lib.hid (HWD.out.below hb26)
      clear HWD
      have HWD := HWD_
      clear HWD_
      have HW_ := Lib.hid (HW.out.trans (hb26.mono HB.out))
      clear HW
      have HW := HW_
      clear HW_
      have HB_ : Hid (B ≤ w26.heap.size) := Lib.hid (Nat.le_trans HB.out hb26.size)
      clear HB hb26
      have HB := HB_
      clear HB_
      rw [HR0.out] at how
      simp only at how
      obtain rfl : NR = nw := by
        obtain ⟨A9, c9, e9⟩ := how.form
        injection e9 with e1 e2 e3
        rw [← HNR.out]; exact e2.symm
      have how := how.base (Nat.zero_le _)
      have hcw1 : (NR : Int) ≤ (cw : Int) := by have := how.rd.caps; omega
      have hcw2 : (cw : Int) ≤ 9223372036854775807 := by have := how.rd.caps; omega
      have HV := Lib.hid how
      clear how
      have htx : txt emp R0 NR = t := by
        have h1 := (HWD.out.2.calm HCA.out HXX.out).2.2.1
        rw [← HTX.out, h1, ← HNR.out, ← HR0.out]
      have hte : txE emp R0 = 0 := by
        have h1 := HWD.out.2.inv.log.txe
        rw [HWD.out.2.text, HR0.out] at h1
        exact h1
      have HTE := Lib.hid hte
      have HTT := Lib.hid htx
      clear hte htx HWD
      have hc_ := rtext_good emp R0 Aw NR cw _ NR w26 HV.out.rd (Nat.le_refl _) HTE.out (by rw [HNR.out]; exact Nat.le_refl _)
      rw [HTT.out] at hc_
      have Hc_ := Lib.hid hc_
      clear hc_
      go_wp2_with fail
      refine Hc_.out.mono ?_
      rintro en w27 ⟨rfl, hb27⟩
      clear Hc_
      have HW_ := Lib.hid (HW.out.trans (hb27.mono HB.out))
      clear HW
      have HW := HW_
      clear HW_
      have HB_ : Hid (B ≤ w27.heap.size) := Lib.hid (Nat.le_trans HB.out hb27.size)
      clear HB hb27
      have HB := HB_
      clear HB_
      go_wp2_with fail
      go_ret
      exact ⟨rfl, HBw.out ▸ HW.out⟩
end Go.Proofs.Ytmnnaemcjmiplaa
