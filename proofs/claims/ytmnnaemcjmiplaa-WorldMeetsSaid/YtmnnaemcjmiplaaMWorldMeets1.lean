/- walk of scrivkeep.WorldMeets. -/
import Derived.Test.YtmnnaemcjmiplaaW30
namespace Go.Proofs.Ytmnnaemcjmiplaa
open Go.ChangeShapes Go.WideShapes Go.RowKit
set_option linter.unusedVariables false
set_option linter.unusedSimpArgs false
set_option maxRecDepth 100000
set_option maxHeartbeats 4000000
theorem wcalm_T {w : World} {B q : Nat} {s : Sh} {X : List St} {put edits : Int} {e : Nat → Nat} (h : WdB w B q s X put edits e) (hc : calmW s X) :
    Calls Try.prog 44 #[.pointer (some ⟨q, 0, none⟩)] w fun e w' => e = .returned (.bool true) ∧ Below w.heap.size w w' := by
  obtain ⟨F, sq, gs, cap, E, sp, hM, _⟩ := h.1
  refine (wcalm_any w F q sq gs cap E sp s X put edits hM h.2.base).mono ?_
  rintro en w1 ⟨b, rfl, hcal, hb1⟩
  cases b with
  | true => exact ⟨rfl, hb1⟩
  | false => exact absurd hc (by simpa using hcal)
theorem calm_up {s s' : Sh} {X X' : List St} {i : Nat} {b : Bool} (hc : calmW s X) (h : UpR s X i b s' X') : b = false ∧ s' = s ∧ X' = X := by
  cases h with
  | no x hx hu => exact ⟨rfl, rfl, rfl⟩
  | yes x b d hx hu hE hl =>
    have := (hc x (List.mem_of_getElem? hx)).1
    rw [hu] at this
    cases this
theorem calm_down {s : Sh} {X X' : List St} {i : Nat} {b : Bool} (hc : calmW s X) (h : DownR s X i b X') : b = false ∧ X' = X := by
  cases h with
  | no x hx ht => exact ⟨rfl, rfl⟩
  | yes x hx ht =>
    have := (hc x (List.mem_of_getElem? hx)).2
    omega
theorem walk_WorldMeets (n : Int) (wn : (Lit.int .i64 n).wf = true) (v1 : Value) (l : List (List Int)) (v2 : Value) (ds : List (List Pt)) (w : World) (hl : IsRows w v1 l) (hd : IsDeltas w v2 ds) :
    Calls Try.prog 11 #[.int .i64 n, v1, v2] w fun e w' => e = .returned (.bool true) ∧ Below w.heap.size w w' := by
  obtain ⟨Al, nl, cl, sl, rfl, hrs, hrl⟩ := hl
  obtain ⟨Ad, nd, cd, sd, rfl, hds, hdd⟩ := hd
  obtain ⟨B, hB⟩ : ∃ B, w.heap.size = B := ⟨_, rfl⟩
  rw [hB] at hrs hrl hds hdd
  have HRS := Lib.hid hrs
  have HRL := Lib.hid hrl
  have HDS := Lib.hid hds
  have HDD := Lib.hid hdd
  have HBw := Lib.hid hB
  have HB : Hid (B ≤ w.heap.size) := Lib.hid (by omega)
  have HW : Hid (Below B w w) := Lib.hid (Below.refl _ _)
  have hnl0 : (0 : Int) ≤ (nl : Int) := by omega
  have hnd0 : (0 : Int) ≤ (nd : Int) := by omega
  have hnlc : nl ≤ cl ∧ cl ≤ maxLen := ⟨hrs.2.1, hrs.2.2.1⟩
  have hndc : nd ≤ cd ∧ cd ≤ maxLen := ⟨hds.2.1, hds.2.2.1⟩
  have hcl1 : (nl : Int) ≤ (cl : Int) := by omega
  have hcl2 : (cl : Int) ≤ 9223372036854775807 := by have := hnlc.2; simp only [maxLen] at this; omega
  have hcd1 : (nd : Int) ≤ (cd : Int) := by omega
  have hcd2 : (cd : Int) ≤ 9223372036854775807 := by have := hndc.2; simp only [maxLen] at this; omega
  clear hrs hrl hds hdd hB hnlc hndc
  go_enter Try.func11, Try.ntmps11
  obtain ⟨m, hm⟩ : ∃ m, wi n 4 = m := ⟨_, rfl⟩
  have hm4 : m < 4 := by rw [← hm]; exact wi_lt n 4 (by decide)
  have hc_ := within_any n 4 w (by decide) (by decide)
  rw [hm] at hc_
  have Hc_ := Lib.hid hc_
  clear hc_ hm
  go_wp2_with fail
  refine Hc_.out.mono ?_
  rintro en w9 ⟨rfl, rfl⟩
  clear Hc_
  obtain ⟨N, hN⟩ : ∃ N, 1 + m = N := ⟨_, rfl⟩
  have hNc : IntKind.i64.wrap (1 + (m : Int)) = (N : Int) := by rw [← hN]; exact IntWalk.i64_in _ (by omega) |>.trans (by omega)
  have hN1 : 1 ≤ N := by omega
  have hN4 : N ≤ 4 := by omega
  clear hN hm4
  have hc_ := wnew_B (B := B) N hN1 hN4 w HB.out
  have Hc_ := Lib.hid hc_
  clear hc_
  go_wp2_with fail
  refine Hc_.out.mono ?_
  rintro en w1 ⟨q, rfl, hwd, hb1⟩
  clear Hc_
  have HN := Lib.hid hwd
  have HZ : Hid (w1.heap.size ≤ w1.heap.size) := Lib.hid (Nat.le_refl _)
  obtain ⟨Z, hZ⟩ : ∃ Z, w1.heap.size = Z := ⟨_, rfl⟩
  rw [hZ] at HN
  have HZ : Hid (Z ≤ w1.heap.size) := Lib.hid (Nat.le_of_eq hZ.symm)
  clear hwd hZ
  have HW_ := Lib.hid (HW.out.trans (hb1.mono HB.out))
  clear HW
  have HW := HW_
  clear HW_
  have HB_ : Hid (B ≤ w1.heap.size) := Lib.hid (Nat.le_trans HB.out hb1.size)
  clear HB hb1
  have HB := HB_
  clear HB_
  have hc_ := wput_any ⟨#[97]⟩ (by decide) w1
  have Hc_ := Lib.hid hc_
  clear hc_
  go_wp2_with fail
  refine Hc_.out.mono ?_
  rintro en w2 ⟨Aa, rfl, hra, hza, hb2⟩
  clear Hc_
  have HRA := Lib.hid hra
  have HZA : Hid (∀ ad, Aa = some ad → Z ≤ ad.block) := Lib.hid (fun ad e => Nat.le_trans HZ.out (hza ad e))
  clear hra hza
  have HN_ := Lib.hid (HN.out.below hb2)
  clear HN
  have HN := HN_
  clear HN_
  have HZ_ := Lib.hid (Nat.le_trans HZ.out (hb2.size))
  clear HZ
  have HZ := HZ_
  clear HZ_
  have HW_ := Lib.hid (HW.out.trans (hb2.mono HB.out))
  clear HW
  have HW := HW_
  clear HW_
  have HB_ : Hid (B ≤ w2.heap.size) := Lib.hid (Nat.le_trans HB.out hb2.size)
  clear HB hb2
  have HB := HB_
  clear HB_
  have hc_ := wfirst_B N hN1 HN.out HB.out ⟨#[97]⟩ (by decide) Aa 1 1 HRA.out HZA.out chk_a (by rw [nP_a]; decide)
  rw [nP_a] at hc_
  have Hc_ := Lib.hid hc_
  clear hc_
  go_wp2_with fail
  refine Hc_.out.mono ?_
  rintro en w3 ⟨rfl, hwd0, hb2⟩
  have hwd : WdB w3 B q shN (X0 N) 1 1 (fun k => if k = 0 then 1 else 0) := hwd0
  clear hwd0
  clear Hc_
  have HWD := Lib.hid hwd
  clear hwd
  have HW_ := Lib.hid (HW.out.trans hb2)
  clear HW
  have HW := HW_
  clear HW_
  have HB_ : Hid (B ≤ w3.heap.size) := Lib.hid (Nat.le_trans HB.out hb2.size)
  clear HB hb2
  have HB := HB_
  clear HB_
  clear HN HRA HZA HZ
  go_upto_region 6 with (fail)
  have HX : Hid ((X0 N).length = N) := Lib.hid (X0_len N)
  have HE : Hid (EvS shN (X0 N)) := Lib.hid (EvS.zero N hN1)
  go_loopw [9, 10, 11, 39] (fun x9 x10 x11 iv wr => ∃ (k : Nat) (s : Sh) (X : List St) (put edits : Int) (e : Nat → Nat), k ≤ nl ∧ iv = .int .i64 k ∧ Hid (WdB wr B q s X put edits e) ∧ Hid (X.length = N) ∧ Hid (EvS s X) ∧ Hid (Below B w wr) ∧ Hid (B ≤ wr.heap.size)) (fun _ _ _ iv _ => nl - (intOf iv).toNat)
  case atStart => exact ⟨0, _, _, _, _, _, by omega, rfl, HWD, HX, HE, HW, HB⟩
  case round =>
    clear HWD HX HE HW HB
    obtain ⟨k, s, X, put, edits, e, hk, rfl, HWD, HX, HE, HW, HB⟩ := hrel
    by_cases hlt : k < nl
    · skip
      have hk0 : (0 : Int) ≤ (k : Int) := by omega
      have hkn : (k : Int) < (nl : Int) := by omega
      have hsll : sl.length = nl := HRS.out.1.symm
      have hll : l.length = nl := by rw [← hsll]; exact HRL.out.1.symm
      obtain ⟨sk, hsk⟩ : ∃ sk, sl[k]? = some sk := ⟨_, List.getElem?_eq_getElem (by omega)⟩
      obtain ⟨cs, hcs⟩ : ∃ cs, l[k]? = some cs := ⟨_, List.getElem?_eq_getElem (by omega)⟩
      obtain ⟨bk, ok, hAl, hbk, dk⟩ := (HRS.out.below HW.out).at_ hsk
      subst hAl
      have hbk' : bk < wr.heap.size := Nat.lt_of_lt_of_le hbk HB.out
      have hrow := HRL.out.2 k sk cs hsk hcs
      obtain ⟨Ac, nc, cc⟩ := sk
      simp only at hrow dk
      have HRW := Lib.hid hrow
      have hnc0 : (0 : Int) ≤ (nc : Int) := by omega
      have HNC : Hid (nc = cs.length) := Lib.hid hrow.1
      clear hsll hll hsk hcs hrow
      by_cases hkd : k < nd
      · skip
        have hkd' : (k : Int) < (nd : Int) := by omega
        have hsdl : sd.length = nd := HDS.out.1.symm
        have hdl : ds.length = nd := by rw [← hsdl]; exact HDD.out.1.symm
        obtain ⟨tk, htk⟩ : ∃ tk, sd[k]? = some tk := ⟨_, List.getElem?_eq_getElem (by omega)⟩
        obtain ⟨d, hdk⟩ : ∃ d, ds[k]? = some d := ⟨_, List.getElem?_eq_getElem (by omega)⟩
        obtain ⟨be, oe, hAd, hbe, de⟩ := (HDS.out.below HW.out).at_ htk
        subst hAd
        have hbe' : be < wr.heap.size := Nat.lt_of_lt_of_le hbe HB.out
        have hdel := HDD.out.2 k tk d htk hdk
        obtain ⟨Ae, ne, ce⟩ := tk
        simp only at hdel de
        have HDL := Lib.hid hdel
        have hne0 : (0 : Int) ≤ (ne : Int) := by omega
        have hnec : ne ≤ ce ∧ ce ≤ maxLen := ⟨hdel.2.1.1, hdel.2.1.2.1⟩
        have hce1 : (ne : Int) ≤ (ce : Int) := by omega
        have hce2 : (ce : Int) ≤ 9223372036854775807 := by have := hnec.2; simp only [maxLen] at this; omega
        have HTK := Lib.hid htk
        clear hsdl hdl hdk hdel hnec
        have hc_ := act_B HWD.out HB.out cs Ac nc cc (HRW.out.below HW.out) d Ae ne ce (HDL.out.below HW.out)
        rw [HX.out] at hc_
        have Hc_ := Lib.hid hc_
        clear hc_
        go_wp2_with fail
        refine Hc_.out.mono ?_
        rintro en w44 ⟨rfl, s2, X2, put2, ed2, e2, hact, hwd, hb2⟩
        have HX2 : Hid (X2.length = N) := Lib.hid (by rw [hact.len]; exact HX.out)
        have HE2 := Lib.hid (HE.out.act hact)
        clear hact
        clear Hc_
        clear HWD
        have HWD := Lib.hid hwd
        clear hwd
        have HW_ := Lib.hid (HW.out.trans hb2)
        clear HW
        have HW := HW_
        clear HW_
        have HB_ : Hid (B ≤ w44.heap.size) := Lib.hid (Nat.le_trans HB.out hb2.size)
        clear HB hb2
        have HB := HB_
        clear HB_
        go_wp2_with fail
        go_roundw
        case rel => exact ⟨k + 1, s2, X2, _, ed2, e2, by omega, by go_num, HWD, HX2, HE2, HW, HB⟩
        case measure => simp [intOf]; omega
      · skip
        have hkd' : (nd : Int) ≤ (k : Int) := by omega
        have hc_ := act_B HWD.out HB.out cs Ac nc cc (HRW.out.below HW.out) [] none 0 0 ⟨rfl, Rd.nil _ _ _, by simp⟩
        rw [HX.out] at hc_
        have Hc_ := Lib.hid hc_
        clear hc_
        go_wp2_with fail
        refine Hc_.out.mono ?_
        rintro en w44 ⟨rfl, s2, X2, put2, ed2, e2, hact, hwd, hb2⟩
        have HX2 : Hid (X2.length = N) := Lib.hid (by rw [hact.len]; exact HX.out)
        have HE2 := Lib.hid (HE.out.act hact)
        clear hact
        clear Hc_
        clear HWD
        have HWD := Lib.hid hwd
        clear hwd
        have HW_ := Lib.hid (HW.out.trans hb2)
        clear HW
        have HW := HW_
        clear HW_
        have HB_ : Hid (B ≤ w44.heap.size) := Lib.hid (Nat.le_trans HB.out hb2.size)
        clear HB hb2
        have HB := HB_
        clear HB_
        go_wp2_with fail
        go_roundw
        case rel => exact ⟨k + 1, s2, X2, _, ed2, e2, by omega, by go_num, HWD, HX2, HE2, HW, HB⟩
        case measure => simp [intOf]; omega
    · skip
      have hkn : k = nl := by omega
      subst hkn
      have hc_ := wsettle_B HWD.out HB.out EvS (EvS.evw _ _ _) HE.out
      have Hc_ := Lib.hid hc_
      clear hc_
      go_wp2_with fail
      refine Hc_.out.mono ?_
      rintro en w24 ⟨rfl, s9, X9, hwd, hcalm, hev9, hlen9, hb2⟩
      have HCA := Lib.hid hcalm
      have HEV := Lib.hid hev9
      have HX9 : Hid (X9.length = N) := Lib.hid (by rw [hlen9]; exact HX.out)
      clear hcalm hlen9 hev9
      clear Hc_
      clear HWD
      have HWD := Lib.hid hwd
      clear hwd
      have HW_ := Lib.hid (HW.out.trans hb2)
      clear HW
      have HW := HW_
      clear HW_
      have HB_ : Hid (B ≤ w24.heap.size) := Lib.hid (Nat.le_trans HB.out hb2.size)
      clear HB hb2
      have HB := HB_
      clear HB_
      obtain ⟨R0, hR0⟩ : ∃ R0, s9.log.revs = R0 := ⟨_, rfl⟩
      obtain ⟨NR, hNR⟩ : ∃ NR, R0.length = NR := ⟨_, rfl⟩
      have HR0 := Lib.hid hR0
      have HNR := Lib.hid hNR
      have hNR4 : NR ≤ 64 := by rw [← hNR, ← hR0]; exact HWD.out.2.len
      have hNR0 : (0 : Int) ≤ (NR : Int) := by omega
      clear hR0 hNR
      have hc_ := wrevs_B HWD.out
      have Hc_ := Lib.hid hc_
      clear hc_
      go_wp2_with fail
      refine Hc_.out.mono ?_
      rintro en w25 ⟨⟨Aw, nw, cw⟩, ssw, rfl, how, hb25⟩
      clear Hc_
      have HWD_ := Lib.hid (HWD.out.below hb25)
      clear HWD
      have HWD := HWD_
      clear HWD_
      have HW_ := Lib.hid (HW.out.trans (hb25.mono HB.out))
      clear HW
      have HW := HW_
      clear HW_
      have HB_ : Hid (B ≤ w25.heap.size) := Lib.hid (Nat.le_trans HB.out hb25.size)
      clear HB hb25
      have HB := HB_
      clear HB_
      rw [HR0.out] at how
      simp only at how
      obtain rfl : NR = nw := by
        obtain ⟨A9, c9, e9⟩ := how.form
        injection e9 with e1 e2 e3
        rw [← HNR.out]; exact e2.symm
      have how := how.base (Nat.zero_le _)
      have hcw1 : (NR : Int) ≤ (cw : Int) := by have := how.rd.caps; omega
      have hcw2 : (cw : Int) ≤ 9223372036854775807 := by have := how.rd.caps; omega
      have HV := Lib.hid how
      clear how
      obtain ⟨TX, hTX⟩ : ∃ TX, txt emp R0 NR = TX := ⟨_, rfl⟩
      have HTX := Lib.hid hTX
      have hnr1 : 1 ≤ NR := by have := (HEV.out.revs HWD.out.2 HCA.out).2; rw [HR0.out, HNR.out] at this; exact this
      have hnr1' : (1 : Int) ≤ (NR : Int) := by omega
      have hte : txE emp R0 = 0 := by
        have h1 := HWD.out.2.inv.log.txe
        rw [HWD.out.2.text, HR0.out] at h1
        exact h1
      have HTE := Lib.hid hte
      clear hte hTX
      have hc_ := rtext_good emp R0 Aw NR cw _ NR w25 HV.out.rd (Nat.le_refl _) HTE.out (by rw [HNR.out]; exact Nat.le_refl _)
      rw [HTX.out] at hc_
      have Hc_ := Lib.hid hc_
      clear hc_
      go_wp2_with fail
      refine Hc_.out.mono ?_
      rintro en w26 ⟨rfl, hb26⟩
      clear Hc_
      have HWD_ := Lib.hid (HWD.out.below hb26)
      clear HWD
      have HWD := HWD_
      clear HWD_
      have HV_ := Lib.hid (HV.out.below hb26)
      clear HV
      have HV := HV_
      clear HV_
      have HW_ := Lib.hid (HW.out.trans (hb26.mono HB.out))
      clear HW
      have HW := HW_
      clear HW_
      have HB_ : Hid (B ≤ w26.heap.size) := Lib.hid (Nat.le_trans HB.out hb26.size)
      clear HB hb26
      have HB := HB_
      clear HB_
      have hc_ := wcalm_T HWD.out HCA.out
      have Hc_ := Lib.hid hc_
      clear hc_
      go_wp2_with fail
      refine Hc_.out.mono ?_
      rintro en w27 ⟨rfl, hb27⟩
      clear Hc_
      have HWD_ := Lib.hid (HWD.out.below hb27)
      clear HWD
      have HWD := HWD_
      clear HWD_
      have HV_ := Lib.hid (HV.out.below hb27)
      clear HV
      have HV := HV_
      clear HV_
      have HW_ := Lib.hid (HW.out.trans (hb27.mono HB.out))
      clear HW
      have HW := HW_
      clear HW_
      have HB_ : Hid (B ≤ w27.heap.size) := Lib.hid (Nat.le_trans HB.out hb27.size)
      clear HB hb27
      have HB := HB_
      clear HB_
      clear HV
      go_upto_region 19 with (fail)
      go_loopw [14, 15, 16, 82] (fun x14 x15 x16 iv wr => ∃ (i : Nat), i ≤ N ∧ iv = .int .i64 i ∧ Hid (WdB wr B q s9 X9 put edits e) ∧ Hid (Below B w wr) ∧ Hid (B ≤ wr.heap.size)) (fun _ _ _ iv _ => N - (intOf iv).toNat)
      case atStart => exact ⟨0, by omega, rfl, HWD, HW, HB⟩
      case round =>
        clear HWD HW HB
        obtain ⟨i, hi, rfl, HWD, HW, HB⟩ := hrel
        by_cases hit : i < N
        · skip
          have hi0 : (0 : Int) ≤ (i : Int) := by omega
          have hiN : (i : Int) < (N : Int) := by omega
          obtain ⟨x, hx⟩ : ∃ x, X9[i]? = some x := ⟨_, List.getElem?_eq_getElem (by rw [HX9.out]; exact hit)⟩
          obtain ⟨c1, c2, c3, c4, c5, c6⟩ := HWD.out.2.calm HCA.out hx
          have c3' : x.c.text = TX := by rw [c3, ← HTX.out, ← HNR.out, ← HR0.out]
          have c5' : x.c.rev = (NR : Int) := by rw [c5, ← HNR.out, ← HR0.out]
          have HC := Lib.hid (And.intro c1 (And.intro c2 (And.intro c3' c5')))
          have HXX := Lib.hid hx
          clear c1 c2 c3 c4 c5 c6 c3' c5' hx
          have hc_ := wclient_B HWD.out HXX.out
          unfold clv clc at hc_
          simp only at hc_
          rw [HC.out.1, HC.out.2.1, HC.out.2.2.1, HC.out.2.2.2] at hc_
          have Hc_ := Lib.hid hc_
          clear hc_
          go_wp2_with fail
          refine Hc_.out.mono ?_
          rintro en w48 ⟨A1, n1, c1, A2, n2, c2, rfl, -, -, hb48⟩
          clear Hc_
          have HWD_ := Lib.hid (HWD.out.below hb48)
          clear HWD
          have HWD := HWD_
          clear HWD_
          have HW_ := Lib.hid (HW.out.trans (hb48.mono HB.out))
          clear HW
          have HW := HW_
          clear HW_
          have HB_ : Hid (B ≤ w48.heap.size) := Lib.hid (Nat.le_trans HB.out hb48.size)
          clear HB hb48
          have HB := HB_
          clear HB_
          have kz := Blk.new w48 85 #[.int .i64 x.c.who, .int .i64 (NR : Nat), .int .i64 x.c.seq, .string TX, .bool false, .slice A1 n1 c1, .bool false, .slice A2 n2 c2]
          have hal := (Below.refl w48.heap.size w48).alloc (Nat.le_refl _) (.cells #[.int .i64 x.c.who, .int .i64 (NR : Nat), .int .i64 x.c.seq, .string TX, .bool false, .slice A1 n1 c1, .bool false, .slice A2 n2 c2] 85)
          have z1 := kz.cell 1
          have z3 := kz.cell 3
          have z4 := kz.cell 4
          have z6 := kz.cell 6
          have lz := kz.lt
          clear kz
          have HWD_ := Lib.hid (HWD.out.below hal)
          clear HWD
          have HWD := HWD_
          clear HWD_
          have HW_ := Lib.hid (HW.out.trans (hal.mono HB.out))
          clear HW
          have HW := HW_
          clear HW_
          have HB_ : Hid (B ≤ (w48.alloc (.cells #[.int .i64 x.c.who, .int .i64 (NR : Nat), .int .i64 x.c.seq, .string TX, .bool false, .slice A1 n1 c1, .bool false, .slice A2 n2 c2] 85)).heap.size) := Lib.hid (Nat.le_trans HB.out hal.size)
          clear HB hal
          have HB := HB_
          clear HB_
          have hIX : i < X9.length := by rw [HX9.out]; exact hit
          have hc_ := wup_B HWD.out HB.out hIX
          have Hc_ := Lib.hid hc_
          clear hc_
          go_wp2_with fail
          refine Hc_.out.mono ?_
          rintro en w49 ⟨b, s8, X8, rfl, hup, hwd, hb2⟩
          obtain ⟨rfl, rfl, rfl⟩ := calm_up HCA.out hup
          clear hup
          clear Hc_
          clear HWD
          have HWD := Lib.hid hwd
          clear hwd
          have HW_ := Lib.hid (HW.out.trans hb2)
          clear HW
          have HW := HW_
          clear HW_
          have HB_ : Hid (B ≤ w49.heap.size) := Lib.hid (Nat.le_trans HB.out hb2.size)
          clear HB hb2
          have HB := HB_
          clear HB_
          have hc_ := wdown_B HWD.out HB.out hIX
          have Hc_ := Lib.hid hc_
          clear hc_
          go_wp2_with fail
          refine Hc_.out.mono ?_
          rintro en w50 ⟨b, X7, rfl, hdn, hwd, hb2⟩
          obtain ⟨rfl, rfl⟩ := calm_down HCA.out hdn
          clear hdn
          clear Hc_
          clear HWD
          have HWD := Lib.hid hwd
          clear hwd
          have HW_ := Lib.hid (HW.out.trans hb2)
          clear HW
          have HW := HW_
          clear HW_
          have HB_ : Hid (B ≤ w50.heap.size) := Lib.hid (Nat.le_trans HB.out hb2.size)
          clear HB hb2
          have HB := HB_
          clear HB_
          go_wp2_with fail
          go_roundw
          case rel => exact ⟨i + 1, by omega, by go_num, HWD, HW, HB⟩
          case measure => simp [intOf]; omega
        · skip
          obtain rfl : i = N := by omega
          go_wp2_with fail
          go_ret
          exact ⟨rfl, HBw.out ▸ HW.out⟩
end Go.Proofs.Ytmnnaemcjmiplaa
