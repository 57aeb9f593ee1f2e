/- walk of scrivkeep.WorldBytes. -/
import Derived.Test.YtmnnaemcjmiplaaW30
namespace Go.Proofs.Ytmnnaemcjmiplaa
open Go.ChangeShapes Go.WideShapes Go.RowKit
set_option linter.unusedVariables false
set_option linter.unusedSimpArgs false
set_option maxRecDepth 100000
set_option maxHeartbeats 4000000
theorem walk_WorldBytes (n : Int) (wn : (Lit.int .i64 n).wf = true) (v1 : Value) (l : List (List Int)) (v2 : Value) (ds : List (List Pt)) (w : World) (hl : IsRows w v1 l) (hd : IsDeltas w v2 ds) :
    Calls Try.prog 9 #[.int .i64 n, v1, v2] w fun e w' => e = .returned (.bool true) ∧ Below w.heap.size w w' := by
  obtain ⟨Al, nl, cl, sl, rfl, hrs, hrl⟩ := hl
  obtain ⟨Ad, nd, cd, sd, rfl, hds, hdd⟩ := hd
  obtain ⟨B, hB⟩ : ∃ B, w.heap.size = B := ⟨_, rfl⟩
  rw [hB] at hrs hrl hds hdd
  have HRS := Lib.hid hrs
  have HRL := Lib.hid hrl
  have HDS := Lib.hid hds
  have HDD := Lib.hid hdd
  have HBw := Lib.hid hB
  have HB : Hid (B ≤ w.heap.size) := Lib.hid (by omega)
  have HW : Hid (Below B w w) := Lib.hid (Below.refl _ _)
  have hnl0 : (0 : Int) ≤ (nl : Int) := by omega
  have hnd0 : (0 : Int) ≤ (nd : Int) := by omega
  have hnlc : nl ≤ cl ∧ cl ≤ maxLen := ⟨hrs.2.1, hrs.2.2.1⟩
  have hndc : nd ≤ cd ∧ cd ≤ maxLen := ⟨hds.2.1, hds.2.2.1⟩
  have hcl1 : (nl : Int) ≤ (cl : Int) := by omega
  have hcl2 : (cl : Int) ≤ 9223372036854775807 := by have := hnlc.2; simp only [maxLen] at this; omega
  have hcd1 : (nd : Int) ≤ (cd : Int) := by omega
  have hcd2 : (cd : Int) ≤ 9223372036854775807 := by have := hndc.2; simp only [maxLen] at this; omega
  clear hrs hrl hds hdd hB hnlc hndc
  go_enter Try.func9, Try.ntmps9
  obtain ⟨m, hm⟩ : ∃ m, wi n 4 = m := ⟨_, rfl⟩
  have hm4 : m < 4 := by rw [← hm]; exact wi_lt n 4 (by decide)
  have hc_ := within_any n 4 w (by decide) (by decide)
  rw [hm] at hc_
  have Hc_ := Lib.hid hc_
  clear hc_ hm
  go_wp2_with fail
  refine Hc_.out.mono ?_
  rintro en w9 ⟨rfl, rfl⟩
  clear Hc_
  obtain ⟨N, hN⟩ : ∃ N, 1 + m = N := ⟨_, rfl⟩
  have hNc : IntKind.i64.wrap (1 + (m : Int)) = (N : Int) := by rw [← hN]; exact IntWalk.i64_in _ (by omega) |>.trans (by omega)
  have hN1 : 1 ≤ N := by omega
  have hN4 : N ≤ 4 := by omega
  clear hN hm4
  have hc_ := wnew_B (B := B) N hN1 hN4 w HB.out
  have Hc_ := Lib.hid hc_
  clear hc_
  go_wp2_with fail
  refine Hc_.out.mono ?_
  rintro en w1 ⟨q, rfl, hwd, hb1⟩
  clear Hc_
  have HN := Lib.hid hwd
  have HZ : Hid (w1.heap.size ≤ w1.heap.size) := Lib.hid (Nat.le_refl _)
  obtain ⟨Z, hZ⟩ : ∃ Z, w1.heap.size = Z := ⟨_, rfl⟩
  rw [hZ] at HN
  have HZ : Hid (Z ≤ w1.heap.size) := Lib.hid (Nat.le_of_eq hZ.symm)
  clear hwd hZ
  have HW_ := Lib.hid (HW.out.trans (hb1.mono HB.out))
  clear HW
  have HW := HW_
  clear HW_
  have HB_ : Hid (B ≤ w1.heap.size) := Lib.hid (Nat.le_trans HB.out hb1.size)
  clear HB hb1
  have HB := HB_
  clear HB_
  have hc_ := wput_any ⟨#[97]⟩ (by decide) w1
  have Hc_ := Lib.hid hc_
  clear hc_
  go_wp2_with fail
  refine Hc_.out.mono ?_
  rintro en w2 ⟨Aa, rfl, hra, hza, hb2⟩
  clear Hc_
  have HRA := Lib.hid hra
  have HZA : Hid (∀ ad, Aa = some ad → Z ≤ ad.block) := Lib.hid (fun ad e => Nat.le_trans HZ.out (hza ad e))
  clear hra hza
  have HN_ := Lib.hid (HN.out.below hb2)
  clear HN
  have HN := HN_
  clear HN_
  have HZ_ := Lib.hid (Nat.le_trans HZ.out (hb2.size))
  clear HZ
  have HZ := HZ_
  clear HZ_
  have HW_ := Lib.hid (HW.out.trans (hb2.mono HB.out))
  clear HW
  have HW := HW_
  clear HW_
  have HB_ : Hid (B ≤ w2.heap.size) := Lib.hid (Nat.le_trans HB.out hb2.size)
  clear HB hb2
  have HB := HB_
  clear HB_
  have hc_ := wfirst_B N hN1 HN.out HB.out ⟨#[97]⟩ (by decide) Aa 1 1 HRA.out HZA.out chk_a (by rw [nP_a]; decide)
  rw [nP_a] at hc_
  have Hc_ := Lib.hid hc_
  clear hc_
  go_wp2_with fail
  refine Hc_.out.mono ?_
  rintro en w3 ⟨rfl, hwd0, hb2⟩
  have hwd : WdB w3 B q shN (X0 N) 1 1 (fun k => if k = 0 then 1 else 0) := hwd0
  clear hwd0
  clear Hc_
  have HWD := Lib.hid hwd
  clear hwd
  have HW_ := Lib.hid (HW.out.trans hb2)
  clear HW
  have HW := HW_
  clear HW_
  have HB_ : Hid (B ≤ w3.heap.size) := Lib.hid (Nat.le_trans HB.out hb2.size)
  clear HB hb2
  have HB := HB_
  clear HB_
  clear HN HRA HZA HZ
  go_upto_region 7 with (fail)
  have HX : Hid ((X0 N).length = N) := Lib.hid (X0_len N)
  go_loopw [9, 10, 11, 12, 14, 43] (fun sv x10 x11 x12 x14 iv wr => ∃ (k : Nat) (s : Sh) (X : List St) (put edits : Int) (e : Nat → Nat), k ≤ nl ∧ iv = .int .i64 k ∧ sv = .int .i64 put ∧ Hid (WdB wr B q s X put edits e) ∧ Hid (X.length = N) ∧ Hid (Below B w wr) ∧ Hid (B ≤ wr.heap.size)) (fun _ _ _ _ _ iv _ => nl - (intOf iv).toNat)
  case atStart => exact ⟨0, _, _, _, _, _, by omega, rfl, rfl, HWD, HX, HW, HB⟩
  case round =>
    clear HWD HX HW HB
    obtain ⟨k, s, X, put, edits, e, hk, rfl, rfl, HWD, HX, HW, HB⟩ := hrel
    by_cases hlt : k < nl
    · skip
      have hk0 : (0 : Int) ≤ (k : Int) := by omega
      have hkn : (k : Int) < (nl : Int) := by omega
      have hsll : sl.length = nl := HRS.out.1.symm
      have hll : l.length = nl := by rw [← hsll]; exact HRL.out.1.symm
      obtain ⟨sk, hsk⟩ : ∃ sk, sl[k]? = some sk := ⟨_, List.getElem?_eq_getElem (by omega)⟩
      obtain ⟨cs, hcs⟩ : ∃ cs, l[k]? = some cs := ⟨_, List.getElem?_eq_getElem (by omega)⟩
      obtain ⟨bk, ok, hAl, hbk, dk⟩ := (HRS.out.below HW.out).at_ hsk
      subst hAl
      have hbk' : bk < wr.heap.size := Nat.lt_of_lt_of_le hbk HB.out
      have hrow := HRL.out.2 k sk cs hsk hcs
      obtain ⟨Ac, nc, cc⟩ := sk
      simp only at hrow dk
      have HRW := Lib.hid hrow
      have hnc0 : (0 : Int) ≤ (nc : Int) := by omega
      have HNC : Hid (nc = cs.length) := Lib.hid hrow.1
      clear hsll hll hsk hcs hrow
      cases cs with
      | nil =>
        obtain rfl : nc = 0 := HNC.out
        have hc_ := act_B HWD.out HB.out [] _ 0 cc (HRW.out.below HW.out) [] none 0 0 ⟨rfl, Rd.nil _ _ _, by simp⟩
        rw [HX.out] at hc_
        have Hc_ := Lib.hid hc_
        clear hc_
        go_wp2_with fail
        refine Hc_.out.mono ?_
        rintro en w45 ⟨rfl, s2, X2, put2, ed2, e2, hact, hwd, hb2⟩
        have HACT := Lib.hid hact
        clear hact
        clear Hc_
        clear HWD
        have HWD := Lib.hid hwd
        clear hwd
        have HW_ := Lib.hid (HW.out.trans hb2)
        clear HW
        have HW := HW_
        clear HW_
        have HB_ : Hid (B ≤ w45.heap.size) := Lib.hid (Nat.le_trans HB.out hb2.size)
        clear HB hb2
        have HB := HB_
        clear HB_
        have hp2 := HACT.out.nil
        subst hp2
        have HX2 : Hid (X2.length = N) := Lib.hid (by rw [HACT.out.len]; exact HX.out)
        clear HACT
        go_wp2_with fail
        go_roundw
        case rel => exact ⟨k + 1, s2, X2, _, ed2, e2, by omega, by go_num, rfl, HWD, HX2, HW, HB⟩
        case measure => simp [intOf]; omega
      | cons a r =>
        have hnc1 : (1 : Int) ≤ (nc : Int) := by have hncl := HNC.out; rw [List.length_cons] at hncl; omega
        obtain ⟨b0, o0, hAc, hb0, d0⟩ := (HRW.out.below HW.out).at_ 0 (by have hncl := HNC.out; rw [List.length_cons] at hncl; omega)
        subst hAc
        simp only [List.getElem_cons_zero, Nat.add_zero] at d0
        have hb0' : b0 < wr.heap.size := Nat.lt_of_lt_of_le hb0 HB.out
        obtain ⟨K, hKe⟩ : ∃ x, wi a 3 = x := ⟨_, rfl⟩
        have hKl : K < 3 := by rw [← hKe]; exact wi_lt a 3 (by decide)
        have hc_ := within_any a 3 wr (by decide) (by decide)
        rw [hKe] at hc_
        have Hc_ := Lib.hid hc_
        have HK := Lib.hid hKe
        clear hc_ hKe
        go_wp2_with fail
        refine Hc_.out.mono ?_
        rintro en w9 ⟨rfl, rfl⟩
        clear Hc_
        by_cases hK0 : K = 0
        · skip
          subst hK0
          by_cases hkd : k < nd
          · skip
            have hkd' : (k : Int) < (nd : Int) := by omega
            have hsdl : sd.length = nd := HDS.out.1.symm
            have hdl : ds.length = nd := by rw [← hsdl]; exact HDD.out.1.symm
            obtain ⟨tk, htk⟩ : ∃ tk, sd[k]? = some tk := ⟨_, List.getElem?_eq_getElem (by omega)⟩
            obtain ⟨d, hdk⟩ : ∃ d, ds[k]? = some d := ⟨_, List.getElem?_eq_getElem (by omega)⟩
            obtain ⟨be, oe, hAd, hbe, de⟩ := (HDS.out.below HW.out).at_ htk
            subst hAd
            have hbe' : be < wr.heap.size := Nat.lt_of_lt_of_le hbe HB.out
            have hdel := HDD.out.2 k tk d htk hdk
            obtain ⟨Ae, ne, ce⟩ := tk
            simp only at hdel de
            have HDL := Lib.hid hdel
            have hne0 : (0 : Int) ≤ (ne : Int) := by omega
            have hnec : ne ≤ ce ∧ ce ≤ maxLen := ⟨hdel.2.1.1, hdel.2.1.2.1⟩
            have hce1 : (ne : Int) ≤ (ce : Int) := by omega
            have hce2 : (ce : Int) ≤ 9223372036854775807 := by have := hnec.2; simp only [maxLen] at this; omega
            have HTK := Lib.hid htk
            clear hsdl hdl hdk hdel hnec
            cases r with
            | nil =>
              obtain rfl : nc = 1 := HNC.out
              have hput0 := (HWD.out.pos).1
              have hIX : 0 < X.length := by rw [HX.out]; omega
              have hc_ := wedit_B HWD.out HB.out (i := 0) hIX d Ae ne ce (HDL.out.below HW.out)
              have Hc_ := Lib.hid hc_
              clear hc_
              go_wp2_with fail
              refine Hc_.out.mono ?_
              rintro en we (⟨EE, rfl, hEE, hwd, hb2⟩ | ⟨x, rfl, hx, hdo, hwd, hb2⟩)
              · skip
                clear Hc_
                have hEE2 : (EE == 0) = false := by simpa using hEE
                clear HWD
                have HWD := Lib.hid hwd
                clear hwd
                have HW_ := Lib.hid (HW.out.trans hb2)
                clear HW
                have HW := HW_
                clear HW_
                have HB_ : Hid (B ≤ we.heap.size) := Lib.hid (Nat.le_trans HB.out hb2.size)
                clear HB hb2
                have HB := HB_
                clear HB_
                clear HDL HTK
                go_wp2_with fail
                go_roundw
                case rel => exact ⟨k + 1, s, X, put, edits, e, by omega, by go_num, rfl, HWD, HX, HW, HB⟩
                case measure => simp [intOf]; omega
              · skip
                clear Hc_
                clear HWD
                have HWD := Lib.hid hwd
                clear hwd
                have HW_ := Lib.hid (HW.out.trans hb2)
                clear HW
                have HW := HW_
                clear HW_
                have HB_ : Hid (B ≤ we.heap.size) := Lib.hid (Nat.le_trans HB.out hb2.size)
                clear HB hb2
                have HB := HB_
                clear HB_
                have hcd := (HDS.out.below HW.out).at_ HTK.out
                obtain ⟨be2, oe2, hAd2, hbe2, de2⟩ := hcd
                have hAd2 := Option.some.inj hAd2
                injection hAd2 with e1 e2 e3
                subst e1 e2
                have hbe3 : be < we.heap.size := Nat.lt_of_lt_of_le hbe2 HB.out
                have HX2 : Hid ((X.set 0 (editS x d)).length = N) := Lib.hid (by rw [List.length_set]; exact HX.out)
                have hsz := nP_units d (chk_parts (do_chk hdo).1).2.2.1
                have h500 := HWD.out.2.p500
                have HSZ := Lib.hid hsz
                have HP5 := Lib.hid h500
                have HND : Hid (d.length = ne) := Lib.hid HDL.out.1.symm
                have hdn1 : ne ≤ 1600 := by have := (chk_parts (do_chk hdo).1).1; have := HND.out; omega
                have HB0 : Hid (Below we.heap.size we we) := Lib.hid (Below.refl _ _)
                have HDL2 := Lib.hid (HDL.out.below HW.out)
                clear hsz h500 hdo hx
                go_upto_region 16 with (fail)
                go_loopw [9, 14, 89] (fun sv x14 iv wr2 => ∃ (j : Nat) (S : Int), j ≤ ne ∧ iv = .int .i64 j ∧ sv = .int .i64 (put + S) ∧ Hid (S = szP (d.take j)) ∧ Hid (Below we.heap.size we wr2)) (fun _ _ iv _ => ne - (intOf iv).toNat)
                case atStart => exact ⟨0, 0, by omega, rfl, by rw [Int.add_zero], Lib.hid (by simp [szP]), HB0⟩
                case round =>
                  clear HB0
                  obtain ⟨j, S, hj, rfl, rfl, HS, HB2⟩ := hrel
                  have HWk := Lib.hid (HW.out.trans (HB2.out.mono HB.out))
                  by_cases hjt : j < ne
                  · obtain ⟨b, o, hAe, hbl, d0', d1', d2'⟩ := (HDL.out.below HWk.out).at_ j hjt
                    subst hAe
                    have hjl : j < d.length := by have := HND.out; omega
                    have htk : d.take (j + 1) = d.take j ++ [d[j]] := List.take_succ_eq_append_getElem hjl
                    have hst : szP (d.take (j + 1)) = S + ((d[j]).2.2.size : Int) := by rw [htk, szP_snoc, ← HS.out]
                    have hs1 := szP_le d (j + 1)
                    have hs0 : 0 ≤ S := by rw [HS.out]; exact szP_pos _
                    have hmx : put + (S + ((d[j]).2.2.size : Int)) ≤ 500 := by rw [← hst]; have := HSZ.out; have := HP5.out; omega
                    obtain ⟨f, hf⟩ : ∃ f, d[j] = f := ⟨_, rfl⟩
                    rw [hf] at d0' d1' d2' hst hmx
                    obtain ⟨ra, rb, t⟩ := f
                    simp only at d0' d1' d2' hst hmx
                    have HST := Lib.hid hst
                    have hj0 : (0 : Int) ≤ (j : Int) := by omega
                    have hjn : (j : Int) < (ne : Int) := by omega
                    have hbw : b < wr.heap.size := Nat.lt_of_lt_of_le hbl (Nat.le_trans HB.out HB2.out.size)
                    have kz := Blk.new wr 81 #[.int .i64 ra, .int .i64 rb, .string t]
                    have hal := (Below.refl wr.heap.size wr).alloc (Nat.le_refl _) (.cells #[.int .i64 ra, .int .i64 rb, .string t] 81)
                    have HB3 := Lib.hid (HB2.out.trans (hal.mono HB2.out.size))
                    have z2 := kz.cell 2
                    have lz := kz.lt
                    have hwr : IntKind.i64.wrap (put + S + (t.size : Int)) = put + S + (t.size : Int) := IntWalk.i64_in _ (by omega)
                    clear htk hst hf kz hal hs1 hbl HB2 HS HWk
                    go_wp2_with fail
                    go_roundw
                    case rel => exact ⟨j + 1, S + (t.size : Int), by omega, by go_num, by rw [← Int.add_assoc], Lib.hid HST.out.symm, HB3⟩
                    case measure => simp [intOf]; omega
                  · obtain rfl : j = ne := by omega
                    have hS : S = (nP (units d) : Int) := by rw [HS.out, List.take_of_length_le (by have := HND.out; omega)]; exact HSZ.out.symm
                    subst hS
                    have HWD2 := Lib.hid (HWD.out.below HB2.out)
                    have HBk : Hid (B ≤ wr.heap.size) := Lib.hid (Nat.le_trans HB.out HB2.out.size)
                    clear HS
                    go_wp2_with fail
                    go_roundw
                    case rel => exact ⟨k + 1, _, _, _, _, _, by omega, by go_num, rfl, HWD2, HX2, HWk, HBk⟩
                    case measure => simp [intOf]; omega
            | cons b r =>
              have hnc2 : (1 : Int) < (nc : Int) := by have hncl := HNC.out; simp only [List.length_cons] at hncl; omega
              obtain ⟨b1, o1, hAc1, hb1, d1⟩ := (HRW.out.below HW.out).at_ 1 (by have hncl := HNC.out; simp only [List.length_cons] at hncl; omega)
              have hAc1 := Option.some.inj hAc1
              injection hAc1 with e1 e2 e3
              subst e1 e2
              simp only [List.getElem_cons_zero, List.getElem_cons_succ] at d1
              obtain ⟨I, hIe⟩ : ∃ x, wi b N = x := ⟨_, rfl⟩
              have hIl : I < N := by rw [← hIe]; exact wi_lt b N (by omega)
              have hc_ := within_any b N wr (by omega) (by omega)
              rw [hIe] at hc_
              have Hc_ := Lib.hid hc_
              have HI := Lib.hid hIe
              clear hc_ hIe
              go_wp2_with fail
              refine Hc_.out.mono ?_
              rintro en w9 ⟨rfl, rfl⟩
              clear Hc_
              have hput0 := (HWD.out.pos).1
              have hIX : I < X.length := by rw [HX.out]; omega
              have hc_ := wedit_B HWD.out HB.out (i := I) hIX d Ae ne ce (HDL.out.below HW.out)
              have Hc_ := Lib.hid hc_
              clear hc_
              go_wp2_with fail
              refine Hc_.out.mono ?_
              rintro en we (⟨EE, rfl, hEE, hwd, hb2⟩ | ⟨x, rfl, hx, hdo, hwd, hb2⟩)
              · skip
                clear Hc_
                have hEE2 : (EE == 0) = false := by simpa using hEE
                clear HWD
                have HWD := Lib.hid hwd
                clear hwd
                have HW_ := Lib.hid (HW.out.trans hb2)
                clear HW
                have HW := HW_
                clear HW_
                have HB_ : Hid (B ≤ we.heap.size) := Lib.hid (Nat.le_trans HB.out hb2.size)
                clear HB hb2
                have HB := HB_
                clear HB_
                clear HDL HTK
                go_wp2_with fail
                go_roundw
                case rel => exact ⟨k + 1, s, X, put, edits, e, by omega, by go_num, rfl, HWD, HX, HW, HB⟩
                case measure => simp [intOf]; omega
              · skip
                clear Hc_
                clear HWD
                have HWD := Lib.hid hwd
                clear hwd
                have HW_ := Lib.hid (HW.out.trans hb2)
                clear HW
                have HW := HW_
                clear HW_
                have HB_ : Hid (B ≤ we.heap.size) := Lib.hid (Nat.le_trans HB.out hb2.size)
                clear HB hb2
                have HB := HB_
                clear HB_
                have hcd := (HDS.out.below HW.out).at_ HTK.out
                obtain ⟨be2, oe2, hAd2, hbe2, de2⟩ := hcd
                have hAd2 := Option.some.inj hAd2
                injection hAd2 with e1 e2 e3
                subst e1 e2
                have hbe3 : be < we.heap.size := Nat.lt_of_lt_of_le hbe2 HB.out
                have HX2 : Hid ((X.set I (editS x d)).length = N) := Lib.hid (by rw [List.length_set]; exact HX.out)
                have hsz := nP_units d (chk_parts (do_chk hdo).1).2.2.1
                have h500 := HWD.out.2.p500
                have HSZ := Lib.hid hsz
                have HP5 := Lib.hid h500
                have HND : Hid (d.length = ne) := Lib.hid HDL.out.1.symm
                have hdn1 : ne ≤ 1600 := by have := (chk_parts (do_chk hdo).1).1; have := HND.out; omega
                have HB0 : Hid (Below we.heap.size we we) := Lib.hid (Below.refl _ _)
                have HDL2 := Lib.hid (HDL.out.below HW.out)
                clear hsz h500 hdo hx
                go_upto_region 16 with (fail)
                go_loopw [9, 14, 89] (fun sv x14 iv wr2 => ∃ (j : Nat) (S : Int), j ≤ ne ∧ iv = .int .i64 j ∧ sv = .int .i64 (put + S) ∧ Hid (S = szP (d.take j)) ∧ Hid (Below we.heap.size we wr2)) (fun _ _ iv _ => ne - (intOf iv).toNat)
                case atStart => exact ⟨0, 0, by omega, rfl, by rw [Int.add_zero], Lib.hid (by simp [szP]), HB0⟩
                case round =>
                  clear HB0
                  obtain ⟨j, S, hj, rfl, rfl, HS, HB2⟩ := hrel
                  have HWk := Lib.hid (HW.out.trans (HB2.out.mono HB.out))
                  by_cases hjt : j < ne
                  · obtain ⟨b, o, hAe, hbl, d0', d1', d2'⟩ := (HDL.out.below HWk.out).at_ j hjt
                    subst hAe
                    have hjl : j < d.length := by have := HND.out; omega
                    have htk : d.take (j + 1) = d.take j ++ [d[j]] := List.take_succ_eq_append_getElem hjl
                    have hst : szP (d.take (j + 1)) = S + ((d[j]).2.2.size : Int) := by rw [htk, szP_snoc, ← HS.out]
                    have hs1 := szP_le d (j + 1)
                    have hs0 : 0 ≤ S := by rw [HS.out]; exact szP_pos _
                    have hmx : put + (S + ((d[j]).2.2.size : Int)) ≤ 500 := by rw [← hst]; have := HSZ.out; have := HP5.out; omega
                    obtain ⟨f, hf⟩ : ∃ f, d[j] = f := ⟨_, rfl⟩
                    rw [hf] at d0' d1' d2' hst hmx
                    obtain ⟨ra, rb, t⟩ := f
                    simp only at d0' d1' d2' hst hmx
                    have HST := Lib.hid hst
                    have hj0 : (0 : Int) ≤ (j : Int) := by omega
                    have hjn : (j : Int) < (ne : Int) := by omega
                    have hbw : b < wr.heap.size := Nat.lt_of_lt_of_le hbl (Nat.le_trans HB.out HB2.out.size)
                    have kz := Blk.new wr 81 #[.int .i64 ra, .int .i64 rb, .string t]
                    have hal := (Below.refl wr.heap.size wr).alloc (Nat.le_refl _) (.cells #[.int .i64 ra, .int .i64 rb, .string t] 81)
                    have HB3 := Lib.hid (HB2.out.trans (hal.mono HB2.out.size))
                    have z2 := kz.cell 2
                    have lz := kz.lt
                    have hwr : IntKind.i64.wrap (put + S + (t.size : Int)) = put + S + (t.size : Int) := IntWalk.i64_in _ (by omega)
                    clear htk hst hf kz hal hs1 hbl HB2 HS HWk
                    go_wp2_with fail
                    go_roundw
                    case rel => exact ⟨j + 1, S + (t.size : Int), by omega, by go_num, by rw [← Int.add_assoc], Lib.hid HST.out.symm, HB3⟩
                    case measure => simp [intOf]; omega
                  · obtain rfl : j = ne := by omega
                    have hS : S = (nP (units d) : Int) := by rw [HS.out, List.take_of_length_le (by have := HND.out; omega)]; exact HSZ.out.symm
                    subst hS
                    have HWD2 := Lib.hid (HWD.out.below HB2.out)
                    have HBk : Hid (B ≤ wr.heap.size) := Lib.hid (Nat.le_trans HB.out HB2.out.size)
                    clear HS
                    go_wp2_with fail
                    go_roundw
                    case rel => exact ⟨k + 1, _, _, _, _, _, by omega, by go_num, rfl, HWD2, HX2, HWk, HBk⟩
                    case measure => simp [intOf]; omega
          · skip
            have hkd' : (nd : Int) ≤ (k : Int) := by omega
            have hc_ := act_B HWD.out HB.out (a :: r) _ nc cc (HRW.out.below HW.out) [] none 0 0 ⟨rfl, Rd.nil _ _ _, by simp⟩
            rw [HX.out] at hc_
            have Hc_ := Lib.hid hc_
            clear hc_
            go_wp2_with fail
            refine Hc_.out.mono ?_
            rintro en w85 ⟨rfl, s2, X2, put2, ed2, e2, hact, hwd, hb2⟩
            have HACT := Lib.hid hact
            clear hact
            clear Hc_
            clear HWD
            have HWD := Lib.hid hwd
            clear hwd
            have HW_ := Lib.hid (HW.out.trans hb2)
            clear HW
            have HW := HW_
            clear HW_
            have HB_ : Hid (B ≤ w85.heap.size) := Lib.hid (Nat.le_trans HB.out hb2.size)
            clear HB hb2
            have HB := HB_
            clear HB_
            have hp2 := HACT.out.nil
            subst hp2
            have HX2 : Hid (X2.length = N) := Lib.hid (by rw [HACT.out.len]; exact HX.out)
            clear HACT
            go_wp2_with fail
            go_roundw
            case rel => exact ⟨k + 1, s2, X2, _, ed2, e2, by omega, by go_num, rfl, HWD, HX2, HW, HB⟩
            case measure => simp [intOf]; omega
        · skip
          have hKi : ((K : Nat) : Int) ≠ 0 := by omega
          have hKb : (((K : Nat) : Int) == 0) = false := by simpa using hK0
          have hc_ := act_B HWD.out HB.out (a :: r) _ nc cc (HRW.out.below HW.out) [] none 0 0 ⟨rfl, Rd.nil _ _ _, by simp⟩
          rw [HX.out] at hc_
          have Hc_ := Lib.hid hc_
          clear hc_
          go_wp2_with fail
          refine Hc_.out.mono ?_
          rintro en w65 ⟨rfl, s2, X2, put2, ed2, e2, hact, hwd, hb2⟩
          have HACT := Lib.hid hact
          clear hact
          clear Hc_
          clear HWD
          have HWD := Lib.hid hwd
          clear hwd
          have HW_ := Lib.hid (HW.out.trans hb2)
          clear HW
          have HW := HW_
          clear HW_
          have HB_ : Hid (B ≤ w65.heap.size) := Lib.hid (Nat.le_trans HB.out hb2.size)
          clear HB hb2
          have HB := HB_
          clear HB_
          have hp2 := HACT.out.nil
          subst hp2
          have HX2 : Hid (X2.length = N) := Lib.hid (by rw [HACT.out.len]; exact HX.out)
          clear HACT
          go_wp2_with fail
          go_roundw
          case rel => exact ⟨k + 1, s2, X2, _, ed2, e2, by omega, by go_num, rfl, HWD, HX2, HW, HB⟩
          case measure => simp [intOf]; omega
    · skip
      have hkn : k = nl := by omega
      subst hkn
      have hc_ := wsettle_B HWD.out HB.out (fun _ _ => True) ⟨fun _ _ _ _ _ _ _ _ _ => trivial, fun _ _ _ _ _ _ _ _ => trivial⟩ trivial
      have Hc_ := Lib.hid hc_
      clear hc_
      go_wp2_with fail
      refine Hc_.out.mono ?_
      rintro en w24 ⟨rfl, s9, X9, hwd, hcalm, hev9, hlen9, hb2⟩
      have HCA := Lib.hid hcalm
      have HEV := Lib.hid hev9
      have HX9 : Hid (X9.length = N) := Lib.hid (by rw [hlen9]; exact HX.out)
      clear hcalm hlen9 hev9
      clear Hc_
      clear HWD
      have HWD := Lib.hid hwd
      clear hwd
      have HW_ := Lib.hid (HW.out.trans hb2)
      clear HW
      have HW := HW_
      clear HW_
      have HB_ : Hid (B ≤ w24.heap.size) := Lib.hid (Nat.le_trans HB.out hb2.size)
      clear HB hb2
      have HB := HB_
      clear HB_
      obtain ⟨x, hx⟩ : ∃ x, X9[0]? = some x := ⟨_, List.getElem?_eq_getElem (by rw [HX9.out]; omega)⟩
      have HXX := Lib.hid hx
      clear hx
      have hc_ := wtext_B HWD.out (i := 0) HXX.out
      have Hc_ := Lib.hid hc_
      clear hc_
      go_wp2_with fail
      refine Hc_.out.mono ?_
      rintro en w25 ⟨rfl, hb25⟩
      clear Hc_
      have HWD_ := Lib.hid (HWD.out.below hb25)
      clear HWD
      have HWD := HWD_
      clear HWD_
      have HW_ := Lib.hid (HW.out.trans (hb25.mono HB.out))
      clear HW
      have HW := HW_
      clear HW_
      have HB_ : Hid (B ≤ w25.heap.size) := Lib.hid (Nat.le_trans HB.out hb25.size)
      clear HB hb25
      have HB := HB_
      clear HB_
      obtain ⟨R0, hR0⟩ : ∃ R0, s9.log.revs = R0 := ⟨_, rfl⟩
      obtain ⟨NR, hNR⟩ : ∃ NR, R0.length = NR := ⟨_, rfl⟩
      have HR0 := Lib.hid hR0
      have HNR := Lib.hid hNR
      have hNR4 : NR ≤ 64 := by rw [← hNR, ← hR0]; exact HWD.out.2.len
      have hNR0 : (0 : Int) ≤ (NR : Int) := by omega
      clear hR0 hNR
      have hc_ := wrevs_B HWD.out
      have Hc_ := Lib.hid hc_
      clear hc_
      go_wp2_with fail
      refine Hc_.out.mono ?_
      rintro en w26 ⟨⟨Aw, nw, cw⟩, ssw, rfl, how, hb26⟩
      clear Hc_
      have HWD_ := Lib.hid (HWD.out.below hb26)
      clear HWD
      have HWD := HWD_
      clear HWD_
      have HW_ := Lib.hid (HW.out.trans (hb26.mono HB.out))
      clear HW
      have HW := HW_
      clear HW_
      have HB_ : Hid (B ≤ w26.heap.size) := Lib.hid (Nat.le_trans HB.out hb26.size)
      clear HB hb26
      have HB := HB_
      clear HB_
      rw [HR0.out] at how
      simp only at how
      obtain rfl : NR = nw := by
        obtain ⟨A9, c9, e9⟩ := how.form
        injection e9 with e1 e2 e3
        rw [← HNR.out]; exact e2.symm
      have how := how.base (Nat.zero_le _)
      have hcw1 : (NR : Int) ≤ (cw : Int) := by have := how.rd.caps; omega
      have hcw2 : (cw : Int) ≤ 9223372036854775807 := by have := how.rd.caps; omega
      have HV := Lib.hid how
      clear how
      have htx : x.c.text.size ≤ putR R0 := by
        have h1 := (HWD.out.2.calm HCA.out HXX.out).2.2.1
        have h2 := txt_leW s9.log.revs emp s9.log.revs.length HWD.out.2.txr
        rw [h1, ← HR0.out]
        rw [List.take_length] at h2
        have : emp.size = 0 := rfl
        omega
      have hpr : (putR R0 : Int) ≤ put := by have := HWD.out.2.byt; rw [HR0.out] at this; omega
      have hp5 := HWD.out.2.p500
      have hszr : szR R0 = (putR R0 : Int) := szR_eq R0 (fun r hr => txr_allW R0 emp (by rw [← HR0.out]; exact HWD.out.2.txr) r hr)
      have HSZR := Lib.hid hszr
      have HCHK : Hid (∀ r ∈ R0, chk r.2.2 = 0) := Lib.hid (txr_allW R0 emp (by rw [← HR0.out]; exact HWD.out.2.txr))
      have HPR : Hid ((putR R0 : Int) ≤ put ∧ put ≤ 500 ∧ x.c.text.size ≤ putR R0) := Lib.hid ⟨hpr, hp5, htx⟩
      obtain ⟨tx, htx_⟩ : ∃ tx, x.c.text = tx := ⟨_, rfl⟩
      rw [htx_] at HPR
      clear hszr hpr hp5 htx HWD HCA HXX HX9 HEV
      go_upto_region 25 with (fail)
      try rw [htx_]
      clear htx_
      go_loopw [16, 18, 20, 110] (fun tv x18 x20 iv wr => ∃ (i : Nat) (T : Int), i ≤ NR ∧ iv = .int .i64 i ∧ tv = .int .i64 T ∧ Hid (T = szR (R0.take i)) ∧ Hid (OwnV wr 0 (.slice Aw NR cw) ssw R0) ∧ Hid (Below B w wr) ∧ Hid (B ≤ wr.heap.size)) (fun _ _ _ iv _ => NR - (intOf iv).toNat)
      case atStart => exact ⟨0, 0, by omega, rfl, rfl, Lib.hid (by simp [szR]), HV, HW, HB⟩
      case round =>
        clear HV HW HB
        obtain ⟨i, T, hi, rfl, rfl, HT, HV, HW, HB⟩ := hrel
        by_cases hit : i < NR
        · skip
          have hil : i < R0.length := by have := HNR.out; omega
          have htk : R0.take (i + 1) = R0.take i ++ [R0[i]] := List.take_succ_eq_append_getElem hil
          obtain ⟨b, o, A1, n1, c1, hAw, hbl, d0, d1, d2, hrd⟩ := HV.out.rd.at_ i hit
          subst hAw
          have hi0 : (0 : Int) ≤ (i : Int) := by omega
          have hiN : (i : Int) < (NR : Int) := by omega
          have hstR : szR (R0.take (i + 1)) = T + szP (R0[i]).2.2 := by rw [htk, szR_snoc, ← HT.out]
          have hleR : szR (R0.take (i + 1)) ≤ 500 := by
            have h1 := putR_take_le R0 (i + 1)
            have h2 := szR_eq (R0.take (i + 1)) (fun r hr => HCHK.out r (List.mem_of_mem_take hr))
            have h3 := HPR.out.1
            have h4 := HPR.out.2.1
            omega
          have hT0 : 0 ≤ T := by
            have h2 := szR_eq (R0.take i) (fun r hr => HCHK.out r (List.mem_of_mem_take hr))
            rw [HT.out, h2]
            omega
          obtain ⟨f, hf⟩ : ∃ f, R0[i] = f := ⟨_, rfl⟩
          rw [hf] at d0 d1 hrd hstR
          obtain ⟨ra, rb, d⟩ := f
          simp only at d0 d1 d2 hrd hstR
          have hbw : b < wr.heap.size := hbl
          have kz := Blk.new wr 27 #[.int .i64 ra, .int .i64 rb, .slice A1 n1 c1]
          have hal := (Below.refl wr.heap.size wr).alloc (Nat.le_refl _) (.cells #[.int .i64 ra, .int .i64 rb, .slice A1 n1 c1] 27)
          have z2 := kz.cell 2
          have lz := kz.lt
          have HRD0 := Lib.hid (hrd.step hal)
          have HST := Lib.hid hstR
          have HLE := Lib.hid hleR
          have hn1 : n1 ≤ 9223372036854775807 := hrd.le
          have hn10 : (0 : Int) ≤ (n1 : Int) := by omega
          have HND : Hid (n1 = d.length) := Lib.hid hrd.1
          have hc1 : (n1 : Int) ≤ (c1 : Int) := by have := hrd.2.1.1; omega
          have hc2 : (c1 : Int) ≤ 9223372036854775807 := by have := hrd.2.1.2.1; simp only [maxLen] at this; omega
          clear htk hf hleR hstR kz hrd HT
          have HV_ := Lib.hid (HV.out.below hal)
          clear HV
          have HV := HV_
          clear HV_
          have HW_ := Lib.hid (HW.out.trans (hal.mono HB.out))
          clear HW
          have HW := HW_
          clear HW_
          have HB_ : Hid (B ≤ (wr.alloc (.cells #[.int .i64 ra, .int .i64 rb, .slice A1 n1 c1] 27)).heap.size) := Lib.hid (Nat.le_trans HB.out hal.size)
          clear HB hal
          have HB := HB_
          clear HB_
          go_upto_region 28 with (fail)
          obtain ⟨V, hV⟩ : ∃ V, wr.alloc (.cells #[.int .i64 ra, .int .i64 rb, .slice A1 n1 c1] 27) = V := ⟨_, rfl⟩
          rw [hV] at HV HW HB HRD0
          try rw [hV]
          clear hV
          have HB0 : Hid (Below V.heap.size V V) := Lib.hid (Below.refl _ _)
          go_loopw [16, 20, 117] (fun tv x20 iv wr => ∃ (j : Nat) (S : Int), j ≤ n1 ∧ iv = .int .i64 j ∧ tv = .int .i64 (T + S) ∧ Hid (S = szP (d.take j)) ∧ Hid (Below V.heap.size V wr)) (fun _ _ iv _ => n1 - (intOf iv).toNat)
          case atStart => exact ⟨0, 0, by omega, rfl, by rw [Int.add_zero], Lib.hid (by simp [szP]), HB0⟩
          case round =>
            clear HB0
            obtain ⟨j, S, hj, rfl, rfl, HS, HB2⟩ := hrel
            by_cases hjt : j < n1
            · obtain ⟨b, o, hAe, hbl, d0', d1', d2'⟩ := (HRD0.out.below HB2.out).at_ j hjt
              subst hAe
              have hjl : j < d.length := by have := HND.out; omega
              have htk : d.take (j + 1) = d.take j ++ [d[j]] := List.take_succ_eq_append_getElem hjl
              have hst : szP (d.take (j + 1)) = S + ((d[j]).2.2.size : Int) := by rw [htk, szP_snoc, ← HS.out]
              have hs1 := szP_le d (j + 1)
              have hs0 : 0 ≤ S := by rw [HS.out]; exact szP_pos _
              have hmx : T + (S + ((d[j]).2.2.size : Int)) ≤ 500 := by rw [← hst]; have := HST.out; have := HLE.out; omega
              obtain ⟨f, hf⟩ : ∃ f, d[j] = f := ⟨_, rfl⟩
              rw [hf] at d0' d1' d2' hst hmx
              obtain ⟨ra, rb, t⟩ := f
              simp only at d0' d1' d2' hst hmx
              have HST2 := Lib.hid hst
              have hj0 : (0 : Int) ≤ (j : Int) := by omega
              have hjn : (j : Int) < (n1 : Int) := by omega
              have hbw : b < wr.heap.size := Nat.lt_of_lt_of_le hbl HB2.out.size
              have kz := Blk.new wr 81 #[.int .i64 ra, .int .i64 rb, .string t]
              have hal := (Below.refl wr.heap.size wr).alloc (Nat.le_refl _) (.cells #[.int .i64 ra, .int .i64 rb, .string t] 81)
              have HB3 := Lib.hid (HB2.out.trans (hal.mono HB2.out.size))
              have z2 := kz.cell 2
              have lz := kz.lt
              have hwr : IntKind.i64.wrap (T + S + (t.size : Int)) = T + S + (t.size : Int) := IntWalk.i64_in _ (by omega)
              clear htk hst hf kz hal hs1 hbl HB2 HS
              go_wp2_with fail
              go_roundw
              case rel => exact ⟨j + 1, S + (t.size : Int), by omega, by go_num, by rw [← Int.add_assoc], Lib.hid HST2.out.symm, HB3⟩
              case measure => simp [intOf]; omega
            · obtain rfl : j = n1 := by omega
              have hS : S = szP d := by rw [HS.out, List.take_of_length_le (by have := HND.out; omega)]
              subst hS
              have HV2 := Lib.hid (HV.out.below HB2.out)
              have HW2 := Lib.hid (HW.out.trans (HB2.out.mono HB.out))
              have HBk : Hid (B ≤ wr.heap.size) := Lib.hid (Nat.le_trans HB.out HB2.out.size)
              clear HS
              go_wp2_with fail
              go_roundw
              case rel => exact ⟨i + 1, _, by omega, by go_num, rfl, Lib.hid HST.out.symm, HV2, HW2, HBk⟩
              case measure => simp [intOf]; omega
        · skip
          obtain rfl : i = NR := by omega
          have hT : T = (putR R0 : Int) := by rw [HT.out, List.take_of_length_le (by have := HNR.out; omega)]; exact HSZR.out
          subst hT
          have hr1 : ((tx.size : Nat) : Int) ≤ ((putR R0 : Nat) : Int) := by have := HPR.out.2.2; omega
          have hr2 : ((putR R0 : Nat) : Int) ≤ put := HPR.out.1
          have hr3 : put ≤ 500 := HPR.out.2.1
          clear HT
          go_wp2_with fail
          go_ret
          exact ⟨rfl, HBw.out ▸ HW.out⟩
end Go.Proofs.Ytmnnaemcjmiplaa
