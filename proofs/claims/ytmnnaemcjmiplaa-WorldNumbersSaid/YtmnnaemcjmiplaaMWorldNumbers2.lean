/- walk of scrivkeep.WorldNumbers. -/
import Derived.Test.YtmnnaemcjmiplaaMWorldNumbers1
import Derived.BigQuiet
namespace Go.Proofs.Ytmnnaemcjmiplaa
open Go.ChangeShapes Go.WideShapes Go.RowKit
set_option linter.unusedVariables false
set_option linter.unusedSimpArgs false
set_option maxRecDepth 100000
set_option maxHeartbeats 4000000
theorem walk_WorldNumbers (n : Int) (wn : (Lit.int .i64 n).wf = true) (v1 : Value) (l : List (List Int)) (v2 : Value) (ds : List (List Pt)) (w : World) (hl : IsRows w v1 l) (hd : IsDeltas w v2 ds) :
    Calls Try.prog 7 #[.int .i64 n, v1, v2] w fun e w' => e = .returned (.bool true) ∧ Below w.heap.size w w' := by
  obtain ⟨Al, nl, cl, sl, rfl, hrs, hrl⟩ := hl
  obtain ⟨Ad, nd, cd, sd, rfl, hds, hdd⟩ := hd
  obtain ⟨B, hB⟩ : ∃ B, w.heap.size = B := ⟨_, rfl⟩
  rw [hB] at hrs hrl hds hdd
  have HRS := Lib.hid hrs
  have HRL := Lib.hid hrl
  have HDS := Lib.hid hds
  have HDD := Lib.hid hdd
  have HBw := Lib.hid hB
  have HB : Hid (B ≤ w.heap.size) := Lib.hid (by omega)
  have HW : Hid (Below B w w) := Lib.hid (Below.refl _ _)
  have hnl0 : (0 : Int) ≤ (nl : Int) := by omega
  have hnd0 : (0 : Int) ≤ (nd : Int) := by omega
  have hnlc : nl ≤ cl ∧ cl ≤ maxLen := ⟨hrs.2.1, hrs.2.2.1⟩
  have hndc : nd ≤ cd ∧ cd ≤ maxLen := ⟨hds.2.1, hds.2.2.1⟩
  have hcl1 : (nl : Int) ≤ (cl : Int) := by omega
  have hcl2 : (cl : Int) ≤ 9223372036854775807 := by have := hnlc.2; simp only [maxLen] at this; omega
  have hcd1 : (nd : Int) ≤ (cd : Int) := by omega
  have hcd2 : (cd : Int) ≤ 9223372036854775807 := by have := hndc.2; simp only [maxLen] at this; omega
  clear hrs hrl hds hdd hB hnlc hndc
  go_enter Try.func7, Try.ntmps7
  obtain ⟨m, hm⟩ : ∃ m, wi n 4 = m := ⟨_, rfl⟩
  have hm4 : m < 4 := by rw [← hm]; exact wi_lt n 4 (by decide)
  have hc_ := within_any n 4 w (by decide) (by decide)
  rw [hm] at hc_
  have Hc_ := Lib.hid hc_
  clear hc_ hm
  go_wp2_with fail
  refine Hc_.out.mono ?_
  rintro en w9 ⟨rfl, rfl⟩
  clear Hc_
  obtain ⟨N, hN⟩ : ∃ N, 1 + m = N := ⟨_, rfl⟩
  have hNc : IntKind.i64.wrap (1 + (m : Int)) = (N : Int) := by rw [← hN]; exact IntWalk.i64_in _ (by omega) |>.trans (by omega)
  have hN1 : 1 ≤ N := by omega
  have hN4 : N ≤ 4 := by omega
  clear hN hm4
  have hc_ := wnew_B (B := B) N hN1 hN4 w HB.out
  have Hc_ := Lib.hid hc_
  clear hc_
  go_wp2_with fail
  refine Hc_.out.mono ?_
  rintro en w1 ⟨q, rfl, hwd, hb1⟩
  clear Hc_
  have HN := Lib.hid hwd
  have HZ : Hid (w1.heap.size ≤ w1.heap.size) := Lib.hid (Nat.le_refl _)
  obtain ⟨Z, hZ⟩ : ∃ Z, w1.heap.size = Z := ⟨_, rfl⟩
  rw [hZ] at HN
  have HZ : Hid (Z ≤ w1.heap.size) := Lib.hid (Nat.le_of_eq hZ.symm)
  clear hwd hZ
  have HW_ := Lib.hid (HW.out.trans (hb1.mono HB.out))
  clear HW
  have HW := HW_
  clear HW_
  have HB_ : Hid (B ≤ w1.heap.size) := Lib.hid (Nat.le_trans HB.out hb1.size)
  clear HB hb1
  have HB := HB_
  clear HB_
  have hc_ := wput_any ⟨#[97]⟩ (by decide) w1
  have Hc_ := Lib.hid hc_
  clear hc_
  go_wp2_with fail
  refine Hc_.out.mono ?_
  rintro en w2 ⟨Aa, rfl, hra, hza, hb2⟩
  clear Hc_
  have HRA := Lib.hid hra
  have HZA : Hid (∀ ad, Aa = some ad → Z ≤ ad.block) := Lib.hid (fun ad e => Nat.le_trans HZ.out (hza ad e))
  clear hra hza
  have HN_ := Lib.hid (HN.out.below hb2)
  clear HN
  have HN := HN_
  clear HN_
  have HZ_ := Lib.hid (Nat.le_trans HZ.out (hb2.size))
  clear HZ
  have HZ := HZ_
  clear HZ_
  have HW_ := Lib.hid (HW.out.trans (hb2.mono HB.out))
  clear HW
  have HW := HW_
  clear HW_
  have HB_ : Hid (B ≤ w2.heap.size) := Lib.hid (Nat.le_trans HB.out hb2.size)
  clear HB hb2
  have HB := HB_
  clear HB_
  have hc_ := wfirst_B N hN1 HN.out HB.out ⟨#[97]⟩ (by decide) Aa 1 1 HRA.out HZA.out chk_a (by rw [nP_a]; decide)
  rw [nP_a] at hc_
  have Hc_ := Lib.hid hc_
  clear hc_
  go_wp2_with fail
  refine Hc_.out.mono ?_
  rintro en w3 ⟨rfl, hwd0, hb2⟩
  have hwd : WdB w3 B q shN (X0 N) 1 1 (fun k => if k = 0 then 1 else 0) := hwd0
  clear hwd0
  clear Hc_
  have HWD := Lib.hid hwd
  clear hwd
  have HW_ := Lib.hid (HW.out.trans hb2)
  clear HW
  have HW := HW_
  clear HW_
  have HB_ : Hid (B ≤ w3.heap.size) := Lib.hid (Nat.le_trans HB.out hb2.size)
  clear HB hb2
  have HB := HB_
  clear HB_
  clear HN HRA HZA HZ
  obtain ⟨i0, hi, hz0, hz1, hz2⟩ := info_parts Try.info_int
  have hNm : (0 : Int) ≤ (N : Int) := by omega
  go_upto_region 6 with (first | (at_make; go_loud (refine wpList_make_full _ rfl (.tmp 36) (.tmp 36) 64 rfl w3.heap.size 3 i0 _ 1 Try.underlying64 hi hz0 hz1 .i64 .i64 _ _ N rfl rfl rfl rfl (by rw [hz2]; omega) (by simp only [maxLen]; omega) (Nat.le_refl _) ?_; intro wm hown hgr)))
  obtain ⟨ge, hge⟩ : ∃ ge, w3.heap.size = ge := ⟨_, rfl⟩
  have hbm : Below w3.heap.size w3 wm := below_grown hgr (Nat.le_refl _) (by simp)
  have hwg := (HWD.out.toG (g := ge) (Nat.le_of_eq hge)).below hbm
  have hkg := made_arr hown (made_rep N)
  rw [hge] at hkg
  have HZge : Hid (B ≤ ge) := Lib.hid (by rw [← hge]; exact HB.out)
  clear HWD hown hgr
  try rw [hge]
  clear hge
  have HW_ := Lib.hid (HW.out.trans (hbm.mono HB.out))
  clear HW
  have HW := HW_
  clear HW_
  have HB_ : Hid (B ≤ wm.heap.size) := Lib.hid (Nat.le_trans HB.out hbm.size)
  clear HB hbm
  have HB := HB_
  clear HB_
  have g0f := hkg.frozen 0
  have g0l := hkg.lt
  have g0 : wm.cell? ⟨ge, 0, none⟩ = some (.int .i64 0) := (hkg.cell 0).trans (arrE_at N _ (by omega))
  go_upto_region 8 with (fail)
  have ho := Only.setSelf wm ge 0 (.int .i64 1)
  have hk1 := hkg.set_ 0 (.int .i64 1)
  rw [arrE_set N (fun _ => 0) (fun k => if k = 0 then 1 else 0) (by omega) _ (by simp) (fun k hk => by simp [hk])] at hk1
  have HGE := Lib.hid hk1
  have hB2 : Below B wm (wm.setCell ⟨ge, 0, none⟩ (.int .i64 1)) := (Below.refl B wm).setCell (p := ⟨ge, 0, none⟩) (by have := HB.out; have := HZge.out; omega) _
  have HWG := Lib.hid (hwg.only hkg (by decide) ho)
  have HW_ := Lib.hid (HW.out.trans hB2)
  have HB_ : Hid (B ≤ (wm.setCell ⟨ge, 0, none⟩ (.int .i64 1)).heap.size) := Lib.hid (Nat.le_trans HB.out hB2.size)
  clear HW HB g0 g0f g0l hkg hwg ho hk1 hB2
  have HW := HW_
  have HB := HB_
  clear HW_ HB_
  obtain ⟨U, hU⟩ : ∃ U, wm.setCell ⟨ge, 0, none⟩ (.int .i64 1) = U := ⟨_, rfl⟩
  rw [hU] at HGE HWG HW HB
  try rw [hU]
  clear hU
  have HX : Hid ((X0 N).length = N) := Lib.hid (X0_len N)
  have HE : Hid (EvS shN (X0 N)) := Lib.hid (EvS.zero N hN1)
  have HM : Hid (∀ i, (((if i = 0 then 1 else 0 : Nat)) : Int) ≤ 1) := Lib.hid (fun i => by split <;> decide)
  go_loopw [10, 11, 12, 42] (fun x10 x11 x12 iv wr => ∃ (k : Nat) (s : Sh) (X : List St) (put edits : Int) (e : Nat → Nat), k ≤ nl ∧ iv = .int .i64 k ∧ Hid (WdG wr B ge q s X put edits e) ∧ Hid (X.length = N) ∧ Hid (EvS s X) ∧ Hid (∀ i, (e i : Int) ≤ edits) ∧ Hid (Blk wr ge 3 (arrE N e)) ∧ Hid (Below B w wr) ∧ Hid (B ≤ wr.heap.size)) (fun _ _ _ iv _ => nl - (intOf iv).toNat)
  case atStart => exact ⟨0, _, _, _, _, _, by omega, rfl, HWG, HX, HE, HM, HGE, HW, HB⟩
  case round =>
    clear HWG HX HE HM HGE HW HB
    obtain ⟨k, s, X, put, edits, e, hk, rfl, HWG, HX, HE, HM, HGE, HW, HB⟩ := hrel
    by_cases hlt : k < nl
    · skip
      have hk0 : (0 : Int) ≤ (k : Int) := by omega
      have hkn : (k : Int) < (nl : Int) := by omega
      have hsll : sl.length = nl := HRS.out.1.symm
      have hll : l.length = nl := by rw [← hsll]; exact HRL.out.1.symm
      obtain ⟨sk, hsk⟩ : ∃ sk, sl[k]? = some sk := ⟨_, List.getElem?_eq_getElem (by omega)⟩
      obtain ⟨cs, hcs⟩ : ∃ cs, l[k]? = some cs := ⟨_, List.getElem?_eq_getElem (by omega)⟩
      obtain ⟨bk, ok, hAl, hbk, dk⟩ := (HRS.out.below HW.out).at_ hsk
      subst hAl
      have hbk' : bk < wr.heap.size := Nat.lt_of_lt_of_le hbk HB.out
      have hrow := HRL.out.2 k sk cs hsk hcs
      obtain ⟨Ac, nc, cc⟩ := sk
      simp only at hrow dk
      have HRW := Lib.hid hrow
      have hnc0 : (0 : Int) ≤ (nc : Int) := by omega
      have HNC : Hid (nc = cs.length) := Lib.hid hrow.1
      clear hsll hll hsk hcs hrow
      cases cs with
      | nil =>
        obtain rfl : nc = 0 := HNC.out
        go_wp2_with fail
        go_roundw
        case rel => exact ⟨k + 1, s, X, put, edits, e, by omega, by go_num, HWG, HX, HE, HM, HGE, HW, HB⟩
        case measure => simp [intOf]; omega
      | cons a rr =>
        have hnc1 : (1 : Int) ≤ (nc : Int) := by have hncl := HNC.out; rw [List.length_cons] at hncl; omega
        obtain ⟨b0, o0, hAc, hb0, d0⟩ := (HRW.out.below HW.out).at_ 0 (by have hncl := HNC.out; rw [List.length_cons] at hncl; omega)
        subst hAc
        simp only [List.getElem_cons_zero, Nat.add_zero] at d0
        have hb0' : b0 < wr.heap.size := Nat.lt_of_lt_of_le hb0 HB.out
        have hnc01 : (0 : Int) < (nc : Int) := by omega
        by_cases hn2 : nc = 1
        · skip
          subst hn2
          obtain ⟨K, hKe⟩ : ∃ x, wi a 3 = x := ⟨_, rfl⟩
          have hKl : K < 3 := by rw [← hKe]; exact wi_lt a 3 (by decide)
          have hc_ := within_any a 3 wr (by decide) (by decide)
          rw [hKe] at hc_
          have Hc_ := Lib.hid hc_
          have HK := Lib.hid hKe
          clear hc_ hKe
          go_wp2_with fail
          refine Hc_.out.mono ?_
          rintro en w9 ⟨rfl, rfl⟩
          clear Hc_
          by_cases hK0 : K = 0
          · skip
            subst hK0
            by_cases hkd : k < nd
            · skip
              have hkd' : (k : Int) < (nd : Int) := by omega
              have hsdl : sd.length = nd := HDS.out.1.symm
              have hdl : ds.length = nd := by rw [← hsdl]; exact HDD.out.1.symm
              obtain ⟨tk, htk⟩ : ∃ tk, sd[k]? = some tk := ⟨_, List.getElem?_eq_getElem (by omega)⟩
              obtain ⟨d, hdk⟩ : ∃ d, ds[k]? = some d := ⟨_, List.getElem?_eq_getElem (by omega)⟩
              obtain ⟨be, oe, hAd, hbe, de⟩ := (HDS.out.below HW.out).at_ htk
              subst hAd
              have hbe' : be < wr.heap.size := Nat.lt_of_lt_of_le hbe HB.out
              have hdel := HDD.out.2 k tk d htk hdk
              obtain ⟨Ae, ne, ce⟩ := tk
              simp only at hdel de
              have HDL := Lib.hid hdel
              have hne0 : (0 : Int) ≤ (ne : Int) := by omega
              have hnec : ne ≤ ce ∧ ce ≤ maxLen := ⟨hdel.2.1.1, hdel.2.1.2.1⟩
              have hce1 : (ne : Int) ≤ (ce : Int) := by omega
              have hce2 : (ce : Int) ≤ 9223372036854775807 := by have := hnec.2; simp only [maxLen] at this; omega
              have HTK := Lib.hid htk
              clear hsdl hdl hdk hdel hnec
              have hIX : 0 < X.length := by rw [HX.out]; omega
              have hIN : 0 < N := by omega
              have hc_ := wedit_G HWG.out HB.out HGE.out.lt (i := 0) hIX d Ae ne ce (HDL.out.below HW.out)
              have Hc_ := Lib.hid hc_
              clear hc_
              go_wp2_with fail
              refine Hc_.out.mono ?_
              rintro en we (⟨EE, rfl, hEE, hwg, hbg⟩ | ⟨x, rfl, hx, hdo, hwg, hbg⟩)
              · skip
                clear Hc_
                have hEE2 : (EE == 0) = false := by simpa using hEE
                have HW_ := Lib.hid (HW.out.trans hbg.1)
                have HB_ : Hid (B ≤ we.heap.size) := Lib.hid (Nat.le_trans HB.out hbg.1.size)
                have HGE_ := Lib.hid (hbg.2 _ _ HGE.out)
                clear HW HB HGE hbg HWG
                have HW := HW_
                have HB := HB_
                have HGE := HGE_
                have HWG := Lib.hid hwg
                clear HW_ HB_ HGE_ hwg
                clear HDL HTK
                go_wp2_with fail
                go_roundw
                case rel => exact ⟨k + 1, s, X, put, edits, e, by omega, by go_num, HWG, HX, HE, HM, HGE, HW, HB⟩
                case measure => simp [intOf]; omega
              · skip
                clear Hc_
                have HW_ := Lib.hid (HW.out.trans hbg.1)
                have HB_ : Hid (B ≤ we.heap.size) := Lib.hid (Nat.le_trans HB.out hbg.1.size)
                have HGE_ := Lib.hid (hbg.2 _ _ HGE.out)
                clear HW HB HGE hbg HWG
                have HW := HW_
                have HB := HB_
                have HGE := HGE_
                have HWG := Lib.hid hwg
                clear HW_ HB_ HGE_ hwg
                have HX2 : Hid ((X.set 0 (editS x d)).length = N) := Lib.hid (by rw [List.length_set]; exact HX.out)
                have HE2 : Hid (EvS s (X.set 0 (editS x d))) := Lib.hid (HE.out.set hx (edit_seq _ _))
                have h64 := HWG.out.2.e64
                have hmI := HM.out 0
                have hI0 : (0 : Int) ≤ ((0 : Nat) : Int) := by omega
                have hI1 : ((0 : Nat) : Int) < (N : Int) := by omega
                have c0 : we.cell? ⟨ge, 0, none⟩ = some (.int .i64 (e 0 : Nat)) := (HGE.out.cell 0).trans (arrE_at N e hIN)
                have c0f := HGE.out.frozen 0
                have c0l := HGE.out.lt
                have hwr : IntKind.i64.wrap (((e 0 : Nat) : Int) + 1) = ((e 0 : Nat) : Int) + 1 := IntWalk.i64_in _ (by omega)
                have HM2 : Hid (∀ i, (((if i = 0 then e i + 1 else e i : Nat)) : Int) ≤ edits + 1) := Lib.hid (fun i => by have := HM.out i; split <;> omega)
                clear hx hdo h64 HDL HTK
                go_wp2_with fail
                have ho := Only.setSelf we ge 0 (.int .i64 (((e 0 : Nat) : Int) + 1))
                have hk1 := HGE.out.set_ 0 (.int .i64 (((e 0 : Nat) : Int) + 1))
                rw [arrE_set N e (fun k => if k = 0 then e k + 1 else e k) hIN _ (by simp) (fun k hk => by simp [hk])] at hk1
                have hB2 : Below B we (we.setCell ⟨ge, 0, none⟩ (.int .i64 (((e 0 : Nat) : Int) + 1))) := (Below.refl B we).setCell (p := ⟨ge, 0, none⟩) HZge.out _
                have HWG2 := Lib.hid (HWG.out.only HGE.out (by decide) ho)
                have HW2 := Lib.hid (HW.out.trans hB2)
                have HB2 := Lib.hid (Nat.le_trans HB.out hB2.size)
                have HGE2 := Lib.hid hk1
                go_roundw
                case rel => exact ⟨k + 1, s, _, _, _, _, by omega, by go_num, HWG2, HX2, HE2, HM2, HGE2, HW2, HB2⟩
                case measure => simp [intOf]; omega
            · skip
              have hkd' : (nd : Int) ≤ (k : Int) := by omega
              have Hw2 := Lib.hid (within_any a 3 wr (by decide) (by decide))
              rw [HK.out] at Hw2
              go_wp2_with fail
              refine Hw2.out.mono ?_
              rintro en w9 ⟨rfl, rfl⟩
              clear Hw2
              go_wp2_with fail
              go_roundw
              case rel => exact ⟨k + 1, s, X, put, edits, e, by omega, by go_num, HWG, HX, HE, HM, HGE, HW, HB⟩
              case measure => simp [intOf]; omega
          · skip
            have hKi : ((K : Nat) : Int) ≠ 0 := by omega
            have hKb : (((K : Nat) : Int) == 0) = false := by simpa using hK0
            have hKp : (0 : Int) < ((K : Nat) : Int) := by omega
            have Hw2 := Lib.hid (within_any a 3 wr (by decide) (by decide))
            rw [HK.out] at Hw2
            go_wp2_with fail
            refine Hw2.out.mono ?_
            rintro en w9 ⟨rfl, rfl⟩
            clear Hw2
            have hc_ := act_G HWG.out HB.out HGE.out.lt (a :: rr) _ 1 cc (HRW.out.below HW.out) [] none 0 0 ⟨rfl, Rd.nil _ _ _, by simp⟩
            rw [HX.out] at hc_
            have Hc_ := Lib.hid hc_
            clear hc_
            go_wp2_with fail
            refine Hc_.out.mono ?_
            rintro en w7 ⟨rfl, s2, X2, put2, ed2, e2, hact, hwg, hbg⟩
            clear Hc_
            have HX2 : Hid (X2.length = N) := Lib.hid (by rw [hact.len]; exact HX.out)
            have HE2 := Lib.hid (HE.out.act hact)
            have hee : ed2 = edits ∧ e2 = e := by
              rcases hact with ⟨_, _, _, _, _, h0⟩ | ⟨h0, _⟩ | ⟨_, _, h1, h2, _⟩
              · exact absurd (HK.out.symm.trans h0) hK0
              · exact absurd (HK.out.symm.trans h0) hK0
              · exact ⟨h1, h2⟩
            obtain ⟨rfl, rfl⟩ := hee
            clear hact
            have HW_ := Lib.hid (HW.out.trans hbg.1)
            have HB_ : Hid (B ≤ w7.heap.size) := Lib.hid (Nat.le_trans HB.out hbg.1.size)
            have HGE_ := Lib.hid (hbg.2 _ _ HGE.out)
            clear HW HB HGE hbg HWG
            have HW := HW_
            have HB := HB_
            have HGE := HGE_
            have HWG := Lib.hid hwg
            clear HW_ HB_ HGE_ hwg
            go_wp2_with fail
            go_roundw
            case rel => exact ⟨k + 1, s2, X2, put2, _, _, by omega, by go_num, HWG, HX2, HE2, HM, HGE, HW, HB⟩
            case measure => simp [intOf]; omega
        · skip
          obtain ⟨b, r2, rfl⟩ : ∃ b r2, rr = b :: r2 := by
            cases rr with
            | nil => exact absurd HNC.out (by simpa using hn2)
            | cons b r2 => exact ⟨b, r2, rfl⟩
          have hnc2 : (1 : Int) < (nc : Int) := by have hncl := HNC.out; simp only [List.length_cons] at hncl; omega
          obtain ⟨b1, o1, hAc1, hb1, d1⟩ := (HRW.out.below HW.out).at_ 1 (by have hncl := HNC.out; simp only [List.length_cons] at hncl; omega)
          have hAc1 := Option.some.inj hAc1
          injection hAc1 with e1 e2 e3
          subst e1 e2
          simp only [List.getElem_cons_zero, List.getElem_cons_succ] at d1
          obtain ⟨I, hIe⟩ : ∃ x, wi b N = x := ⟨_, rfl⟩
          have hIl : I < N := by rw [← hIe]; exact wi_lt b N (by omega)
          have hc_ := within_any b N wr (by omega) (by omega)
          rw [hIe] at hc_
          have Hc_ := Lib.hid hc_
          have HI := Lib.hid hIe
          clear hc_ hIe
          go_wp2_with fail
          refine Hc_.out.mono ?_
          rintro en w9 ⟨rfl, rfl⟩
          clear Hc_
          obtain ⟨K, hKe⟩ : ∃ x, wi a 3 = x := ⟨_, rfl⟩
          have hKl : K < 3 := by rw [← hKe]; exact wi_lt a 3 (by decide)
          have hc_ := within_any a 3 wr (by decide) (by decide)
          rw [hKe] at hc_
          have Hc_ := Lib.hid hc_
          have HK := Lib.hid hKe
          clear hc_ hKe
          go_wp2_with fail
          refine Hc_.out.mono ?_
          rintro en w9 ⟨rfl, rfl⟩
          clear Hc_
          by_cases hK0 : K = 0
          · skip
            subst hK0
            by_cases hkd : k < nd
            · skip
              have hkd' : (k : Int) < (nd : Int) := by omega
              have hsdl : sd.length = nd := HDS.out.1.symm
              have hdl : ds.length = nd := by rw [← hsdl]; exact HDD.out.1.symm
              obtain ⟨tk, htk⟩ : ∃ tk, sd[k]? = some tk := ⟨_, List.getElem?_eq_getElem (by omega)⟩
              obtain ⟨d, hdk⟩ : ∃ d, ds[k]? = some d := ⟨_, List.getElem?_eq_getElem (by omega)⟩
              obtain ⟨be, oe, hAd, hbe, de⟩ := (HDS.out.below HW.out).at_ htk
              subst hAd
              have hbe' : be < wr.heap.size := Nat.lt_of_lt_of_le hbe HB.out
              have hdel := HDD.out.2 k tk d htk hdk
              obtain ⟨Ae, ne, ce⟩ := tk
              simp only at hdel de
              have HDL := Lib.hid hdel
              have hne0 : (0 : Int) ≤ (ne : Int) := by omega
              have hnec : ne ≤ ce ∧ ce ≤ maxLen := ⟨hdel.2.1.1, hdel.2.1.2.1⟩
              have hce1 : (ne : Int) ≤ (ce : Int) := by omega
              have hce2 : (ce : Int) ≤ 9223372036854775807 := by have := hnec.2; simp only [maxLen] at this; omega
              have HTK := Lib.hid htk
              clear hsdl hdl hdk hdel hnec
              have hIX : I < X.length := by rw [HX.out]; omega
              have hIN : I < N := by omega
              have hc_ := wedit_G HWG.out HB.out HGE.out.lt (i := I) hIX d Ae ne ce (HDL.out.below HW.out)
              have Hc_ := Lib.hid hc_
              clear hc_
              go_wp2_with fail
              refine Hc_.out.mono ?_
              rintro en we (⟨EE, rfl, hEE, hwg, hbg⟩ | ⟨x, rfl, hx, hdo, hwg, hbg⟩)
              · skip
                clear Hc_
                have hEE2 : (EE == 0) = false := by simpa using hEE
                have HW_ := Lib.hid (HW.out.trans hbg.1)
                have HB_ : Hid (B ≤ we.heap.size) := Lib.hid (Nat.le_trans HB.out hbg.1.size)
                have HGE_ := Lib.hid (hbg.2 _ _ HGE.out)
                clear HW HB HGE hbg HWG
                have HW := HW_
                have HB := HB_
                have HGE := HGE_
                have HWG := Lib.hid hwg
                clear HW_ HB_ HGE_ hwg
                clear HDL HTK
                go_wp2_with fail
                go_roundw
                case rel => exact ⟨k + 1, s, X, put, edits, e, by omega, by go_num, HWG, HX, HE, HM, HGE, HW, HB⟩
                case measure => simp [intOf]; omega
              · skip
                clear Hc_
                have HW_ := Lib.hid (HW.out.trans hbg.1)
                have HB_ : Hid (B ≤ we.heap.size) := Lib.hid (Nat.le_trans HB.out hbg.1.size)
                have HGE_ := Lib.hid (hbg.2 _ _ HGE.out)
                clear HW HB HGE hbg HWG
                have HW := HW_
                have HB := HB_
                have HGE := HGE_
                have HWG := Lib.hid hwg
                clear HW_ HB_ HGE_ hwg
                have HX2 : Hid ((X.set I (editS x d)).length = N) := Lib.hid (by rw [List.length_set]; exact HX.out)
                have HE2 : Hid (EvS s (X.set I (editS x d))) := Lib.hid (HE.out.set hx (edit_seq _ _))
                have h64 := HWG.out.2.e64
                have hmI := HM.out I
                have hI0 : (0 : Int) ≤ ((I : Nat) : Int) := by omega
                have hI1 : ((I : Nat) : Int) < (N : Int) := by omega
                have c0 : we.cell? ⟨ge, I, none⟩ = some (.int .i64 (e I : Nat)) := (HGE.out.cell I).trans (arrE_at N e hIN)
                have c0f := HGE.out.frozen I
                have c0l := HGE.out.lt
                have hwr : IntKind.i64.wrap (((e I : Nat) : Int) + 1) = ((e I : Nat) : Int) + 1 := IntWalk.i64_in _ (by omega)
                have HM2 : Hid (∀ i, (((if i = I then e i + 1 else e i : Nat)) : Int) ≤ edits + 1) := Lib.hid (fun i => by have := HM.out i; split <;> omega)
                clear hx hdo h64 HDL HTK
                go_wp2_with fail
                have ho := Only.setSelf we ge I (.int .i64 (((e I : Nat) : Int) + 1))
                have hk1 := HGE.out.set_ I (.int .i64 (((e I : Nat) : Int) + 1))
                rw [arrE_set N e (fun k => if k = I then e k + 1 else e k) hIN _ (by simp) (fun k hk => by simp [hk])] at hk1
                have hB2 : Below B we (we.setCell ⟨ge, I, none⟩ (.int .i64 (((e I : Nat) : Int) + 1))) := (Below.refl B we).setCell (p := ⟨ge, I, none⟩) HZge.out _
                have HWG2 := Lib.hid (HWG.out.only HGE.out (by decide) ho)
                have HW2 := Lib.hid (HW.out.trans hB2)
                have HB2 := Lib.hid (Nat.le_trans HB.out hB2.size)
                have HGE2 := Lib.hid hk1
                go_roundw
                case rel => exact ⟨k + 1, s, _, _, _, _, by omega, by go_num, HWG2, HX2, HE2, HM2, HGE2, HW2, HB2⟩
                case measure => simp [intOf]; omega
            · skip
              have hkd' : (nd : Int) ≤ (k : Int) := by omega
              have Hw2 := Lib.hid (within_any a 3 wr (by decide) (by decide))
              rw [HK.out] at Hw2
              go_wp2_with fail
              refine Hw2.out.mono ?_
              rintro en w9 ⟨rfl, rfl⟩
              clear Hw2
              go_wp2_with fail
              go_roundw
              case rel => exact ⟨k + 1, s, X, put, edits, e, by omega, by go_num, HWG, HX, HE, HM, HGE, HW, HB⟩
              case measure => simp [intOf]; omega
          · skip
            have hKi : ((K : Nat) : Int) ≠ 0 := by omega
            have hKb : (((K : Nat) : Int) == 0) = false := by simpa using hK0
            have hKp : (0 : Int) < ((K : Nat) : Int) := by omega
            have Hw2 := Lib.hid (within_any a 3 wr (by decide) (by decide))
            rw [HK.out] at Hw2
            go_wp2_with fail
            refine Hw2.out.mono ?_
            rintro en w9 ⟨rfl, rfl⟩
            clear Hw2
            have hc_ := act_G HWG.out HB.out HGE.out.lt (a :: b :: r2) _ nc cc (HRW.out.below HW.out) [] none 0 0 ⟨rfl, Rd.nil _ _ _, by simp⟩
            rw [HX.out] at hc_
            have Hc_ := Lib.hid hc_
            clear hc_
            go_wp2_with fail
            refine Hc_.out.mono ?_
            rintro en w7 ⟨rfl, s2, X2, put2, ed2, e2, hact, hwg, hbg⟩
            clear Hc_
            have HX2 : Hid (X2.length = N) := Lib.hid (by rw [hact.len]; exact HX.out)
            have HE2 := Lib.hid (HE.out.act hact)
            have hee : ed2 = edits ∧ e2 = e := by
              rcases hact with ⟨_, _, _, _, _, h0⟩ | ⟨h0, _⟩ | ⟨_, _, h1, h2, _⟩
              · exact absurd (HK.out.symm.trans h0) hK0
              · exact absurd (HK.out.symm.trans h0) hK0
              · exact ⟨h1, h2⟩
            obtain ⟨rfl, rfl⟩ := hee
            clear hact
            have HW_ := Lib.hid (HW.out.trans hbg.1)
            have HB_ : Hid (B ≤ w7.heap.size) := Lib.hid (Nat.le_trans HB.out hbg.1.size)
            have HGE_ := Lib.hid (hbg.2 _ _ HGE.out)
            clear HW HB HGE hbg HWG
            have HW := HW_
            have HB := HB_
            have HGE := HGE_
            have HWG := Lib.hid hwg
            clear HW_ HB_ HGE_ hwg
            go_wp2_with fail
            go_roundw
            case rel => exact ⟨k + 1, s2, X2, put2, _, _, by omega, by go_num, HWG, HX2, HE2, HM, HGE, HW, HB⟩
            case measure => simp [intOf]; omega
    · skip
      have hkn : k = nl := by omega
      subst hkn
      have hc_ := wsettle_G HWG.out HB.out HGE.out.lt EvS (EvS.evw _ _ _) HE.out
      have Hc_ := Lib.hid hc_
      clear hc_
      go_wp2_with fail
      refine Hc_.out.mono ?_
      rintro en w8 ⟨rfl, s9, X9, hwg, hcalm, hev9, hlen9, hbg⟩
      clear Hc_
      have HX9 : Hid (X9.length = N) := Lib.hid (by rw [hlen9]; exact HX.out)
      have hc0 := (hev9.revs hwg.2 hcalm).1
      have HC0 := Lib.hid hc0
      clear hcalm hev9 hlen9 HX HE hc0
      have HW_ := Lib.hid (HW.out.trans hbg.1)
      have HB_ : Hid (B ≤ w8.heap.size) := Lib.hid (Nat.le_trans HB.out hbg.1.size)
      have HGE_ := Lib.hid (hbg.2 _ _ HGE.out)
      clear HW HB HGE hbg HWG
      have HW := HW_
      have HB := HB_
      have HGE := HGE_
      have HWG := Lib.hid hwg
      clear HW_ HB_ HGE_ hwg
      go_upto_region 21 with (first | (at_make; go_loud (refine wpList_make_full _ rfl (.tmp 102) (.tmp 102) 64 rfl w8.heap.size 3 i0 _ 1 Try.underlying64 hi hz0 hz1 .i64 .i64 _ _ N rfl rfl rfl rfl (by rw [hz2]; omega) (by simp only [maxLen]; omega) (Nat.le_refl _) ?_; intro wl hown hgr)))
      obtain ⟨gl, hgl⟩ : ∃ gl, w8.heap.size = gl := ⟨_, rfl⟩
      have hbl : Below w8.heap.size w8 wl := below_grown hgr (Nat.le_refl _) (by simp)
      have hkl := made_arr hown (made_rep N)
      rw [hgl] at hkl
      have HWD := Lib.hid (HWG.out.b)
      have HZgl : Hid (B ≤ gl) := Lib.hid (by rw [← hgl]; exact HB.out)
      have HNE : Hid (ge ≠ gl) := Lib.hid (by have := HGE.out.lt; omega)
      clear HWG hown hgr
      try rw [hgl]
      clear hgl
      have HWD_ := Lib.hid (HWD.out.below hbl)
      clear HWD
      have HWD := HWD_
      clear HWD_
      have HGE_ := Lib.hid (HGE.out.below hbl HGE.out.lt)
      clear HGE
      have HGE := HGE_
      clear HGE_
      have HW_ := Lib.hid (HW.out.trans (hbl.mono HB.out))
      clear HW
      have HW := HW_
      clear HW_
      have HB_ : Hid (B ≤ wl.heap.size) := Lib.hid (Nat.le_trans HB.out hbl.size)
      clear HB hbl
      have HB := HB_
      clear HB_
      have HGL := Lib.hid hkl
      clear hkl
      obtain ⟨R0, hR0⟩ : ∃ R0, s9.log.revs = R0 := ⟨_, rfl⟩
      obtain ⟨NR, hNR⟩ : ∃ NR, R0.length = NR := ⟨_, rfl⟩
      have HR0 := Lib.hid hR0
      have HNR := Lib.hid hNR
      have hNR4 : NR ≤ 64 := by rw [← hNR, ← hR0]; exact HWD.out.2.len
      have hNR0 : (0 : Int) ≤ (NR : Int) := by omega
      clear hR0 hNR
      have hc_ := wrevs_B HWD.out
      have Hc_ := Lib.hid hc_
      clear hc_
      go_wp2_with fail
      refine Hc_.out.mono ?_
      rintro en w24 ⟨⟨Aw, nw, cw⟩, ssw, rfl, how, hb24⟩
      clear Hc_
      have HWD_ := Lib.hid (HWD.out.below hb24)
      clear HWD
      have HWD := HWD_
      clear HWD_
      have HGE_ := Lib.hid (HGE.out.below hb24 HGE.out.lt)
      clear HGE
      have HGE := HGE_
      clear HGE_
      have HGL_ := Lib.hid (HGL.out.below hb24 HGL.out.lt)
      clear HGL
      have HGL := HGL_
      clear HGL_
      have HW_ := Lib.hid (HW.out.trans (hb24.mono HB.out))
      clear HW
      have HW := HW_
      clear HW_
      have HB_ : Hid (B ≤ w24.heap.size) := Lib.hid (Nat.le_trans HB.out hb24.size)
      clear HB hb24
      have HB := HB_
      clear HB_
      rw [HR0.out] at how
      simp only at how
      obtain rfl : NR = nw := by
        obtain ⟨A9, c9, e9⟩ := how.form
        injection e9 with e1 e2 e3
        rw [← HNR.out]; exact e2.symm
      have how := how.base (Nat.zero_le _)
      have hcw1 : (NR : Int) ≤ (cw : Int) := by have := how.rd.caps; omega
      have hcw2 : (cw : Int) ≤ 9223372036854775807 := by have := how.rd.caps; omega
      have HV := Lib.hid how
      clear how
      have HNUM : Hid (NumR R0) := Lib.hid (by rw [← HR0.out]; exact HWD.out.2.num)
      have HWHO : Hid (∀ r ∈ R0, 0 ≤ r.1 ∧ r.1 < (N : Int)) := Lib.hid (by rw [← HR0.out, ← HX9.out]; exact HWD.out.2.who)
      have HOWN : Hid (∀ p : Nat, p < N → cntW (p : Int) R0 ≤ e p) := Lib.hid (fun p hp => by
        have h1 := HWD.out.2.own p (X9[p]'(by rw [HX9.out]; exact hp)) (List.getElem?_eq_getElem (by rw [HX9.out]; exact hp))
        rw [HR0.out] at h1
        omega)
      have HE64 : Hid (edits ≤ 64) := Lib.hid HWD.out.2.e64
      have HC1 : Hid (1 ≤ cntW 0 R0) := Lib.hid (by rw [← HR0.out]; exact HC0.out)
      have HGL0 : Hid (Blk w24 gl 3 (arrE N (fun i => cntW (i : Int) (R0.take 0)))) := HGL
      clear HWD HX9 HC0 HGL
      go_upto_region 22 with (fail)
      go_loopw [15, 107] (fun x15 iv wr => ∃ (j : Nat), j ≤ NR ∧ iv = .int .i64 j ∧ Hid (Blk wr gl 3 (arrE N (fun i => cntW (i : Int) (R0.take j)))) ∧ Hid (Blk wr ge 3 (arrE N e)) ∧ Hid (OwnV wr 0 (.slice Aw NR cw) ssw R0) ∧ Hid (Below B w wr) ∧ Hid (B ≤ wr.heap.size)) (fun _ iv _ => NR - (intOf iv).toNat)
      case atStart => exact ⟨0, by omega, rfl, HGL0, HGE, HV, HW, HB⟩
      case round =>
        clear HGL0 HGE HV HW HB
        obtain ⟨j, hj, rfl, HGL, HGE, HV, HW, HB⟩ := hrel
        by_cases hjt : j < NR
        · skip
          have hjl : j < R0.length := by have := HNR.out; omega
          have htk : R0.take (j + 1) = R0.take j ++ [R0[j]] := List.take_succ_eq_append_getElem hjl
          have hsp : R0 = R0.take j ++ R0[j] :: R0.drop (j + 1) := by
            rw [← List.drop_eq_getElem_cons hjl, List.take_append_drop]
          obtain ⟨b, o, A1, n1, c1, hAw, hbl, d0, d1, d2, hrd⟩ := HV.out.rd.at_ j hjt
          subst hAw
          have hj0 : (0 : Int) ≤ (j : Int) := by omega
          have hjN : (j : Int) < (NR : Int) := by omega
          have hwho := HWHO.out R0[j] (List.getElem_mem hjl)
          have hnum := HNUM.out (R0.take j) R0[j] (R0.drop (j + 1)) hsp
          obtain ⟨f, hf⟩ : ∃ f, R0[j] = f := ⟨_, rfl⟩
          rw [hf] at d0 d1 hwho hnum htk
          obtain ⟨ra, rb, d⟩ := f
          simp only at d0 d1 d2 hwho hnum
          obtain ⟨p, rfl⟩ := Int.eq_ofNat_of_zero_le hwho.1
          have hpN : p < N := by have := hwho.2; omega
          have hp0 : (0 : Int) ≤ (p : Int) := by omega
          have hpN' : (p : Int) < (N : Int) := hwho.2
          have hcl1 : cntW (p : Int) (R0.take (j + 1)) = cntW (p : Int) (R0.take j) + 1 := by
            rw [htk, cntW_app]
            simp [cntW]
          have hcl2 : cntW (p : Int) (R0.take (j + 1)) ≤ cntW (p : Int) R0 := by
            have h1 := cntW_app (p : Int) (R0.take (j + 1)) (R0.drop (j + 1))
            rw [List.take_append_drop] at h1
            omega
          have hcl3 := HOWN.out p hpN
          have hoth : ∀ k : Nat, k ≠ p → cntW (k : Int) (R0.take (j + 1)) = cntW (k : Int) (R0.take j) := by
            intro k hk
            rw [htk, cntW_app]
            have : ¬ ((p : Int) = (k : Int)) := by omega
            simp [cntW, this]
          have HOTH := Lib.hid hoth
          have HCL1 := Lib.hid hcl1
          obtain ⟨c, hc⟩ : ∃ c, cntW (p : Int) (R0.take j) = c := ⟨_, rfl⟩
          have HCC := Lib.hid hc
          rw [hc] at hnum hcl1
          subst hnum
          have hM := HM.out p
          have h64 := HE64.out
          obtain ⟨ep, hep⟩ : ∃ ep, e p = ep := ⟨_, rfl⟩
          rw [hep] at hM hcl3
          have hce : c + 1 ≤ ep := by omega
          have hce64 : ep ≤ 64 := by omega
          have hbw : b < wr.heap.size := hbl
          have kz := Blk.new wr 27 #[.int .i64 p, .int .i64 (((c : Nat) : Int) + 1), .slice A1 n1 c1]
          have hal := (Below.refl wr.heap.size wr).alloc (Nat.le_refl _) (.cells #[.int .i64 p, .int .i64 (((c : Nat) : Int) + 1), .slice A1 n1 c1] 27)
          have z0 := kz.cell 0
          have z1 := kz.cell 1
          have lz := kz.lt
          have HR := Lib.hid kz
          clear htk hf kz hrd hsp hwho hoth hcl1 hcl2 hcl3 hM h64
          have HGL_ := Lib.hid (HGL.out.below hal HGL.out.lt)
          clear HGL
          have HGL := HGL_
          clear HGL_
          have HGE_ := Lib.hid (HGE.out.below hal HGE.out.lt)
          clear HGE
          have HGE := HGE_
          clear HGE_
          have HV_ := Lib.hid (HV.out.below hal)
          clear HV
          have HV := HV_
          clear HV_
          have HW_ := Lib.hid (HW.out.trans (hal.mono HB.out))
          clear HW
          have HW := HW_
          clear HW_
          have HB_ : Hid (B ≤ (wr.alloc (.cells #[.int .i64 p, .int .i64 (((c : Nat) : Int) + 1), .slice A1 n1 c1] 27)).heap.size) := Lib.hid (Nat.le_trans HB.out hal.size)
          clear HB hal
          have HB := HB_
          clear HB_
          have y0 : (wr.alloc (.cells #[.int .i64 p, .int .i64 (((c : Nat) : Int) + 1), .slice A1 n1 c1] 27)).cell? ⟨gl, p, none⟩ = some (.int .i64 (c : Nat)) := by
            have h1 := (HGL.out.cell p).trans (arrE_at N _ hpN)
            try simp only at h1
            rw [HCC.out] at h1
            exact h1
          have y0f := HGL.out.frozen p
          have y0l := HGL.out.lt
          have y1 : (wr.alloc (.cells #[.int .i64 p, .int .i64 (((c : Nat) : Int) + 1), .slice A1 n1 c1] 27)).cell? ⟨ge, p, none⟩ = some (.int .i64 (ep : Nat)) := by
            have h1 := (HGE.out.cell p).trans (arrE_at N _ hpN)
            rw [hep] at h1
            exact h1
          have y1l := HGE.out.lt
          have hg1 : decide ((p : Int) < 0) = false := decide_eq_false (by omega)
          have hg2 : decide ((N : Int) ≤ (p : Int)) = false := decide_eq_false (by omega)
          have hg3 : IntKind.i64.wrap (((c : Nat) : Int) + 1) = ((c : Nat) : Int) + 1 := IntWalk.i64_in _ (by omega)
          have hg4 : decide (((ep : Nat) : Int) < ((c : Nat) : Int) + 1) = false := decide_eq_false (by omega)
          clear hc hep
          go_upto_region 24 with (fail)
          go_quiet (fail)
          clear hg1 hg2 hg4 y0 y0f y0l y1 y1l z0 z1 lz
          have hdr : Below (wr.alloc (.cells #[.int .i64 p, .int .i64 (((c : Nat) : Int) + 1), .slice A1 n1 c1] 27)).heap.size (wr.alloc (.cells #[.int .i64 p, .int .i64 (((c : Nat) : Int) + 1), .slice A1 n1 c1] 27)) ((wr.alloc (.cells #[.int .i64 p, .int .i64 (((c : Nat) : Int) + 1), .slice A1 n1 c1] 27)).drewN nq) := ⟨rfl, rfl, rfl, Nat.le_refl _, fun k hk => rfl⟩
          have HGL_ := Lib.hid (HGL.out.below hdr HGL.out.lt)
          clear HGL
          have HGL := HGL_
          clear HGL_
          have HGE_ := Lib.hid (HGE.out.below hdr HGE.out.lt)
          clear HGE
          have HGE := HGE_
          clear HGE_
          have HV_ := Lib.hid (HV.out.below hdr)
          clear HV
          have HV := HV_
          clear HV_
          have HW_ := Lib.hid (HW.out.trans (hdr.mono HB.out))
          clear HW
          have HW := HW_
          clear HW_
          have HB_ : Hid (B ≤ ((wr.alloc (.cells #[.int .i64 p, .int .i64 (((c : Nat) : Int) + 1), .slice A1 n1 c1] 27)).drewN nq).heap.size) := Lib.hid (Nat.le_trans HB.out hdr.size)
          clear HB hdr
          have HB := HB_
          clear HB_
          obtain ⟨V2, hV2⟩ : ∃ V2, (wr.alloc (.cells #[.int .i64 p, .int .i64 (((c : Nat) : Int) + 1), .slice A1 n1 c1] 27)).drewN nq = V2 := ⟨_, rfl⟩
          have x0 := HR.out.drewN nq
          rw [hV2] at HGL HGE HV HW HB x0
          try rw [hV2]
          clear hV2
          have y0 : V2.cell? ⟨gl, p, none⟩ = some (.int .i64 (c : Nat)) := by
            have h1 := (HGL.out.cell p).trans (arrE_at N _ hpN)
            try simp only at h1
            rw [HCC.out] at h1
            exact h1
          have y0f := HGL.out.frozen p
          have y0l := HGL.out.lt
          have x00 := x0.cell 0
          have x0l := x0.lt
          go_wp2_with fail
          have ho := Only.setSelf V2 gl p (.int .i64 (((c : Nat) : Int) + 1))
          have hk1 := HGL.out.set_ p (.int .i64 (((c : Nat) : Int) + 1))
          rw [arrE_set N (fun i => cntW (i : Int) (R0.take j)) (fun i => cntW (i : Int) (R0.take (j + 1))) hpN _ (by rw [HCL1.out, HCC.out]; rfl) (fun k hk => HOTH.out k hk)] at hk1
          have hB2 : Below B V2 (V2.setCell ⟨gl, p, none⟩ (.int .i64 (((c : Nat) : Int) + 1))) := (Below.refl B V2).setCell (p := ⟨gl, p, none⟩) HZgl.out _
          have HGL2 := Lib.hid hk1
          have HGE2 := Lib.hid (HGE.out.only ho HNE.out)
          have HV2 := Lib.hid (HV.out.box HGL.out (by decide) (by decide) ho)
          have HW2 := Lib.hid (HW.out.trans hB2)
          have HB2 := Lib.hid (Nat.le_trans HB.out hB2.size)
          go_roundw
          case rel => exact ⟨j + 1, by omega, by go_num, HGL2, HGE2, HV2, HW2, HB2⟩
          case measure => simp [intOf]; omega
        · skip
          obtain rfl : j = NR := by omega
          have y0 : wr.cell? ⟨gl, 0, none⟩ = some (.int .i64 (cntW 0 R0 : Nat)) := by
            have h1 := (HGL.out.cell 0).trans (arrE_at N _ (by omega))
            rw [List.take_of_length_le (by rw [HNR.out]; exact Nat.le_refl _)] at h1
            exact h1
          have y0l := HGL.out.lt
          have hc1 := HC1.out
          have hc1' : (0 : Int) < ((cntW 0 R0 : Nat) : Int) := by omega
          have hc2 : decide (0 < cntW 0 R0) = true := decide_eq_true (by omega)
          go_wp2_with fail
          go_ret
          exact ⟨by simp, HBw.out ▸ HW.out⟩
end Go.Proofs.Ytmnnaemcjmiplaa
