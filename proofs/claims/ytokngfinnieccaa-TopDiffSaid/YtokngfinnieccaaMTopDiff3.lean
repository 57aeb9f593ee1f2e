/- walk of scrivtop.TopDiff. -/
import Derived.Test.YtokngfinnieccaaMTopDiff1
import Derived.Test.YtokngfinnieccaaMTopDiff2
import Derived.Test.YtokngfinnieccaaW13
import Derived.Test.YtokngfinnieccaaW8
import Derived.Test.YtokngfinnieccaaW12
namespace Go.Proofs.Ytokngfinnieccaa
open Go.ChangeShapes Go.WideShapes Go.RowKit
set_option linter.unusedVariables false
set_option linter.unusedSimpArgs false
set_option maxRecDepth 100000
set_option maxHeartbeats 4000000
theorem pv_succ {L : List ByteArray} {k : Nat} {s : ByteArray} (h : L[k]? = some s) : pv L (k + 1) = s := by
  show L.getD k emp = s
  rw [List.getD_eq_getElem?_getD, h]
  rfl
theorem pv_far (L : List ByteArray) (k : Nat) (h : L.length < k) : pv L k = emp := by
  obtain ⟨j, rfl⟩ : ∃ j, k = j + 1 := ⟨k - 1, by omega⟩
  show L.getD j emp = emp
  rw [List.getD_eq_getElem?_getD, List.getElem?_eq_none (by omega)]
  rfl
theorem walk_TopDiff (v : Value) (L0 : List ByteArray) (w : World) (h : IsStrs w v L0) :
    Calls Try.prog 3 #[v] w fun e w' => e = .returned (.bool true) ∧ Below w.heap.size w w' := by
  obtain ⟨A, n0, c, rfl, hrd⟩ := h
  obtain ⟨B, hB⟩ : ∃ B, w.heap.size = B := ⟨_, rfl⟩
  rw [hB] at hrd
  obtain ⟨n, hn⟩ : ∃ n, min n0 20 = n := ⟨_, rfl⟩
  have hn20 : n ≤ 20 := by omega
  have hnn : n ≤ n0 := by omega
  have HM : Hid (min (n0 : Int) 20 = (n : Int)) := Lib.hid (by omega)
  have hcap := hrd.caps
  have hn0c : (n0 : Int) ≤ (c : Int) := by omega
  have hnc : (n : Int) ≤ (c : Int) := by omega
  have hcc : (c : Int) ≤ 9223372036854775807 := by omega
  have hrt := hrd.take n hnn
  obtain ⟨L, hL⟩ : ∃ L, L0.take n = L := ⟨_, rfl⟩
  rw [hL] at hrt
  have HL := Lib.hid hrt
  have HLn : Hid (L.length = n) := Lib.hid hrt.1.symm
  have HBw := Lib.hid hB
  have HB : Hid (B ≤ w.heap.size) := Lib.hid (by omega)
  have HW : Hid (Below B w w) := Lib.hid (Below.refl _ _)
  have h00 : (0 : Int) ≤ (n : Int) := by omega
  clear hrd hrt hB hL hcap hn
  go_enter Try.func3, Try.ntmps3
  go_upto_region 2 with (first | (refine wpList_min2 rfl (.tmp 20) (.const (.int .i64 20)) _ rfl _ _ _ rfl rfl HM.out ?_))
  have hc_ := begun_any w
  have Hc_ := Lib.hid hc_
  clear hc_
  go_wp2_with fail
  refine Hc_.out.mono ?_
  rintro en w1 ⟨rfl, hb1⟩
  clear Hc_
  have HW_ := Lib.hid (HW.out.trans (hb1.mono HB.out))
  clear HW
  have HW := HW_
  clear HW_
  have HB_ : Hid (B ≤ w1.heap.size) := Lib.hid (Nat.le_trans HB.out hb1.size)
  clear HB hb1
  have HB := HB_
  clear HB_
  go_upto_region 7 with (fail)
  have HO : Hid (OwnV w1 B (.slice none 0 0) [] (hst L 0)) := Lib.hid (OwnV.nil _ _)
  have H5 : Hid (∀ j, j ≤ 0 → (pv L j).size ≤ 500) := Lib.hid (fun j hj => by
    obtain rfl : j = 0 := by omega
    show (emp : ByteArray).size ≤ 500
    decide)
  have HNW : Hid (pv L 0 = ⟨#[]⟩) := Lib.hid rfl
  go_loopw [3, 4, 5, 6, 7, 8, 27] (fun hv nv x5 x6 x7 x8 iv wr => ∃ (k ch : Nat) (Ah : Option Addr) (ss : List Sl) (nw : ByteArray), k ≤ n ∧ iv = .int .i64 k ∧ hv = .slice Ah k ch ∧ nv = .string nw ∧ Hid (pv L k = nw) ∧ Hid (OwnV wr B (.slice Ah k ch) ss (hst L k)) ∧ Hid (∀ j, j ≤ k → (pv L j).size ≤ 500) ∧ Hid (Below B w wr) ∧ Hid (B ≤ wr.heap.size)) (fun _ _ _ _ _ _ iv _ => n - (intOf iv).toNat)
  case atStart => exact ⟨0, 0, none, [], _, by omega, rfl, rfl, rfl, HNW, HO, H5, HW, HB⟩
  case round =>
    clear HO H5 HNW HW HB
    obtain ⟨k, ch, Ah, ss, nw, hk, rfl, rfl, rfl, HNW, HO, H5, HW, HB⟩ := hrel
    by_cases hkt : k < n
    · skip
      have hk0 : (0 : Int) ≤ (k : Int) := by omega
      have hkn : (k : Int) < (n : Int) := by omega
      obtain ⟨sx, hsx⟩ : ∃ sx, L[k]? = some sx := ⟨_, List.getElem?_eq_getElem (by rw [HLn.out]; exact hkt)⟩
      obtain ⟨b, o, hA, hb, d0, hsz⟩ := (HL.out.below HW.out).at_ hsx
      subst hA
      have hbw : b < wr.heap.size := Nat.lt_of_lt_of_le hb HB.out
      have hn5 : (nw.size : Int) ≤ 500 := by
        have := H5.out k (Nat.le_refl _)
        rw [HNW.out] at this
        omega
      have HPV := Lib.hid (pv_succ hsx)
      have HSX := Lib.hid hsx
      have hm9 : (sx.size : Int) ≤ 9223372036854775807 := by simp only [maxLen] at hsz; omega
      clear hsx hsz
      by_cases hx5 : (sx.size : Int) ≤ 500
      · skip
        have HBo := HB
        have hc_ := diff_own nw sx hn5 hx5 wr
        have Hc_ := Lib.hid hc_
        clear hc_
        go_wp2_with fail
        refine Hc_.out.mono ?_
        rintro en w42 ⟨A1, n1, c1, rfl, hown, hsm, hb42⟩
        clear Hc_
        have HO_ := Lib.hid (HO.out.below hb42)
        clear HO
        have HO := HO_
        clear HO_
        have HW_ := Lib.hid (HW.out.trans (hb42.mono HB.out))
        clear HW
        have HW := HW_
        clear HW_
        have HB_ : Hid (B ≤ w42.heap.size) := Lib.hid (Nat.le_trans HB.out hb42.size)
        clear HB hb42
        have HB := HB_
        clear HB_
        have HD := Lib.hid (own_base hown HBo.out)
        have Hsm := Lib.hid hsm
        have Hlen : Hid ((hst L k).length ≤ 100000000) := Lib.hid (by rw [hst_len]; omega)
        have hrm : (k : Int).tmod 8 = ((k % 8 : Nat) : Int) := rfl
        have hw1 : IntKind.i64.wrap ((k : Int) + 1) = (k : Int) + 1 := IntWalk.i64_in _ (by omega)
        have hw2 : IntKind.i64.wrap ((k % 8 : Nat) : Int) = ((k % 8 : Nat) : Int) := IntWalk.i64_in _ (by omega)
        clear hown hsm HBo
        go_upto_region 14 with (fail)
        go_wp2_with (first | (at_builtin; refine wpList_app_revO w42 rfl (.tmp 45) (.tmp 52) rfl B (.slice Ah k ch) ss (hst L k) rfl HO.out (((k % 8 : Nat) : Int), (k : Int) + 1, dl nw sx) (A1, n1, c1) HD.out Hsm.out 1 rfl Hlen.out HB.out ?_; intro v9 w9 g1 g2))
        have heq : hst L k ++ [(((k % 8 : Nat) : Int), (k : Int) + 1, dl nw sx)] = hst L (k + 1) := by
          rw [hst_succ, HNW.out, HPV.out]
          rfl
        rw [heq] at g1
        obtain ⟨A9, c9, e9⟩ := g1.form
        rw [hst_len] at e9
        subst e9
        have HO9 := Lib.hid g1
        have HW9 := Lib.hid (HW.out.trans g2)
        have HB9 : Hid (B ≤ w9.heap.size) := Lib.hid (Nat.le_trans HB.out g2.size)
        have H59 : Hid (∀ j, j ≤ k + 1 → (pv L j).size ≤ 500) := Lib.hid (fun j hj => by
          by_cases hjk : j ≤ k
          · exact H5.out j hjk
          · obtain rfl : j = k + 1 := by omega
            rw [HPV.out]
            omega)
        clear g1 g2 heq HO HW HB HD Hsm
        go_wp2_with fail
        go_roundw
        case rel => exact ⟨k + 1, c9, A9, _, sx, by omega, by go_num, rfl, rfl, HPV, HO9, H59, HW9, HB9⟩
        case measure => simp [intOf]; omega
      · skip
        have hx6 : (500 : Int) < (sx.size : Int) := by omega
        have Hc_ := Lib.hid (diff_large nw sx hn5 hx6 hm9 wr)
        clear hx5
        go_wp2_with fail
        refine Hc_.out.mono ?_
        rintro en w9 ⟨rfl, rfl⟩
        clear Hc_
        go_wp2_with fail
        go_ret
        exact ⟨rfl, HBw.out ▸ HW.out⟩
    · skip
      obtain rfl : k = n := by omega
      have hall : ∀ j, (pv L j).size ≤ 500 := fun j => by
        by_cases hjk : j ≤ k
        · exact H5.out j hjk
        · rw [pv_far L j (by rw [HLn.out]; omega)]
          decide
      obtain ⟨hg1, hg2⟩ := hst_good L hall k hn20
      have hlx := hst_lenx L hall k hn20
      have HLA := Lib.hid (fun j (hj : k = j + 1) => hst_last L hall j (by omega))
      have hhl := hst_len L k
      have HALL := Lib.hid hall
      obtain ⟨H, hH⟩ : ∃ H, hst L k = H := ⟨_, rfl⟩
      rw [hH] at hg1 hg2 hlx hhl HO
      have HH := Lib.hid hH
      have HTE := Lib.hid hg1
      have HTT := Lib.hid hg2
      have HHL := Lib.hid hhl
      obtain ⟨X, hX⟩ : ∃ X, blame emp H = X := ⟨_, rfl⟩
      rw [hX, HNW.out] at hlx
      have HX := Lib.hid hX
      have HXL := Lib.hid hlx
      clear hall hg1 hg2 hlx hhl hH hX H5 hkt
      go_upto_region 18 with (fail)
      go_loopw [9, 10, 11, 12, 58] (fun x9 x10 x11 x12 iv wr => ∃ (j : Nat), j ≤ k ∧ iv = .int .i64 j ∧ Hid (OwnV wr B (.slice Ah k ch) ss H) ∧ Hid (Below B w wr) ∧ Hid (B ≤ wr.heap.size)) (fun _ _ _ _ iv _ => k - (intOf iv).toNat)
      case atStart => exact ⟨0, by omega, rfl, HO, HW, HB⟩
      case round =>
        clear HO HW HB
        obtain ⟨j, hj, rfl, HO, HW, HB⟩ := hrel
        by_cases hjt : j < k
        · skip
          have hj0 : (0 : Int) ≤ (j : Int) := by omega
          have hjn : (j : Int) < (k : Int) := by omega
          obtain ⟨sx, hsx⟩ : ∃ sx, L[j]? = some sx := ⟨_, List.getElem?_eq_getElem (by rw [HLn.out]; exact hjt)⟩
          obtain ⟨b, o, hA, hb, d0, hsz⟩ := (HL.out.below HW.out).at_ hsx
          subst hA
          have hbw : b < wr.heap.size := Nat.lt_of_lt_of_le hb HB.out
          have hpv := pv_succ hsx
          have hw1 : IntKind.i64.wrap ((j : Int) + 1) = (j : Int) + 1 := IntWalk.i64_in _ (by omega)
          have hc_ := rtext_good emp H Ah k ch _ (j + 1) wr HO.out.rd (Nat.le_refl _) HTE.out (by rw [HHL.out]; omega)
          rw [HTT.out (j + 1) (by omega), hpv, show (((j + 1 : Nat)) : Int) = (j : Int) + 1 by omega] at hc_
          have Hcc := Lib.hid hc_
          clear hc_ hpv hsx hsz
          have hc_ := Hcc.out
          have Hc_ := Lib.hid hc_
          clear hc_
          go_wp2_with fail
          refine Hc_.out.mono ?_
          rintro en w42 ⟨rfl, hb42⟩
          clear Hc_
          have HO_ := Lib.hid (HO.out.below hb42)
          clear HO
          have HO := HO_
          clear HO_
          have HW_ := Lib.hid (HW.out.trans (hb42.mono HB.out))
          clear HW
          have HW := HW_
          clear HW_
          have HB_ : Hid (B ≤ w42.heap.size) := Lib.hid (Nat.le_trans HB.out hb42.size)
          clear HB hb42
          have HB := HB_
          clear HB_
          clear Hcc
          go_wp2_with fail
          go_roundw
          case rel => exact ⟨j + 1, by omega, by go_num, HO, HW, HB⟩
          case measure => simp [intOf]; omega
        · skip
          obtain rfl : j = k := by omega
          have hc_ := blame_good emp H Ah j ch _ wr HO.out.rd (Nat.le_refl _) HTE.out X HX.out
          have Hc_ := Lib.hid hc_
          clear hc_
          go_wp2_with fail
          refine Hc_.out.mono ?_
          rintro en w42 ⟨A1, n1, c1, rfl, hx, hb42⟩
          clear Hc_
          have HO_ := Lib.hid (HO.out.below hb42)
          clear HO
          have HO := HO_
          clear HO_
          have HW_ := Lib.hid (HW.out.trans (hb42.mono HB.out))
          clear HW
          have HW := HW_
          clear HW_
          have HB_ : Hid (B ≤ w42.heap.size) := Lib.hid (Nat.le_trans HB.out hb42.size)
          clear HB hb42
          have HB := HB_
          clear HB_
          have hn1 : n1 = nw.size := hx.1.trans HXL.out
          subst hn1
          have hnw5 : (nw.size : Int) ≤ 500 := by
            have := HALL.out j
            rw [HNW.out] at this
            omega
          have HXR := Lib.hid hx
          have hx1 : nw.size ≤ c1 := hx.2.1
          have hx2 : (nw.size : Int) ≤ (c1 : Int) := by omega
          clear hx hx1 hjt
          obtain ⟨B9, hB9⟩ : ∃ B9, w42.heap.size = B9 := ⟨_, rfl⟩
          have HX9 : Hid (RdI w42 B9 A1 nw.size c1 X) := Lib.hid (by rw [← hB9]; exact HXR.out)
          have HB9 : Hid (B9 ≤ w42.heap.size) := Lib.hid (Nat.le_of_eq hB9.symm)
          clear HXR hB9
          obtain ⟨N1, hN1⟩ : ∃ N1, nw.size = N1 := ⟨_, rfl⟩
          rw [hN1] at HX9 HXL hx2 hnw5 ⊢
          go_upto_region 29 with (fail)
          have HC0 : Hid (cN (X.take 0) j = 0) := Lib.hid rfl
          go_loopw [15, 17, 94] (fun cv x17 iv wr => ∃ (i q : Nat), i ≤ N1 ∧ q ≤ i ∧ iv = .int .i64 i ∧ cv = .int .i64 q ∧ Hid (cN (X.take i) j = q) ∧ wr = w42) (fun _ _ iv _ => N1 - (intOf iv).toNat)
          case atStart => exact ⟨0, 0, by omega, by omega, rfl, rfl, HC0, rfl⟩
          case round =>
            obtain ⟨i, q, hi, hqi, rfl, rfl, HC, rfl⟩ := hrel
            by_cases hit : i < N1
            · skip
              have hi0 : (0 : Int) ≤ (i : Int) := by omega
              have hiN : (i : Int) < (N1 : Int) := by omega
              have hil : i < X.length := by rw [HXL.out]; exact hit
              obtain ⟨b, o, hA, hb, d0⟩ := HX9.out.at_ i hit
              subst hA
              have hbw : b < wr.heap.size := Nat.lt_of_lt_of_le hb HB9.out
              have htk : X.take (i + 1) = X.take i ++ [X[i]] := List.take_succ_eq_append_getElem hil
              obtain ⟨x, hx⟩ : ∃ x, X[i] = x := ⟨_, rfl⟩
              rw [hx] at d0 htk
              have HTK := Lib.hid htk
              clear hx htk
              by_cases hxj : x = (j : Int)
              · skip
                subst hxj
                have hw1 : IntKind.i64.wrap ((q : Int) + 1) = (q : Int) + 1 := IntWalk.i64_in _ (by omega)
                have HC2 : Hid (cN (X.take (i + 1)) j = q + 1) := Lib.hid (by rw [HTK.out, cN_snoc, HC.out, if_pos rfl])
                clear HC
                go_wp2_with fail
                go_roundw
                case rel => exact ⟨i + 1, q + 1, by omega, by omega, by go_num, by go_num, HC2, trivial⟩
                case measure => simp [intOf]; omega
              · skip
                have hxb : (x == (j : Int)) = false := by simpa using hxj
                have HC2 : Hid (cN (X.take (i + 1)) j = q) := Lib.hid (by rw [HTK.out, cN_snoc, HC.out, if_neg hxj]; rfl)
                clear HC hxj
                go_wp2_with fail
                go_roundw
                case rel => exact ⟨i + 1, q, by omega, by omega, by go_num, rfl, HC2, trivial⟩
                case measure => simp [intOf]; omega
            · skip
              obtain rfl : i = N1 := by omega
              have HQ : Hid (cN X j = q) := Lib.hid (by
                have h := HC.out
                rw [List.take_of_length_le (by rw [HXL.out]; exact Nat.le_refl _)] at h
                exact h)
              clear HC hit
              by_cases hjz : j = 0
              · skip
                subst hjz
                go_wp2_with fail
                go_ret
                exact ⟨rfl, HBw.out ▸ HW.out⟩
              · skip
                obtain ⟨p, hp⟩ : ∃ p, j = p + 1 := ⟨j - 1, by omega⟩
                have hla := HLA.out p hp
                rw [← hp, HNW.out, HH.out, HX.out, HQ.out, hN1] at hla
                have hjb : ((j : Int) == 0) = false := by
                  simp
                  omega
                have hpv := prev_any L A j c B wr (HL.out.below HW.out) HB.out
                rw [show j - 1 = p by omega] at hpv
                obtain ⟨pr, hpr⟩ : ∃ pr, pv L p = pr := ⟨_, rfl⟩
                have hpr5 : (pr.size : Int) ≤ 500 := by
                  have := HALL.out p
                  rw [hpr] at this
                  omega
                rw [hpr] at hpv hla
                obtain ⟨C, hC⟩ : ∃ C, lcs pr.data.toList nw.data.toList = C := ⟨_, rfl⟩
                rw [hC] at hla
                have Hpv := Lib.hid hpv
                have Hcm := Lib.hid (common_any pr nw hpr5 (by omega) wr C hC)
                have hwr : IntKind.i64.wrap ((i : Int) - (C : Int)) = (q : Int) := (IntWalk.i64_in _ (by omega)).trans hla.symm
                clear hla hpv hC hpr hp hjz
                go_wp2_with fail
                refine Hpv.out.mono ?_
                rintro en w9 ⟨rfl, rfl⟩
                clear Hpv
                have hc_ := Hcm.out
                have Hc_ := Lib.hid hc_
                clear hc_
                go_wp2_with fail
                refine Hc_.out.mono ?_
                rintro en w83 ⟨rfl, hb83⟩
                clear Hc_
                have HW_ := Lib.hid (HW.out.trans (hb83.mono HB.out))
                clear HW
                have HW := HW_
                clear HW_
                have HB_ : Hid (B ≤ w83.heap.size) := Lib.hid (Nat.le_trans HB.out hb83.size)
                clear HB hb83
                have HB := HB_
                clear HB_
                go_wp2_with fail
                go_ret
                exact ⟨rfl, HBw.out ▸ HW.out⟩
end Go.Proofs.Ytokngfinnieccaa
