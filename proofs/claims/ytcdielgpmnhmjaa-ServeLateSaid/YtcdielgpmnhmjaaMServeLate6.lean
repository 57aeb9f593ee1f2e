/- walk of scrivkeep.ServeLate. -/
import Derived.Test.YtcdielgpmnhmjaaMServeLate3
import Derived.Test.YtcdielgpmnhmjaaMServeLate4
import Derived.Test.YtcdielgpmnhmjaaMServeLate5
namespace Go.Proofs.Ytcdielgpmnhmjaa
open Go.ChangeShapes Go.WideShapes Go.RowKit
set_option linter.unusedVariables false
set_option linter.unusedSimpArgs false
set_option maxRecDepth 100000
set_option maxHeartbeats 4000000

def saL : Sh := addS shN (1, 1, [(2, 0, ⟨#[97]⟩)])
theorem fill_aL : fillS shN [(1, 1, [(2, 0, ⟨#[97]⟩)])] = saL := by simp only [fillS]; rw [if_pos fill_a]; rfl
theorem sub_aL : subE saL 0 2 1 [(2, 0, ⟨#[98]⟩)] = 0 := by decide +kernel
theorem subN_aL : subN saL 0 2 1 [(2, 0, ⟨#[98]⟩)] = 2 := by decide +kernel
theorem sub_abase : (subS saL none 0 2 1 [(2, 0, ⟨#[98]⟩)]).log.base = 0 := by decide +kernel
theorem sub_alen : (subS saL none 0 2 1 [(2, 0, ⟨#[98]⟩)]).log.revs.length = 2 := by decide +kernel
theorem sub_atext : txt (subS saL none 0 2 1 [(2, 0, ⟨#[98]⟩)]).log.text (subS saL none 0 2 1 [(2, 0, ⟨#[98]⟩)]).log.revs 2 = ⟨#[97, 98]⟩ := by decide +kernel
theorem OwnV.far {w w' : World} {B Z : Nat} {v : Value} {ss : List Sl} {l : List Rv} (h : OwnV w Z v ss l) (ho : Only w w' (fun k => B ≤ k ∧ k < Z)) : OwnV w' Z v ss l :=
  h.only ho (fun k hk hS => by have h1 := own_ge h.row k hk; have h2 : B ≤ k ∧ k < Z := hS; omega) (fun j hj k hk hS => by have h1 := own_ge (h.ds j hj).1 k hk; have h2 : B ≤ k ∧ k < Z := hS; omega)
theorem sub_late (s : Sh) (bs who sq : Int) (d : List Pt) (hb : s.log.base = 0) : (subE s bs who sq d ≠ 0 ∧ subN s bs who sq d = 0) ∨
    (subE s bs who sq d = 0 ∧ subN s bs who sq d = (subT s who).2) ∨
    (subE s bs who sq d = 0 ∧ subN s bs who sq d = (s.log.revs.length : Int) + 1 ∧ ∃ k : Nat, bs = (k : Int) ∧ k ≤ s.log.revs.length ∧ (subS s none bs who sq d).log.base = 0 ∧ (subS s none bs who sq d).log.revs = s.log.revs ++ [(who, sq, mtL d (s.log.revs.drop k))]) := by
  by_cases hE : subE s bs who sq d = 0
  · right
    by_cases hA : subAgain s who sq d
    · left
      refine ⟨hE, ?_⟩
      unfold subN; rw [if_neg (by simp [hE]), if_pos hA]
    · right
      have hE' := hE
      unfold subE at hE'
      split at hE'
      · cases hE'
      · split at hE'
        · exact absurd hE' (by assumption)
        · split at hE'
          · exact absurd ⟨by assumption, by omega, by omega, by omega⟩ hA
          · split at hE'
            · cases hE'
            · split at hE'
              · exact absurd hE' (by assumption)
              · rename_i ht
                have ht' : thE s.log bs = 0 := by simpa using ht
                obtain ⟨k, hk, hkl⟩ := thE_zero ht'
                have hkk : (bs - s.log.base).toNat = k := by omega
                rw [hkk] at hE'
                split at hE'
                · cases hE'
                · split at hE'
                  · exact absurd hE' (by assumption)
                  · have hS : subS s none bs who sq d = addS s (who, sq, mtL d (s.log.revs.drop k)) := by
                      unfold subS
                      rw [if_neg (by rintro (h | h); exact h hE; exact hA h), hkk]
                      unfold addG
                      rw [if_pos hE', if_neg (by decide)]
                    refine ⟨hE, ?_, k, by omega, hkl, ?_, ?_⟩
                    · unfold subN; rw [if_neg (by simp [hE]), if_neg hA, hb]; omega
                    · rw [hS]; exact hb
                    · rw [hS]; rfl
  · left
    refine ⟨hE, ?_⟩
    unfold subN; rw [if_pos hE]
theorem cutsR {R : Bool} (l : List Pt) (A : Option Addr) (n c B : Nat) (w : World) (h : RdP w B A n c l) (hB : B ≤ w.heap.size) (hR : hasCut l = R) :
    Calls Try.prog 37 #[.slice A n c] w fun e w' => e = .returned (.bool R) ∧ Below w.heap.size w w' := by
  subst hR
  exact cuts_any l A n c B w h hB
theorem late_each {l : List Rv} {k : Nat} {mine : List Pt} (h1 : CaOk ⟨#[]⟩ l k mine) (h2 : anyCut (l.drop k).tail = false) (h3 : hasCut mine = false) : mtL mine (l.drop k) = meetD (btwL ⟨#[]⟩ l k l.length) mine := by
  have hce := catch_each (mine := mine) h3 (l.drop k) (txr_drop l ⟨#[]⟩ k (txE_parts h1.2.1).2.2) (txt_size l ⟨#[]⟩ k (txE_parts h1.2.1).1) (fun x hx => by
    have h4 := h2
    unfold anyCut at h4
    rw [List.any_eq_false] at h4
    simpa using h4 x hx) h1.2.2.1 (by
    have h5 := h1.2.2.2
    unfold btwL at h5
    rwa [List.take_of_length_le (by rw [List.length_drop]; omega)] at h5)
  unfold btwL
  rw [List.take_of_length_le (by rw [List.length_drop]; omega)]
  exact hce.2
theorem walk_ServeLate (v : Value) (l : List Rv) (v2 : Value) (x : Int × Int × Int × List Pt) (w : World) (h : IsRevs w v l) (h2 : IsMsg w v2 x) :
    Calls Try.prog 8 #[v, v2] w fun e w' => e = .returned (.bool true) ∧ Below w.heap.size w w' := by
  obtain ⟨A, n, c, rfl, hrd⟩ := h
  obtain ⟨bs, who, sq, d⟩ := x
  obtain ⟨Am, nm, cm, rfl, hd⟩ := h2
  simp only at hd ⊢
  have kp := Blk.new w 56 #[.int .i64 bs, .int .i64 who, .int .i64 sq, .slice Am nm cm]
  have hal := (Below.refl w.heap.size w).alloc (Nat.le_refl _) (.cells #[.int .i64 bs, .int .i64 who, .int .i64 sq, .slice Am nm cm] 56)
  have hl0 := hrd.alloc (Nat.le_refl _) (.cells #[.int .i64 bs, .int .i64 who, .int .i64 sq, .slice Am nm cm] 56)
  have hd0 := hd.alloc (Nat.le_refl _) (.cells #[.int .i64 bs, .int .i64 who, .int .i64 sq, .slice Am nm cm] 56)
  clear hrd hd
  go_enter Try.func8, Try.ntmps8
  go_upto_region 1 with (fail)
  obtain ⟨u1, hu1⟩ : ∃ u1, w.alloc (.cells #[.int .i64 bs, .int .i64 who, .int .i64 sq, .slice Am nm cm] 56) = u1 := ⟨_, rfl⟩
  rw [hu1] at kp hal hl0 hd0 ⊢
  obtain ⟨gz, hg⟩ : ∃ gz, w.heap.size = gz := ⟨_, rfl⟩
  rw [hg] at kp hal hl0 hd0 ⊢
  obtain ⟨B, hB⟩ : ∃ B, u1.heap.size = B := ⟨_, rfl⟩
  have hgB : gz < B := by rw [← hB]; exact kp.lt
  have HL := Lib.hid (hl0.more (Nat.le_of_lt hgB))
  have HD := Lib.hid (hd0.more (Nat.le_of_lt hgB))
  have HK := Lib.hid kp
  have HgB := Lib.hid hgB
  have HB : Hid (B ≤ u1.heap.size) := Lib.hid (by omega)
  have HW : Hid (Below B u1 u1) := Lib.hid (Below.refl _ _)
  have Hal := Lib.hid hal
  have Hg0 := Lib.hid hg
  clear kp hal hl0 hd0 hu1 hg hB hgB
  have hc_ := first_any ⟨#[97]⟩ (by decide) u1
  have Hc_ := Lib.hid hc_
  clear hc_
  go_wp2_with fail
  refine Hc_.out.mono ?_
  rintro e w1 ⟨Af, rfl, hrf, hb1⟩
  clear Hc_
  have HL_ := Lib.hid (RdR.below HL.out (hb1.mono HB.out))
  clear HL
  have HL := HL_
  clear HL_
  have HD_ := Lib.hid (RdP.below HD.out (hb1.mono HB.out))
  clear HD
  have HD := HD_
  clear HD_
  have HK_ := Lib.hid (HK.out.below hb1 HK.out.lt)
  clear HK
  have HK := HK_
  clear HK_
  have HW_ := Lib.hid (HW.out.trans (hb1.mono HB.out))
  clear HW
  have HW := HW_
  clear HW_
  have HB_ : Hid (B ≤ w1.heap.size) := Lib.hid (Nat.le_trans HB.out hb1.size)
  clear HB
  have HB := HB_
  clear HB_ hb1
  have hal := (Below.refl w1.heap.size w1).alloc (Nat.le_refl _) (.cells #[.int .i64 1, .int .i64 1, .slice Af 1 1] 27)
  have hfi := filled_B [(1, 1, [(2, 0, ⟨#[97]⟩)])] (some ⟨w1.heap.size, 0, none⟩) 1 1 (w1.alloc (.cells #[.int .i64 1, .int .i64 1, .slice Af 1 1] 27)) (RdR.built1 w1 1 1 Af 1 1 [(2, 0, ⟨#[97]⟩)] hrf)
  rw [fill_aL] at hfi
  clear hrf
  have HL_ := Lib.hid (RdR.below HL.out (hal.mono HB.out))
  clear HL
  have HL := HL_
  clear HL_
  have HD_ := Lib.hid (RdP.below HD.out (hal.mono HB.out))
  clear HD
  have HD := HD_
  clear HD_
  have HK_ := Lib.hid (HK.out.below hal HK.out.lt)
  clear HK
  have HK := HK_
  clear HK_
  have HW_ := Lib.hid (HW.out.trans (hal.mono HB.out))
  clear HW
  have HW := HW_
  clear HW_
  have HB_ : Hid (B ≤ (w1.alloc (.cells #[.int .i64 1, .int .i64 1, .slice Af 1 1] 27)).heap.size) := Lib.hid (Nat.le_trans HB.out hal.size)
  clear HB
  have HB := HB_
  clear HB_ hal
  have HBo := HB
  have hc_ := hfi
  have Hc_ := Lib.hid hc_
  clear hc_
  go_wp2_with fail
  refine Hc_.out.mono ?_
  rintro e w2 ⟨q0, rfl, hm, hb2⟩
  clear Hc_
  have HL_ := Lib.hid (RdR.below HL.out (hb2.mono HB.out))
  clear HL
  have HL := HL_
  clear HL_
  have HD_ := Lib.hid (RdP.below HD.out (hb2.mono HB.out))
  clear HD
  have HD := HD_
  clear HD_
  have HK_ := Lib.hid (HK.out.below hb2 HK.out.lt)
  clear HK
  have HK := HK_
  clear HK_
  have HW_ := Lib.hid (HW.out.trans (hb2.mono HB.out))
  clear HW
  have HW := HW_
  clear HW_
  have HB_ : Hid (B ≤ w2.heap.size) := Lib.hid (Nat.le_trans HB.out hb2.size)
  clear HB
  have HB := HB_
  clear HB_ hb2
  clear hfi
  have hm := hm.base HBo.out
  have H0 := Lib.hid hm
  clear hm HBo
  have hc_ := put_any ⟨#[98]⟩ (by decide) w2
  have Hc_ := Lib.hid hc_
  clear hc_
  go_wp2_with fail
  refine Hc_.out.mono ?_
  rintro e w3 ⟨Ab, rfl, hrb, hb3⟩
  clear Hc_
  have HL_ := Lib.hid (RdR.below HL.out (hb3.mono HB.out))
  clear HL
  have HL := HL_
  clear HL_
  have HD_ := Lib.hid (RdP.below HD.out (hb3.mono HB.out))
  clear HD
  have HD := HD_
  clear HD_
  have HK_ := Lib.hid (HK.out.below hb3 HK.out.lt)
  clear HK
  have HK := HK_
  clear HK_
  have H0_ := Lib.hid (H0.out.below hb3)
  clear H0
  have H0 := H0_
  clear H0_
  have HW_ := Lib.hid (HW.out.trans (hb3.mono HB.out))
  clear HW
  have HW := HW_
  clear HW_
  have HB_ : Hid (B ≤ w3.heap.size) := Lib.hid (Nat.le_trans HB.out hb3.size)
  clear HB
  have HB := HB_
  clear HB_ hb3
  have hc_ := submit_B q0 saL none B 1 0 2 1 [(2, 0, ⟨#[98]⟩)] Ab 1 1 w3 H0.out HB.out hrb
  rw [sub_aL, subN_aL] at hc_
  clear hrb
  have Hc_ := Lib.hid hc_
  clear hc_
  go_wp2_with fail
  refine Hc_.out.mono ?_
  rintro e w4 ⟨rfl, hm, hb⟩
  clear Hc_
  have HL_ := Lib.hid (RdR.below HL.out hb)
  clear HL
  have HL := HL_
  clear HL_
  have HD_ := Lib.hid (RdP.below HD.out hb)
  clear HD
  have HD := HD_
  clear HD_
  have HK_ := Lib.hid (HK.out.below hb HgB.out)
  clear HK
  have HK := HK_
  clear HK_
  have HW_ := Lib.hid (HW.out.trans hb)
  clear HW
  have HW := HW_
  clear HW_
  have HB_ : Hid (B ≤ w4.heap.size) := Lib.hid (Nat.le_trans HB.out hb.size)
  clear HB
  have HB := HB_
  clear HB_ hb
  clear H0
  have H0 := Lib.hid hm
  clear hm
  have hc_ := stext_B q0 _ none B 1 2 2 w4 H0.out (by rw [sub_abase]; rfl) (by rw [sub_alen]; exact Nat.le_refl _)
  rw [sub_atext] at hc_
  have Hc_ := Lib.hid hc_
  clear hc_
  go_wp2_with fail
  refine Hc_.out.mono ?_
  rintro e w5 ⟨rfl, hb5⟩
  clear Hc_
  have HL_ := Lib.hid (RdR.below HL.out (hb5.mono HB.out))
  clear HL
  have HL := HL_
  clear HL_
  have HD_ := Lib.hid (RdP.below HD.out (hb5.mono HB.out))
  clear HD
  have HD := HD_
  clear HD_
  have HK_ := Lib.hid (HK.out.below hb5 HK.out.lt)
  clear HK
  have HK := HK_
  clear HK_
  have H0_ := Lib.hid (H0.out.below hb5)
  clear H0
  have H0 := H0_
  clear H0_
  have HW_ := Lib.hid (HW.out.trans (hb5.mono HB.out))
  clear HW
  have HW := HW_
  clear HW_
  have HB_ : Hid (B ≤ w5.heap.size) := Lib.hid (Nat.le_trans HB.out hb5.size)
  clear HB
  have HB := HB_
  clear HB_ hb5
  clear H0
  have HBo := HB
  have hc_ := filled_B l A n c w5 (HL.out.more HB.out)
  have Hc_ := Lib.hid hc_
  clear hc_
  go_wp2_with fail
  refine Hc_.out.mono ?_
  rintro e w6 ⟨q, rfl, hm, hb6⟩
  clear Hc_
  have HL_ := Lib.hid (RdR.below HL.out (hb6.mono HB.out))
  clear HL
  have HL := HL_
  clear HL_
  have HD_ := Lib.hid (RdP.below HD.out (hb6.mono HB.out))
  clear HD
  have HD := HD_
  clear HD_
  have HK_ := Lib.hid (HK.out.below hb6 HK.out.lt)
  clear HK
  have HK := HK_
  clear HK_
  have HW_ := Lib.hid (HW.out.trans (hb6.mono HB.out))
  clear HW
  have HW := HW_
  clear HW_
  have HB_ : Hid (B ≤ w6.heap.size) := Lib.hid (Nat.le_trans HB.out hb6.size)
  clear HB
  have HB := HB_
  clear HB_ hb6
  have hm := hm.base HBo.out
  have hS2 := base_fill l shN
  have hS4 := hm.hg.len
  have hS5 := tab_head l who
  obtain ⟨s0, hs0⟩ : ∃ s0, fillS shN l = s0 := ⟨_, rfl⟩
  rw [hs0] at hm hS2 hS4 hS5
  obtain ⟨N, hN⟩ : ∃ N, s0.log.revs.length = N := ⟨_, rfl⟩
  rw [hN] at hS4 hS5
  have hN1 : N ≤ 64 := hS4
  have HBase : Hid (s0.log.base = 0) := Lib.hid hS2
  rw [HBase.out, Int.zero_add] at hS5
  have H5 := Lib.hid hS5
  have HN := Lib.hid hN
  have hN0 : (0 : Int) ≤ (N : Int) := by omega
  obtain ⟨b, tN, hgg⟩ := hm
  obtain ⟨Zw, hZw⟩ : ∃ Zw, w6.heap.size = Zw := ⟨_, rfl⟩
  rw [hZw] at hgg
  have HZ : Hid (Zw ≤ w6.heap.size) := Lib.hid (by omega)
  clear hS2 hS4 hS5 hs0 hN HL HBo hZw
  have HG := Lib.hid hgg
  clear hgg
  obtain ⟨R0, hR0⟩ : ∃ R0, s0.log.revs = R0 := ⟨_, rfl⟩
  have HR0 := Lib.hid hR0
  have HNR : Hid (R0.length = N) := Lib.hid (by rw [← hR0]; exact HN.out)
  clear hR0
  have HZo := HZ
  have hc_ := srevs_B q s0 none B 1 0 0 w6 (ShB.of (B := B) HG.out (fun k hk => hk.1)) (by rw [HBase.out]; rfl) (Nat.zero_le _)
  have Hc_ := Lib.hid hc_
  clear hc_
  go_wp2_with fail
  refine Hc_.out.mono ?_
  rintro e w7 ⟨⟨Aw, nw, cw⟩, ssw, rfl, how, hb7⟩
  clear Hc_
  have HD_ := Lib.hid (RdP.below HD.out (hb7.mono HB.out))
  clear HD
  have HD := HD_
  clear HD_
  have HK_ := Lib.hid (HK.out.below hb7 HK.out.lt)
  clear HK
  have HK := HK_
  clear HK_
  have HG_ := Lib.hid (HG.out.below hb7)
  clear HG
  have HG := HG_
  clear HG_
  have HZ_ := Lib.hid (Nat.le_trans HZ.out (hb7.size))
  clear HZ
  have HZ := HZ_
  clear HZ_
  have HW_ := Lib.hid (HW.out.trans (hb7.mono HB.out))
  clear HW
  have HW := HW_
  clear HW_
  have HB_ : Hid (B ≤ w7.heap.size) := Lib.hid (Nat.le_trans HB.out hb7.size)
  clear HB
  have HB := HB_
  clear HB_ hb7
  rw [List.drop_zero, HR0.out] at how
  simp only at how
  obtain rfl : N = nw := by
    obtain ⟨A9, c9, e9⟩ := how.form
    injection e9 with e1 e2 e3
    rw [← HNR.out]; exact e2.symm
  have how := how.base HZo.out
  have hcw1 : (N : Int) ≤ (cw : Int) := by have := how.rd.caps; omega
  have hcw2 : (cw : Int) ≤ 9223372036854775807 := by have := how.rd.caps; omega
  have HWs := Lib.hid how
  clear how HZo
  have hway := sub_late s0 bs who sq d HBase.out
  rw [HR0.out, HNR.out] at hway
  have h5 := H5.out
  obtain ⟨⟨T1, T2⟩, hT⟩ : ∃ T, subT s0 who = T := ⟨_, rfl⟩
  rw [hT] at h5 hway
  simp only at h5 hway
  have HT2 : Hid (T2 ≤ (N : Int)) := Lib.hid h5
  have Hway := Lib.hid hway
  clear hway h5 hT H5
  rcases Hway.out with ⟨e0, e1⟩ | ⟨e0, e1⟩ | ⟨e0, e1, k, rfl, hk, e2, e3⟩
  · skip
    obtain ⟨EE, hEE⟩ : ∃ EE, subE s0 bs who sq d = EE := ⟨_, rfl⟩
    rw [hEE] at e0
    have HEE := Lib.hid hEE
    have Hn := Lib.hid e1
    have q1 : (EE == 0) = false := by simpa using e0
    have q2 : (EE != 0) = true := by simpa using e0
    clear hEE e0 e1 Hway
    have hc_ := submit_G q s0 none _ 1 b tN bs who sq d Am nm cm w7 HG.out (HD.out.more HB.out)
    rw [HEE.out, Hn.out] at hc_
    have Hc_ := Lib.hid hc_
    have Hrow := Lib.hid (pmsg_row HK.out rfl)
    clear hc_
    go_wp2_with (first | (refine wpList_load_blk rfl _ (.tmp 3) rfl gz rfl _ Hrow.out ?_))
    refine Hc_.out.mono ?_
    rintro e v1 ⟨rfl, hm, oo⟩
    clear Hc_ Hrow
    have hb := oo.below HB.out (fun k hk => hk.1)
    have HWs_ := Lib.hid (HWs.out.far oo)
    clear HWs
    have HWs := HWs_
    have HK_ := Lib.hid (HK.out.below hb HgB.out)
    clear HK
    have HK := HK_
    have HD_ := Lib.hid (RdP.below HD.out hb)
    clear HD
    have HD := HD_
    have HW_ := Lib.hid (HW.out.trans hb)
    clear HW
    have HW := HW_
    have HB_ : Hid (B ≤ v1.heap.size) := Lib.hid (Nat.le_trans HB.out hb.size)
    have HM := Lib.hid (ShB.of (B := 0) hm (fun _ _ => Nat.zero_le _))
    clear HB
    have HB := HB_
    clear HB_ HW_ HD_ HK_ HWs_ HG HZ hm oo hb
    go_wp2_with fail
    go_ret
    exact ⟨rfl, Hg0.out ▸ Hal.out.trans (HW.out.mono (Nat.le_of_lt HgB.out))⟩
  · skip
    have HEE := Lib.hid e0
    have Hn := Lib.hid e1
    have q1 : decide (T2 ≤ (N : Int)) = true := decide_eq_true HT2.out
    clear e0 e1 Hway
    have hc_ := submit_G q s0 none _ 1 b tN bs who sq d Am nm cm w7 HG.out (HD.out.more HB.out)
    rw [HEE.out, Hn.out] at hc_
    have Hc_ := Lib.hid hc_
    have Hrow := Lib.hid (pmsg_row HK.out rfl)
    clear hc_
    go_wp2_with (first | (refine wpList_load_blk rfl _ (.tmp 3) rfl gz rfl _ Hrow.out ?_))
    refine Hc_.out.mono ?_
    rintro e v1 ⟨rfl, hm, oo⟩
    clear Hc_ Hrow
    have hb := oo.below HB.out (fun k hk => hk.1)
    have HWs_ := Lib.hid (HWs.out.far oo)
    clear HWs
    have HWs := HWs_
    have HK_ := Lib.hid (HK.out.below hb HgB.out)
    clear HK
    have HK := HK_
    have HD_ := Lib.hid (RdP.below HD.out hb)
    clear HD
    have HD := HD_
    have HW_ := Lib.hid (HW.out.trans hb)
    clear HW
    have HW := HW_
    have HB_ : Hid (B ≤ v1.heap.size) := Lib.hid (Nat.le_trans HB.out hb.size)
    have HM := Lib.hid (ShB.of (B := 0) hm (fun _ _ => Nat.zero_le _))
    clear HB
    have HB := HB_
    clear HB_ HW_ HD_ HK_ HWs_ HG HZ hm oo hb
    go_wp2_with fail
    go_ret
    exact ⟨rfl, Hg0.out ▸ Hal.out.trans (HW.out.mono (Nat.le_of_lt HgB.out))⟩
  · skip
    obtain ⟨s1, hs1⟩ : ∃ s1, subS s0 none (k : Int) who sq d = s1 := ⟨_, rfl⟩
    rw [hs1] at e2 e3
    obtain ⟨M, hM⟩ : ∃ M, mtL d (R0.drop k) = M := ⟨_, rfl⟩
    rw [hM] at e3
    have HMM := Lib.hid hM
    have HEE := Lib.hid e0
    have Hn := Lib.hid e1
    have Hs := Lib.hid hs1
    have Hb1 := Lib.hid e2
    have Hr1 := Lib.hid e3
    have hkN : (k : Int) ≤ (N : Int) := by omega
    have hk0 : (0 : Int) ≤ (k : Int) := by omega
    have q1 : decide ((N : Int) + 1 ≤ (N : Int)) = false := decide_eq_false (by omega)
    clear e0 e1 e2 e3 hs1 hM Hway hk
    have hc_ := submit_G q s0 none _ 1 b tN (k : Int) who sq d Am nm cm w7 HG.out (HD.out.more HB.out)
    rw [HEE.out, Hn.out, Hs.out] at hc_
    have Hc_ := Lib.hid hc_
    have Hrow := Lib.hid (pmsg_row HK.out rfl)
    clear hc_
    go_wp2_with (first | (refine wpList_load_blk rfl _ (.tmp 3) rfl gz rfl _ Hrow.out ?_))
    refine Hc_.out.mono ?_
    rintro e v1 ⟨rfl, hm, oo⟩
    clear Hc_ Hrow
    have hb := oo.below HB.out (fun k hk => hk.1)
    have HWs_ := Lib.hid (HWs.out.far oo)
    clear HWs
    have HWs := HWs_
    have HK_ := Lib.hid (HK.out.below hb HgB.out)
    clear HK
    have HK := HK_
    have HD_ := Lib.hid (RdP.below HD.out hb)
    clear HD
    have HD := HD_
    have HW_ := Lib.hid (HW.out.trans hb)
    clear HW
    have HW := HW_
    have HB_ : Hid (B ≤ v1.heap.size) := Lib.hid (Nat.le_trans HB.out hb.size)
    have HM := Lib.hid (ShB.of (B := 0) hm (fun _ _ => Nat.zero_le _))
    clear HB
    have HB := HB_
    clear HB_ HW_ HD_ HK_ HWs_ HG HZ hm oo hb
    have hc_ := srevs_B q s1 none 0 1 0 0 v1 HM.out (by rw [Hb1.out]; rfl) (Nat.zero_le _)
    have Hc_ := Lib.hid hc_
    clear hc_
    go_wp2_with fail
    refine Hc_.out.mono ?_
    rintro e w8 ⟨⟨An, nn, cn⟩, ssn, rfl, hon, hb8⟩
    clear Hc_
    have HM_ := Lib.hid (HM.out.below hb8)
    clear HM
    have HM := HM_
    clear HM_
    have HK_ := Lib.hid (HK.out.below hb8 HK.out.lt)
    clear HK
    have HK := HK_
    clear HK_
    have HWs_ := Lib.hid (HWs.out.below hb8)
    clear HWs
    have HWs := HWs_
    clear HWs_
    have HD_ := Lib.hid (RdP.below HD.out (hb8.mono HB.out))
    clear HD
    have HD := HD_
    clear HD_
    have HW_ := Lib.hid (HW.out.trans (hb8.mono HB.out))
    clear HW
    have HW := HW_
    clear HW_
    have HB_ : Hid (B ≤ w8.heap.size) := Lib.hid (Nat.le_trans HB.out hb8.size)
    clear HB
    have HB := HB_
    clear HB_ hb8
    rw [List.drop_zero, Hr1.out] at hon
    simp only at hon
    obtain rfl : N + 1 = nn := by
      obtain ⟨A9, c9, e9⟩ := hon.form
      injection e9 with e1 e2 e3
      rw [List.length_append, HNR.out] at e2
      exact e2.symm
    have hon := hon.rd
    have hcn1 : (N : Int) + 1 ≤ (cn : Int) := by have := hon.caps; omega
    have hcn2 : (cn : Int) ≤ 9223372036854775807 := by have := hon.caps; omega
    have hcn3 : (N : Int) ≤ (cn : Int) := by omega
    have HNo := Lib.hid hon
    clear HM
    clear hon
    have hc_ := samerevs_true R0 An Aw N N cn cw w8 (by have h9 := HNo.out.take N (by omega); rwa [List.take_left' HNR.out] at h9) HWs.out.rd
    have Hc_ := Lib.hid hc_
    clear hc_
    go_wp2_with fail
    refine Hc_.out.mono ?_
    rintro e w9 ⟨rfl, hb9⟩
    clear Hc_
    have HK_ := Lib.hid (HK.out.below hb9 HK.out.lt)
    clear HK
    have HK := HK_
    clear HK_
    have HWs_ := Lib.hid (HWs.out.below hb9)
    clear HWs
    have HWs := HWs_
    clear HWs_
    have HD_ := Lib.hid (RdP.below HD.out (hb9.mono HB.out))
    clear HD
    have HD := HD_
    clear HD_
    have HNo_ := Lib.hid (RdR.step HNo.out hb9)
    clear HNo
    have HNo := HNo_
    clear HNo_
    have HW_ := Lib.hid (HW.out.trans (hb9.mono HB.out))
    clear HW
    have HW := HW_
    clear HW_
    have HB_ : Hid (B ≤ w9.heap.size) := Lib.hid (Nat.le_trans HB.out hb9.size)
    clear HB
    have HB := HB_
    clear HB_ hb9
    have z0 := HK.out.cell 0
    have z3 := HK.out.cell 3
    have lz := HK.out.lt
    rcases ca_cases ⟨#[]⟩ R0 (k : Int) d with ⟨E, hE⟩ | ⟨k', hk', hok⟩
    · skip
      have q3 : (E != 0) = true := by simpa using hE.1
      have q4 : (E == 0) = false := by simpa using hE.1
      have HE := Lib.hid hE
      clear hE
      have hc_ := catch_err ⟨#[]⟩ R0 d Aw Am N cw nm cm (k : Int) E w9 HWs.out.rd (HD.out.more HB.out) (by decide) HE.out
      have Hc_ := Lib.hid hc_
      clear hc_
      go_wp2_with fail
      refine Hc_.out.mono ?_
      rintro e w10 ⟨rfl, hb10⟩
      clear Hc_
      have HK_ := Lib.hid (HK.out.below hb10 HK.out.lt)
      clear HK
      have HK := HK_
      clear HK_
      have HWs_ := Lib.hid (HWs.out.below hb10)
      clear HWs
      have HWs := HWs_
      clear HWs_
      have HD_ := Lib.hid (RdP.below HD.out (hb10.mono HB.out))
      clear HD
      have HD := HD_
      clear HD_
      have HNo_ := Lib.hid (RdR.step HNo.out hb10)
      clear HNo
      have HNo := HNo_
      clear HNo_
      have HW_ := Lib.hid (HW.out.trans (hb10.mono HB.out))
      clear HW
      have HW := HW_
      clear HW_
      have HB_ : Hid (B ≤ w10.heap.size) := Lib.hid (Nat.le_trans HB.out hb10.size)
      clear HB
      have HB := HB_
      clear HB_ hb10
      clear z0 z3 lz
      go_upto_region 21 with (fail)
      go_quiet (fail)
      go_wp2_with fail
      go_ret
      exact ⟨rfl, Hg0.out ▸ Hal.out.trans ((HW.out.trans (below_drewN_ (Below.refl _ _) _)).mono (Nat.le_of_lt HgB.out))⟩
    · skip
      obtain rfl : k = k' := by omega
      obtain ⟨Dd, hD⟩ : ∃ Dd, btwL ⟨#[]⟩ R0 k R0.length = Dd := ⟨_, rfl⟩
      obtain ⟨X, hX⟩ : ∃ X, meetD Dd d = X := ⟨_, rfl⟩
      have Hev := Lib.hid (fun h2 h3 => (late_each (mine := d) hok h2 h3))
      rw [HMM.out, hD, hX] at Hev
      have Hok := Lib.hid hok
      have HDd := Lib.hid hD
      have HX := Lib.hid hX
      clear hD hX hok hk' 
      have hc_ := catch_good ⟨#[]⟩ R0 d Aw Am N cw nm cm k w9 HWs.out.rd (HD.out.more HB.out) Hok.out Dd X _ HDd.out HX.out rfl
      have Hc_ := Lib.hid hc_
      clear hc_
      go_wp2_with fail
      refine Hc_.out.mono ?_
      rintro e w10 ⟨A1, n1, c1, A2, n2, c2, A3, n3, c3, rfl, hr1, hr2, hr3, hb10⟩
      clear Hc_
      have HK_ := Lib.hid (HK.out.below hb10 HK.out.lt)
      clear HK
      have HK := HK_
      clear HK_
      have HWs_ := Lib.hid (HWs.out.below hb10)
      clear HWs
      have HWs := HWs_
      clear HWs_
      have HD_ := Lib.hid (RdP.below HD.out (hb10.mono HB.out))
      clear HD
      have HD := HD_
      clear HD_
      have HNo_ := Lib.hid (RdR.step HNo.out hb10)
      clear HNo
      have HNo := HNo_
      clear HNo_
      have HW_ := Lib.hid (HW.out.trans (hb10.mono HB.out))
      clear HW
      have HW := HW_
      clear HW_
      have HB_ : Hid (B ≤ w10.heap.size) := Lib.hid (Nat.le_trans HB.out hb10.size)
      clear HB
      have HB := HB_
      clear HB_ hb10
      clear hr1 hr3 z0 z3 lz
      have HX2 := Lib.hid hr2
      clear hr2
      go_upto_region 21 with (fail)
      obtain ⟨bn, on, An1, nn1, cn1, hAn, hbn, y0, y1, y2, hrn⟩ := HNo.out.at_ N (by omega)
      subst hAn
      have hlast : (R0 ++ [(who, sq, M)])[N]'(by rw [List.length_append, HNR.out]; exact Nat.lt_succ_self _) = (who, sq, M) := by
        rw [List.getElem_append_right (by rw [HNR.out]; exact Nat.le_refl _)]
        simp [HNR.out]
      rw [hlast] at y0 y1 hrn
      simp only at y0 y1 hrn
      have Hrn := Lib.hid hrn
      have HD3 := Lib.hid (HD.out.more HB.out)
      clear hlast hrn
      have z0 := HK.out.cell 0
      have z1 := HK.out.cell 1
      have z2 := HK.out.cell 2
      have z3 := HK.out.cell 3
      have lz := HK.out.lt
      have KeepS := Lib.hid (fun (w' : World) (h : Below w10.heap.size w10 w') => (⟨h, by rw [h.cell lz]; exact z0, by rw [h.cell lz]; exact z1, by rw [h.cell lz]; exact z2, by rw [h.cell lz]; exact z3, by rw [h.cell hbn]; exact y0, by rw [h.cell hbn]; exact y1, by rw [h.cell hbn]; exact y2, Nat.lt_of_lt_of_le lz h.size, Nat.lt_of_lt_of_le hbn h.size⟩ : Below w10.heap.size w10 w' ∧ w'.cell? ⟨gz, 0, none⟩ = some (.int .i64 (k : Int)) ∧ w'.cell? ⟨gz, 1, none⟩ = some (.int .i64 who) ∧ w'.cell? ⟨gz, 2, none⟩ = some (.int .i64 sq) ∧ w'.cell? ⟨gz, 3, none⟩ = some (.slice Am nm cm) ∧ w'.cell? ⟨bn, on + N * 3, none⟩ = some (.int .i64 who) ∧ w'.cell? ⟨bn, on + N * 3 + 1, none⟩ = some (.int .i64 sq) ∧ w'.cell? ⟨bn, on + N * 3 + 2, none⟩ = some (.slice An1 nn1 cn1) ∧ gz < w'.heap.size ∧ bn < w'.heap.size))
      clear z0 z1 z2 z3 lz y0 y1 y2 hbn
      obtain ⟨P1, hP1⟩ : ∃ P1, anyCut (R0.drop k).tail = P1 := ⟨_, rfl⟩
      obtain ⟨P2, hP2⟩ : ∃ P2, hasCut d = P2 := ⟨_, rfl⟩
      have HP1 := Lib.hid hP1
      have HP2 := Lib.hid hP2
      clear hP1 hP2
      by_cases hck : cw = k
      · skip
        have hrest := HWs.out.rd.rest k (by omega)
        subst hck
        obtain rfl : cw = N := by omega
        rw [if_pos rfl, Nat.sub_self] at hrest
        have Hrest := Lib.hid hrest
        clear hrest
        cases P1 with
        | true =>
          have G1 := Lib.hid (fun (w' : World) (h : Below w10.heap.size w10 w' ∧ w'.cell? ⟨gz, 0, none⟩ = some (.int .i64 (cw : Int)) ∧ w'.cell? ⟨gz, 1, none⟩ = some (.int .i64 who) ∧ w'.cell? ⟨gz, 2, none⟩ = some (.int .i64 sq) ∧ w'.cell? ⟨gz, 3, none⟩ = some (.slice Am nm cm) ∧ w'.cell? ⟨bn, on + cw * 3, none⟩ = some (.int .i64 who) ∧ w'.cell? ⟨bn, on + cw * 3 + 1, none⟩ = some (.int .i64 sq) ∧ w'.cell? ⟨bn, on + cw * 3 + 2, none⟩ = some (.slice An1 nn1 cn1) ∧ gz < w'.heap.size ∧ bn < w'.heap.size) => (plain_any (R0.drop cw) Aw 0 0 _ w' (Hrest.out.below h.1) h.1.size _ HP1.out).mono (R' := fun e w'' => e = .returned (.bool false) ∧ (Below w10.heap.size w10 w'' ∧ w''.cell? ⟨gz, 0, none⟩ = some (.int .i64 (cw : Int)) ∧ w''.cell? ⟨gz, 1, none⟩ = some (.int .i64 who) ∧ w''.cell? ⟨gz, 2, none⟩ = some (.int .i64 sq) ∧ w''.cell? ⟨gz, 3, none⟩ = some (.slice Am nm cm) ∧ w''.cell? ⟨bn, on + cw * 3, none⟩ = some (.int .i64 who) ∧ w''.cell? ⟨bn, on + cw * 3 + 1, none⟩ = some (.int .i64 sq) ∧ w''.cell? ⟨bn, on + cw * 3 + 2, none⟩ = some (.slice An1 nn1 cn1) ∧ gz < w''.heap.size ∧ bn < w''.heap.size)) (fun e w'' hh => ⟨hh.1, KeepS.out _ (h.1.trans (hh.2.mono h.1.size))⟩))
          have G2 := G1
          have G3 := G1
          refine wp_region_held (S := fun w' => Below w10.heap.size w10 w' ∧ w'.cell? ⟨gz, 0, none⟩ = some (.int .i64 (cw : Int)) ∧ w'.cell? ⟨gz, 1, none⟩ = some (.int .i64 who) ∧ w'.cell? ⟨gz, 2, none⟩ = some (.int .i64 sq) ∧ w'.cell? ⟨gz, 3, none⟩ = some (.slice Am nm cm) ∧ w'.cell? ⟨bn, on + cw * 3, none⟩ = some (.int .i64 who) ∧ w'.cell? ⟨bn, on + cw * 3 + 1, none⟩ = some (.int .i64 sq) ∧ w'.cell? ⟨bn, on + cw * 3 + 2, none⟩ = some (.slice An1 nn1 cn1) ∧ gz < w'.heap.size ∧ bn < w'.heap.size) (by kernel_rfl) ?_
          have hS : Below w10.heap.size w10 w10.drew ∧ w10.drew.cell? ⟨gz, 0, none⟩ = some (.int .i64 (cw : Int)) ∧ w10.drew.cell? ⟨gz, 1, none⟩ = some (.int .i64 who) ∧ w10.drew.cell? ⟨gz, 2, none⟩ = some (.int .i64 sq) ∧ w10.drew.cell? ⟨gz, 3, none⟩ = some (.slice Am nm cm) ∧ w10.drew.cell? ⟨bn, on + cw * 3, none⟩ = some (.int .i64 who) ∧ w10.drew.cell? ⟨bn, on + cw * 3 + 1, none⟩ = some (.int .i64 sq) ∧ w10.drew.cell? ⟨bn, on + cw * 3 + 2, none⟩ = some (.slice An1 nn1 cn1) ∧ gz < w10.drew.heap.size ∧ bn < w10.drew.heap.size := KeepS.out _ (Below.drew (Below.refl _ _))
          change wpAnyH _ _ _ _ _ _ _ _ w10.drew
          refine wpAnyH_takeD 111 (i := 0) rfl rfl (by kernel_rfl) (by kernel_rfl) (by kernel_rfl) (fun _ _ _ h => h) (v := .int .i64 0) (.inl ⟨rfl, fun w' h' => by go_simp⟩) hS ?_
          simp only [Act.put, List.setIfInBounds_toArray, List.set_cons_zero, List.set_cons_succ]
          refine wpAnyH_takeD 112 (i := 1) rfl rfl (by kernel_rfl) (by kernel_rfl) (by kernel_rfl) (fun _ _ _ h => h) (v := .bool false) (.inl ⟨rfl, fun w' h' => by go_simp⟩) hS ?_
          simp only [Act.put, List.setIfInBounds_toArray, List.set_cons_zero, List.set_cons_succ]
          refine wpAnyH_takeD 113 (i := 2) rfl rfl (by kernel_rfl) (by kernel_rfl) (by kernel_rfl) (fun _ _ _ h => h) (v := .bool false) (.inl ⟨rfl, fun w' h' => by go_simp⟩) hS ?_
          simp only [Act.put, List.setIfInBounds_toArray, List.set_cons_zero, List.set_cons_succ]
          refine wpAnyH_takeD 114 (i := 3) rfl rfl (by kernel_rfl) (by kernel_rfl) (by kernel_rfl) (fun _ _ _ h => h) (v := .slice Aw cw cw) (.inl ⟨rfl, fun w' h' => by go_simp⟩) hS ?_
          simp only [Act.put, List.setIfInBounds_toArray, List.set_cons_zero, List.set_cons_succ]
          refine wpAnyH_takeD 115 (i := 4) rfl rfl (by kernel_rfl) (by kernel_rfl) (by kernel_rfl) (fun _ _ _ h => h) (v := .pointer (some ⟨gz, 0, none⟩)) (.inl ⟨rfl, fun w' h' => by go_simp⟩) hS ?_
          simp only [Act.put, List.setIfInBounds_toArray, List.set_cons_zero, List.set_cons_succ]
          refine wpAnyH_takeD 116 (i := 5) rfl rfl (by kernel_rfl) (by kernel_rfl) (by kernel_rfl) (fun _ _ _ h => h) (v := .int .i64 (cw : Int)) (.inl ⟨rfl, fun w' h' => by obtain ⟨-, h1, h2, h3, h4, h5, h6, h7, h8, h9⟩ := h'; go_simp⟩) hS ?_
          simp only [Act.put, List.setIfInBounds_toArray, List.set_cons_zero, List.set_cons_succ]
          refine wpAnyH_takeD 117 (i := 6) rfl rfl (by kernel_rfl) (by kernel_rfl) (by kernel_rfl) (fun _ _ _ h => h) (v := .slice Aw 0 0) (.inl ⟨rfl, fun w' h' => by go_simp⟩) hS ?_
          simp only [Act.put, List.setIfInBounds_toArray, List.set_cons_zero, List.set_cons_succ]
          refine wpAnyH_all (rs := [7]) (by kernel_rfl) (List.cons_ne_nil _ _) (fun i7 hi7 => ?_)
          obtain rfl := List.mem_singleton.1 hi7
          refine wpOp_enter 118 rfl rfl rfl 36 #[.slice Aw 0 0] (by go_simp) (.bool false) (fun w' => Below w10.heap.size w10 w' ∧ w'.cell? ⟨gz, 0, none⟩ = some (.int .i64 (cw : Int)) ∧ w'.cell? ⟨gz, 1, none⟩ = some (.int .i64 who) ∧ w'.cell? ⟨gz, 2, none⟩ = some (.int .i64 sq) ∧ w'.cell? ⟨gz, 3, none⟩ = some (.slice Am nm cm) ∧ w'.cell? ⟨bn, on + cw * 3, none⟩ = some (.int .i64 who) ∧ w'.cell? ⟨bn, on + cw * 3 + 1, none⟩ = some (.int .i64 sq) ∧ w'.cell? ⟨bn, on + cw * 3 + 2, none⟩ = some (.slice An1 nn1 cn1) ∧ gz < w'.heap.size ∧ bn < w'.heap.size) (G1.out _ hS) ?_
          intro x8 hSx8
          simp only [Act.put, List.setIfInBounds_toArray, List.set_cons_zero, List.set_cons_succ]
          refine ⟨hSx8, ?_⟩
          refine wpAnyH_takeD 119 (i := 8) rfl rfl (by kernel_rfl) (by kernel_rfl) (by kernel_rfl) (fun _ _ _ h => h) (v := .bool true) (.inl ⟨rfl, fun w' h' => by go_simp⟩) hSx8 ?_
          simp only [Act.put, List.setIfInBounds_toArray, List.set_cons_zero, List.set_cons_succ]
          refine wpAnyH_takeD 120 (i := 9) rfl rfl (by kernel_rfl) (by kernel_rfl) (by kernel_rfl) (fun _ _ _ h => h) (v := .bool true) (.inl ⟨rfl, fun w' h' => by go_simp⟩) hSx8 ?_
          simp only [Act.put, List.setIfInBounds_toArray, List.set_cons_zero, List.set_cons_succ]
          refine wpAnyH_takeD 121 (i := 10) rfl rfl (by kernel_rfl) (by kernel_rfl) (by kernel_rfl) (fun _ _ _ h => h) (v := .bool true) (.inl ⟨rfl, fun w' h' => by go_simp⟩) hSx8 ?_
          simp only [Act.put, List.setIfInBounds_toArray, List.set_cons_zero, List.set_cons_succ]
          refine wpAnyH_takeD 122 (i := 11) rfl rfl (by kernel_rfl) (by kernel_rfl) (by kernel_rfl) (fun _ _ _ h => h) (v := undef) (.inr ⟨rfl, rfl⟩) hSx8 ?_
          simp only [Act.put, List.setIfInBounds_toArray, List.set_cons_zero, List.set_cons_succ]
          refine wpAnyH_takeD 123 (i := 12) rfl rfl (by kernel_rfl) (by kernel_rfl) (by kernel_rfl) (fun _ _ _ h => h) (v := undef) (.inr ⟨rfl, rfl⟩) hSx8 ?_
          simp only [Act.put, List.setIfInBounds_toArray, List.set_cons_zero, List.set_cons_succ]
          refine wpAnyH_takeD 124 (i := 13) rfl rfl (by kernel_rfl) (by kernel_rfl) (by kernel_rfl) (fun _ _ _ h => h) (v := undef) (.inr ⟨rfl, rfl⟩) hSx8 ?_
          simp only [Act.put, List.setIfInBounds_toArray, List.set_cons_zero, List.set_cons_succ]
          refine wpAnyH_takeD 125 (i := 14) rfl rfl (by kernel_rfl) (by kernel_rfl) (by kernel_rfl) (fun _ _ _ h => h) (v := .bool true) (.inl ⟨rfl, fun w' h' => by go_simp⟩) hSx8 ?_
          simp only [Act.put, List.setIfInBounds_toArray, List.set_cons_zero, List.set_cons_succ]
          refine wpAnyH_takeD 126 (i := 15) rfl rfl (by kernel_rfl) (by kernel_rfl) (by kernel_rfl) (fun _ _ _ h => h) (v := .bool true) (.inl ⟨rfl, fun w' h' => by go_simp⟩) hSx8 ?_
          simp only [Act.put, List.setIfInBounds_toArray, List.set_cons_zero, List.set_cons_succ]
          refine wpAnyH_takeD 127 (i := 16) rfl rfl (by kernel_rfl) (by kernel_rfl) (by kernel_rfl) (fun _ _ _ h => h) (v := undef) (.inr ⟨rfl, rfl⟩) hSx8 ?_
          simp only [Act.put, List.setIfInBounds_toArray, List.set_cons_zero, List.set_cons_succ]
          refine wpAnyH_takeD 128 (i := 17) rfl rfl (by kernel_rfl) (by kernel_rfl) (by kernel_rfl) (fun _ _ _ h => h) (v := undef) (.inr ⟨rfl, rfl⟩) hSx8 ?_
          simp only [Act.put, List.setIfInBounds_toArray, List.set_cons_zero, List.set_cons_succ]
          refine wpAnyH_takeD 129 (i := 18) rfl rfl (by kernel_rfl) (by kernel_rfl) (by kernel_rfl) (fun _ _ _ h => h) (v := undef) (.inr ⟨rfl, rfl⟩) hSx8 ?_
          simp only [Act.put, List.setIfInBounds_toArray, List.set_cons_zero, List.set_cons_succ]
          refine wpAnyH_takeD 130 (i := 19) rfl rfl (by kernel_rfl) (by kernel_rfl) (by kernel_rfl) (fun _ _ _ h => h) (v := undef) (.inr ⟨rfl, rfl⟩) hSx8 ?_
          simp only [Act.put, List.setIfInBounds_toArray, List.set_cons_zero, List.set_cons_succ]
          refine wpAnyH_takeD 131 (i := 20) rfl rfl (by kernel_rfl) (by kernel_rfl) (by kernel_rfl) (fun _ _ _ h => h) (v := undef) (.inr ⟨rfl, rfl⟩) hSx8 ?_
          simp only [Act.put, List.setIfInBounds_toArray, List.set_cons_zero, List.set_cons_succ]
          refine wpAnyH_takeD 132 (i := 21) rfl rfl (by kernel_rfl) (by kernel_rfl) (by kernel_rfl) (fun _ _ _ h => h) (v := undef) (.inr ⟨rfl, rfl⟩) hSx8 ?_
          simp only [Act.put, List.setIfInBounds_toArray, List.set_cons_zero, List.set_cons_succ]
          refine wpAnyH_takeD 133 (i := 22) rfl rfl (by kernel_rfl) (by kernel_rfl) (by kernel_rfl) (fun _ _ _ h => h) (v := undef) (.inr ⟨rfl, rfl⟩) hSx8 ?_
          simp only [Act.put, List.setIfInBounds_toArray, List.set_cons_zero, List.set_cons_succ]
          refine wpAnyH_takeD 134 (i := 23) rfl rfl (by kernel_rfl) (by kernel_rfl) (by kernel_rfl) (fun _ _ _ h => h) (v := undef) (.inr ⟨rfl, rfl⟩) hSx8 ?_
          simp only [Act.put, List.setIfInBounds_toArray, List.set_cons_zero, List.set_cons_succ]
          refine wpAnyH_takeD 135 (i := 24) rfl rfl (by kernel_rfl) (by kernel_rfl) (by kernel_rfl) (fun _ _ _ h => h) (v := undef) (.inr ⟨rfl, rfl⟩) hSx8 ?_
          simp only [Act.put, List.setIfInBounds_toArray, List.set_cons_zero, List.set_cons_succ]
          refine wpAnyH_takeD 136 (i := 25) rfl rfl (by kernel_rfl) (by kernel_rfl) (by kernel_rfl) (fun _ _ _ h => h) (v := undef) (.inr ⟨rfl, rfl⟩) hSx8 ?_
          simp only [Act.put, List.setIfInBounds_toArray, List.set_cons_zero, List.set_cons_succ]
          refine wpAnyH_takeD 137 (i := 26) rfl rfl (by kernel_rfl) (by kernel_rfl) (by kernel_rfl) (fun _ _ _ h => h) (v := undef) (.inr ⟨rfl, rfl⟩) hSx8 ?_
          simp only [Act.put, List.setIfInBounds_toArray, List.set_cons_zero, List.set_cons_succ]
          refine wpAnyH_takeD 138 (i := 27) rfl rfl (by kernel_rfl) (by kernel_rfl) (by kernel_rfl) (fun _ _ _ h => h) (v := undef) (.inr ⟨rfl, rfl⟩) hSx8 ?_
          simp only [Act.put, List.setIfInBounds_toArray, List.set_cons_zero, List.set_cons_succ]
          refine wpAnyH_takeD 139 (i := 28) rfl rfl (by kernel_rfl) (by kernel_rfl) (by kernel_rfl) (fun _ _ _ h => h) (v := .bool true) (.inl ⟨rfl, fun w' h' => by go_simp⟩) hSx8 ?_
          simp only [Act.put, List.setIfInBounds_toArray, List.set_cons_zero, List.set_cons_succ]
          refine wpAnyH_takeD 4 (i := 29) rfl rfl (by kernel_rfl) (by kernel_rfl) (by kernel_rfl) (fun _ _ _ h => h) (v := .bool true) (.inl ⟨rfl, fun w' h' => by go_simp⟩) hSx8 ?_
          simp only [Act.put, List.setIfInBounds_toArray, List.set_cons_zero, List.set_cons_succ]
          refine wpAnyH_done (by kernel_rfl) ?_ _
          have hX9 := hSx8.1
          clear KeepS G1 G2 G3
          go_wp2_with fail
          go_ret
          exact ⟨rfl, Hg0.out ▸ Hal.out.trans ((HW.out.trans (hX9.mono HB.out)).mono (Nat.le_of_lt HgB.out))⟩
        | false =>
          have G1 := Lib.hid (fun (w' : World) (h : Below w10.heap.size w10 w' ∧ w'.cell? ⟨gz, 0, none⟩ = some (.int .i64 (cw : Int)) ∧ w'.cell? ⟨gz, 1, none⟩ = some (.int .i64 who) ∧ w'.cell? ⟨gz, 2, none⟩ = some (.int .i64 sq) ∧ w'.cell? ⟨gz, 3, none⟩ = some (.slice Am nm cm) ∧ w'.cell? ⟨bn, on + cw * 3, none⟩ = some (.int .i64 who) ∧ w'.cell? ⟨bn, on + cw * 3 + 1, none⟩ = some (.int .i64 sq) ∧ w'.cell? ⟨bn, on + cw * 3 + 2, none⟩ = some (.slice An1 nn1 cn1) ∧ gz < w'.heap.size ∧ bn < w'.heap.size) => (plain_any (R0.drop cw) Aw 0 0 _ w' (Hrest.out.below h.1) h.1.size _ HP1.out).mono (R' := fun e w'' => e = .returned (.bool true) ∧ (Below w10.heap.size w10 w'' ∧ w''.cell? ⟨gz, 0, none⟩ = some (.int .i64 (cw : Int)) ∧ w''.cell? ⟨gz, 1, none⟩ = some (.int .i64 who) ∧ w''.cell? ⟨gz, 2, none⟩ = some (.int .i64 sq) ∧ w''.cell? ⟨gz, 3, none⟩ = some (.slice Am nm cm) ∧ w''.cell? ⟨bn, on + cw * 3, none⟩ = some (.int .i64 who) ∧ w''.cell? ⟨bn, on + cw * 3 + 1, none⟩ = some (.int .i64 sq) ∧ w''.cell? ⟨bn, on + cw * 3 + 2, none⟩ = some (.slice An1 nn1 cn1) ∧ gz < w''.heap.size ∧ bn < w''.heap.size)) (fun e w'' hh => ⟨hh.1, KeepS.out _ (h.1.trans (hh.2.mono h.1.size))⟩))
          cases P2 with
          | true =>
            have G2 := Lib.hid (fun (w' : World) (h : Below w10.heap.size w10 w' ∧ w'.cell? ⟨gz, 0, none⟩ = some (.int .i64 (cw : Int)) ∧ w'.cell? ⟨gz, 1, none⟩ = some (.int .i64 who) ∧ w'.cell? ⟨gz, 2, none⟩ = some (.int .i64 sq) ∧ w'.cell? ⟨gz, 3, none⟩ = some (.slice Am nm cm) ∧ w'.cell? ⟨bn, on + cw * 3, none⟩ = some (.int .i64 who) ∧ w'.cell? ⟨bn, on + cw * 3 + 1, none⟩ = some (.int .i64 sq) ∧ w'.cell? ⟨bn, on + cw * 3 + 2, none⟩ = some (.slice An1 nn1 cn1) ∧ gz < w'.heap.size ∧ bn < w'.heap.size) => (cutsR d Am nm cm _ w' (HD3.out.below h.1) h.1.size HP2.out).mono (R' := fun e w'' => e = .returned (.bool true) ∧ (Below w10.heap.size w10 w'' ∧ w''.cell? ⟨gz, 0, none⟩ = some (.int .i64 (cw : Int)) ∧ w''.cell? ⟨gz, 1, none⟩ = some (.int .i64 who) ∧ w''.cell? ⟨gz, 2, none⟩ = some (.int .i64 sq) ∧ w''.cell? ⟨gz, 3, none⟩ = some (.slice Am nm cm) ∧ w''.cell? ⟨bn, on + cw * 3, none⟩ = some (.int .i64 who) ∧ w''.cell? ⟨bn, on + cw * 3 + 1, none⟩ = some (.int .i64 sq) ∧ w''.cell? ⟨bn, on + cw * 3 + 2, none⟩ = some (.slice An1 nn1 cn1) ∧ gz < w''.heap.size ∧ bn < w''.heap.size)) (fun e w'' hh => ⟨hh.1, KeepS.out _ (h.1.trans (hh.2.mono h.1.size))⟩))
            have G3 := G1
            refine wp_region_held (S := fun w' => Below w10.heap.size w10 w' ∧ w'.cell? ⟨gz, 0, none⟩ = some (.int .i64 (cw : Int)) ∧ w'.cell? ⟨gz, 1, none⟩ = some (.int .i64 who) ∧ w'.cell? ⟨gz, 2, none⟩ = some (.int .i64 sq) ∧ w'.cell? ⟨gz, 3, none⟩ = some (.slice Am nm cm) ∧ w'.cell? ⟨bn, on + cw * 3, none⟩ = some (.int .i64 who) ∧ w'.cell? ⟨bn, on + cw * 3 + 1, none⟩ = some (.int .i64 sq) ∧ w'.cell? ⟨bn, on + cw * 3 + 2, none⟩ = some (.slice An1 nn1 cn1) ∧ gz < w'.heap.size ∧ bn < w'.heap.size) (by kernel_rfl) ?_
            have hS : Below w10.heap.size w10 w10.drew ∧ w10.drew.cell? ⟨gz, 0, none⟩ = some (.int .i64 (cw : Int)) ∧ w10.drew.cell? ⟨gz, 1, none⟩ = some (.int .i64 who) ∧ w10.drew.cell? ⟨gz, 2, none⟩ = some (.int .i64 sq) ∧ w10.drew.cell? ⟨gz, 3, none⟩ = some (.slice Am nm cm) ∧ w10.drew.cell? ⟨bn, on + cw * 3, none⟩ = some (.int .i64 who) ∧ w10.drew.cell? ⟨bn, on + cw * 3 + 1, none⟩ = some (.int .i64 sq) ∧ w10.drew.cell? ⟨bn, on + cw * 3 + 2, none⟩ = some (.slice An1 nn1 cn1) ∧ gz < w10.drew.heap.size ∧ bn < w10.drew.heap.size := KeepS.out _ (Below.drew (Below.refl _ _))
            change wpAnyH _ _ _ _ _ _ _ _ w10.drew
            refine wpAnyH_takeD 111 (i := 0) rfl rfl (by kernel_rfl) (by kernel_rfl) (by kernel_rfl) (fun _ _ _ h => h) (v := .int .i64 0) (.inl ⟨rfl, fun w' h' => by go_simp⟩) hS ?_
            simp only [Act.put, List.setIfInBounds_toArray, List.set_cons_zero, List.set_cons_succ]
            refine wpAnyH_takeD 112 (i := 1) rfl rfl (by kernel_rfl) (by kernel_rfl) (by kernel_rfl) (fun _ _ _ h => h) (v := .bool false) (.inl ⟨rfl, fun w' h' => by go_simp⟩) hS ?_
            simp only [Act.put, List.setIfInBounds_toArray, List.set_cons_zero, List.set_cons_succ]
            refine wpAnyH_takeD 113 (i := 2) rfl rfl (by kernel_rfl) (by kernel_rfl) (by kernel_rfl) (fun _ _ _ h => h) (v := .bool false) (.inl ⟨rfl, fun w' h' => by go_simp⟩) hS ?_
            simp only [Act.put, List.setIfInBounds_toArray, List.set_cons_zero, List.set_cons_succ]
            refine wpAnyH_takeD 114 (i := 3) rfl rfl (by kernel_rfl) (by kernel_rfl) (by kernel_rfl) (fun _ _ _ h => h) (v := .slice Aw cw cw) (.inl ⟨rfl, fun w' h' => by go_simp⟩) hS ?_
            simp only [Act.put, List.setIfInBounds_toArray, List.set_cons_zero, List.set_cons_succ]
            refine wpAnyH_takeD 115 (i := 4) rfl rfl (by kernel_rfl) (by kernel_rfl) (by kernel_rfl) (fun _ _ _ h => h) (v := .pointer (some ⟨gz, 0, none⟩)) (.inl ⟨rfl, fun w' h' => by go_simp⟩) hS ?_
            simp only [Act.put, List.setIfInBounds_toArray, List.set_cons_zero, List.set_cons_succ]
            refine wpAnyH_takeD 116 (i := 5) rfl rfl (by kernel_rfl) (by kernel_rfl) (by kernel_rfl) (fun _ _ _ h => h) (v := .int .i64 (cw : Int)) (.inl ⟨rfl, fun w' h' => by obtain ⟨-, h1, h2, h3, h4, h5, h6, h7, h8, h9⟩ := h'; go_simp⟩) hS ?_
            simp only [Act.put, List.setIfInBounds_toArray, List.set_cons_zero, List.set_cons_succ]
            refine wpAnyH_takeD 117 (i := 6) rfl rfl (by kernel_rfl) (by kernel_rfl) (by kernel_rfl) (fun _ _ _ h => h) (v := .slice Aw 0 0) (.inl ⟨rfl, fun w' h' => by go_simp⟩) hS ?_
            simp only [Act.put, List.setIfInBounds_toArray, List.set_cons_zero, List.set_cons_succ]
            refine wpAnyH_all (rs := [7]) (by kernel_rfl) (List.cons_ne_nil _ _) (fun i7 hi7 => ?_)
            obtain rfl := List.mem_singleton.1 hi7
            refine wpOp_enter 118 rfl rfl rfl 36 #[.slice Aw 0 0] (by go_simp) (.bool true) (fun w' => Below w10.heap.size w10 w' ∧ w'.cell? ⟨gz, 0, none⟩ = some (.int .i64 (cw : Int)) ∧ w'.cell? ⟨gz, 1, none⟩ = some (.int .i64 who) ∧ w'.cell? ⟨gz, 2, none⟩ = some (.int .i64 sq) ∧ w'.cell? ⟨gz, 3, none⟩ = some (.slice Am nm cm) ∧ w'.cell? ⟨bn, on + cw * 3, none⟩ = some (.int .i64 who) ∧ w'.cell? ⟨bn, on + cw * 3 + 1, none⟩ = some (.int .i64 sq) ∧ w'.cell? ⟨bn, on + cw * 3 + 2, none⟩ = some (.slice An1 nn1 cn1) ∧ gz < w'.heap.size ∧ bn < w'.heap.size) (G1.out _ hS) ?_
            intro x8 hSx8
            simp only [Act.put, List.setIfInBounds_toArray, List.set_cons_zero, List.set_cons_succ]
            refine ⟨hSx8, ?_⟩
            refine wpAnyH_takeD 119 (i := 8) rfl rfl (by kernel_rfl) (by kernel_rfl) (by kernel_rfl) (fun _ _ _ h => h) (v := .bool false) (.inl ⟨rfl, fun w' h' => by go_simp⟩) hSx8 ?_
            simp only [Act.put, List.setIfInBounds_toArray, List.set_cons_zero, List.set_cons_succ]
            refine wpAnyH_takeD 120 (i := 9) rfl rfl (by kernel_rfl) (by kernel_rfl) (by kernel_rfl) (fun _ _ _ h => h) (v := .bool false) (.inl ⟨rfl, fun w' h' => by go_simp⟩) hSx8 ?_
            simp only [Act.put, List.setIfInBounds_toArray, List.set_cons_zero, List.set_cons_succ]
            refine wpAnyH_takeD 121 (i := 10) rfl rfl (by kernel_rfl) (by kernel_rfl) (by kernel_rfl) (fun _ _ _ h => h) (v := .bool false) (.inl ⟨rfl, fun w' h' => by go_simp⟩) hSx8 ?_
            simp only [Act.put, List.setIfInBounds_toArray, List.set_cons_zero, List.set_cons_succ]
            refine wpAnyH_takeD 122 (i := 11) rfl rfl (by kernel_rfl) (by kernel_rfl) (by kernel_rfl) (fun _ _ _ h => h) (v := .pointer (some ⟨gz, 3, none⟩)) (.inl ⟨rfl, fun w' h' => by go_simp⟩) hSx8 ?_
            simp only [Act.put, List.setIfInBounds_toArray, List.set_cons_zero, List.set_cons_succ]
            refine wpAnyH_takeD 123 (i := 12) rfl rfl (by kernel_rfl) (by kernel_rfl) (by kernel_rfl) (fun _ _ _ h => h) (v := .slice Am nm cm) (.inl ⟨rfl, fun w' h' => by obtain ⟨-, h1, h2, h3, h4, h5, h6, h7, h8, h9⟩ := h'; go_simp⟩) hSx8 ?_
            simp only [Act.put, List.setIfInBounds_toArray, List.set_cons_zero, List.set_cons_succ]
            refine wpAnyH_all (rs := [13]) (by kernel_rfl) (List.cons_ne_nil _ _) (fun i13 hi13 => ?_)
            obtain rfl := List.mem_singleton.1 hi13
            refine wpOp_enter 124 rfl rfl rfl 37 #[.slice Am nm cm] (by go_simp) (.bool true) (fun w' => Below w10.heap.size w10 w' ∧ w'.cell? ⟨gz, 0, none⟩ = some (.int .i64 (cw : Int)) ∧ w'.cell? ⟨gz, 1, none⟩ = some (.int .i64 who) ∧ w'.cell? ⟨gz, 2, none⟩ = some (.int .i64 sq) ∧ w'.cell? ⟨gz, 3, none⟩ = some (.slice Am nm cm) ∧ w'.cell? ⟨bn, on + cw * 3, none⟩ = some (.int .i64 who) ∧ w'.cell? ⟨bn, on + cw * 3 + 1, none⟩ = some (.int .i64 sq) ∧ w'.cell? ⟨bn, on + cw * 3 + 2, none⟩ = some (.slice An1 nn1 cn1) ∧ gz < w'.heap.size ∧ bn < w'.heap.size) (G2.out _ hSx8) ?_
            intro x9 hSx9
            simp only [Act.put, List.setIfInBounds_toArray, List.set_cons_zero, List.set_cons_succ]
            refine ⟨hSx9, ?_⟩
            refine wpAnyH_takeD 125 (i := 14) rfl rfl (by kernel_rfl) (by kernel_rfl) (by kernel_rfl) (fun _ _ _ h => h) (v := .bool true) (.inl ⟨rfl, fun w' h' => by go_simp⟩) hSx9 ?_
            simp only [Act.put, List.setIfInBounds_toArray, List.set_cons_zero, List.set_cons_succ]
            refine wpAnyH_takeD 126 (i := 15) rfl rfl (by kernel_rfl) (by kernel_rfl) (by kernel_rfl) (fun _ _ _ h => h) (v := .bool true) (.inl ⟨rfl, fun w' h' => by go_simp⟩) hSx9 ?_
            simp only [Act.put, List.setIfInBounds_toArray, List.set_cons_zero, List.set_cons_succ]
            refine wpAnyH_takeD 127 (i := 16) rfl rfl (by kernel_rfl) (by kernel_rfl) (by kernel_rfl) (fun _ _ _ h => h) (v := undef) (.inr ⟨rfl, rfl⟩) hSx9 ?_
            simp only [Act.put, List.setIfInBounds_toArray, List.set_cons_zero, List.set_cons_succ]
            refine wpAnyH_takeD 128 (i := 17) rfl rfl (by kernel_rfl) (by kernel_rfl) (by kernel_rfl) (fun _ _ _ h => h) (v := undef) (.inr ⟨rfl, rfl⟩) hSx9 ?_
            simp only [Act.put, List.setIfInBounds_toArray, List.set_cons_zero, List.set_cons_succ]
            refine wpAnyH_takeD 129 (i := 18) rfl rfl (by kernel_rfl) (by kernel_rfl) (by kernel_rfl) (fun _ _ _ h => h) (v := undef) (.inr ⟨rfl, rfl⟩) hSx9 ?_
            simp only [Act.put, List.setIfInBounds_toArray, List.set_cons_zero, List.set_cons_succ]
            refine wpAnyH_takeD 130 (i := 19) rfl rfl (by kernel_rfl) (by kernel_rfl) (by kernel_rfl) (fun _ _ _ h => h) (v := undef) (.inr ⟨rfl, rfl⟩) hSx9 ?_
            simp only [Act.put, List.setIfInBounds_toArray, List.set_cons_zero, List.set_cons_succ]
            refine wpAnyH_takeD 131 (i := 20) rfl rfl (by kernel_rfl) (by kernel_rfl) (by kernel_rfl) (fun _ _ _ h => h) (v := undef) (.inr ⟨rfl, rfl⟩) hSx9 ?_
            simp only [Act.put, List.setIfInBounds_toArray, List.set_cons_zero, List.set_cons_succ]
            refine wpAnyH_takeD 132 (i := 21) rfl rfl (by kernel_rfl) (by kernel_rfl) (by kernel_rfl) (fun _ _ _ h => h) (v := undef) (.inr ⟨rfl, rfl⟩) hSx9 ?_
            simp only [Act.put, List.setIfInBounds_toArray, List.set_cons_zero, List.set_cons_succ]
            refine wpAnyH_takeD 133 (i := 22) rfl rfl (by kernel_rfl) (by kernel_rfl) (by kernel_rfl) (fun _ _ _ h => h) (v := undef) (.inr ⟨rfl, rfl⟩) hSx9 ?_
            simp only [Act.put, List.setIfInBounds_toArray, List.set_cons_zero, List.set_cons_succ]
            refine wpAnyH_takeD 134 (i := 23) rfl rfl (by kernel_rfl) (by kernel_rfl) (by kernel_rfl) (fun _ _ _ h => h) (v := undef) (.inr ⟨rfl, rfl⟩) hSx9 ?_
            simp only [Act.put, List.setIfInBounds_toArray, List.set_cons_zero, List.set_cons_succ]
            refine wpAnyH_takeD 135 (i := 24) rfl rfl (by kernel_rfl) (by kernel_rfl) (by kernel_rfl) (fun _ _ _ h => h) (v := undef) (.inr ⟨rfl, rfl⟩) hSx9 ?_
            simp only [Act.put, List.setIfInBounds_toArray, List.set_cons_zero, List.set_cons_succ]
            refine wpAnyH_takeD 136 (i := 25) rfl rfl (by kernel_rfl) (by kernel_rfl) (by kernel_rfl) (fun _ _ _ h => h) (v := undef) (.inr ⟨rfl, rfl⟩) hSx9 ?_
            simp only [Act.put, List.setIfInBounds_toArray, List.set_cons_zero, List.set_cons_succ]
            refine wpAnyH_takeD 137 (i := 26) rfl rfl (by kernel_rfl) (by kernel_rfl) (by kernel_rfl) (fun _ _ _ h => h) (v := undef) (.inr ⟨rfl, rfl⟩) hSx9 ?_
            simp only [Act.put, List.setIfInBounds_toArray, List.set_cons_zero, List.set_cons_succ]
            refine wpAnyH_takeD 138 (i := 27) rfl rfl (by kernel_rfl) (by kernel_rfl) (by kernel_rfl) (fun _ _ _ h => h) (v := undef) (.inr ⟨rfl, rfl⟩) hSx9 ?_
            simp only [Act.put, List.setIfInBounds_toArray, List.set_cons_zero, List.set_cons_succ]
            refine wpAnyH_takeD 139 (i := 28) rfl rfl (by kernel_rfl) (by kernel_rfl) (by kernel_rfl) (fun _ _ _ h => h) (v := .bool true) (.inl ⟨rfl, fun w' h' => by go_simp⟩) hSx9 ?_
            simp only [Act.put, List.setIfInBounds_toArray, List.set_cons_zero, List.set_cons_succ]
            refine wpAnyH_takeD 4 (i := 29) rfl rfl (by kernel_rfl) (by kernel_rfl) (by kernel_rfl) (fun _ _ _ h => h) (v := .bool true) (.inl ⟨rfl, fun w' h' => by go_simp⟩) hSx9 ?_
            simp only [Act.put, List.setIfInBounds_toArray, List.set_cons_zero, List.set_cons_succ]
            refine wpAnyH_done (by kernel_rfl) ?_ _
            have hX9 := hSx9.1
            clear KeepS G1 G2 G3
            go_wp2_with fail
            go_ret
            exact ⟨rfl, Hg0.out ▸ Hal.out.trans ((HW.out.trans (hX9.mono HB.out)).mono (Nat.le_of_lt HgB.out))⟩
          | false =>
            have G2 := Lib.hid (fun (w' : World) (h : Below w10.heap.size w10 w' ∧ w'.cell? ⟨gz, 0, none⟩ = some (.int .i64 (cw : Int)) ∧ w'.cell? ⟨gz, 1, none⟩ = some (.int .i64 who) ∧ w'.cell? ⟨gz, 2, none⟩ = some (.int .i64 sq) ∧ w'.cell? ⟨gz, 3, none⟩ = some (.slice Am nm cm) ∧ w'.cell? ⟨bn, on + cw * 3, none⟩ = some (.int .i64 who) ∧ w'.cell? ⟨bn, on + cw * 3 + 1, none⟩ = some (.int .i64 sq) ∧ w'.cell? ⟨bn, on + cw * 3 + 2, none⟩ = some (.slice An1 nn1 cn1) ∧ gz < w'.heap.size ∧ bn < w'.heap.size) => (cutsR d Am nm cm _ w' (HD3.out.below h.1) h.1.size HP2.out).mono (R' := fun e w'' => e = .returned (.bool false) ∧ (Below w10.heap.size w10 w'' ∧ w''.cell? ⟨gz, 0, none⟩ = some (.int .i64 (cw : Int)) ∧ w''.cell? ⟨gz, 1, none⟩ = some (.int .i64 who) ∧ w''.cell? ⟨gz, 2, none⟩ = some (.int .i64 sq) ∧ w''.cell? ⟨gz, 3, none⟩ = some (.slice Am nm cm) ∧ w''.cell? ⟨bn, on + cw * 3, none⟩ = some (.int .i64 who) ∧ w''.cell? ⟨bn, on + cw * 3 + 1, none⟩ = some (.int .i64 sq) ∧ w''.cell? ⟨bn, on + cw * 3 + 2, none⟩ = some (.slice An1 nn1 cn1) ∧ gz < w''.heap.size ∧ bn < w''.heap.size)) (fun e w'' hh => ⟨hh.1, KeepS.out _ (h.1.trans (hh.2.mono h.1.size))⟩))
            have hMX := Hev.out HP1.out HP2.out
            subst hMX
            have G3 := Lib.hid (fun (w' : World) (h : Below w10.heap.size w10 w' ∧ w'.cell? ⟨gz, 0, none⟩ = some (.int .i64 (cw : Int)) ∧ w'.cell? ⟨gz, 1, none⟩ = some (.int .i64 who) ∧ w'.cell? ⟨gz, 2, none⟩ = some (.int .i64 sq) ∧ w'.cell? ⟨gz, 3, none⟩ = some (.slice Am nm cm) ∧ w'.cell? ⟨bn, on + cw * 3, none⟩ = some (.int .i64 who) ∧ w'.cell? ⟨bn, on + cw * 3 + 1, none⟩ = some (.int .i64 sq) ∧ w'.cell? ⟨bn, on + cw * 3 + 2, none⟩ = some (.slice An1 nn1 cn1) ∧ gz < w'.heap.size ∧ bn < w'.heap.size) => (samerev_true who sq M An1 A2 nn1 n2 cn1 c2 w' ((Hrn.out.below h.1).more h.1.size) ((HX2.out.below h.1).more h.1.size)).mono (R' := fun e w'' => e = .returned (.bool true) ∧ (Below w10.heap.size w10 w'' ∧ w''.cell? ⟨gz, 0, none⟩ = some (.int .i64 (cw : Int)) ∧ w''.cell? ⟨gz, 1, none⟩ = some (.int .i64 who) ∧ w''.cell? ⟨gz, 2, none⟩ = some (.int .i64 sq) ∧ w''.cell? ⟨gz, 3, none⟩ = some (.slice Am nm cm) ∧ w''.cell? ⟨bn, on + cw * 3, none⟩ = some (.int .i64 who) ∧ w''.cell? ⟨bn, on + cw * 3 + 1, none⟩ = some (.int .i64 sq) ∧ w''.cell? ⟨bn, on + cw * 3 + 2, none⟩ = some (.slice An1 nn1 cn1) ∧ gz < w''.heap.size ∧ bn < w''.heap.size)) (fun e w'' hh => ⟨hh.1, KeepS.out _ (h.1.trans (hh.2.mono h.1.size))⟩))
            obtain ⟨N2, hN2⟩ : ∃ N2, cw + 1 = N2 := ⟨_, rfl⟩
            rw [hN2]
            have hx : (cw : Int) < (N2 : Int) := by omega
            clear hN2 hcn1
            have hS7 := KeepS.out w10 (Below.refl _ _)
            go_region_held3 (fun w' => Below w10.heap.size w10 w' ∧ w'.cell? ⟨gz, 0, none⟩ = some (.int .i64 (cw : Int)) ∧ w'.cell? ⟨gz, 1, none⟩ = some (.int .i64 who) ∧ w'.cell? ⟨gz, 2, none⟩ = some (.int .i64 sq) ∧ w'.cell? ⟨gz, 3, none⟩ = some (.slice Am nm cm) ∧ w'.cell? ⟨bn, on + cw * 3, none⟩ = some (.int .i64 who) ∧ w'.cell? ⟨bn, on + cw * 3 + 1, none⟩ = some (.int .i64 sq) ∧ w'.cell? ⟨bn, on + cw * 3 + 2, none⟩ = some (.slice An1 nn1 cn1) ∧ gz < w'.heap.size ∧ bn < w'.heap.size) (first | with_reducible assumption | exact KeepS.out _ (Below.drew (Below.refl _ _)) | exact KeepS.out _ (by assumption) | exact KeepS.out _ (Below.drew (by assumption)) | (go_split_ands; exact KeepS.out _ (by assumption)))
              (first | (go_at_call 36; with_reducible refine (G1.out _ (by assumption)).mono ?_; rintro e w8 ⟨rfl, hS8⟩) | (go_at_call 37; with_reducible refine (G2.out _ (by assumption)).mono ?_; rintro e w9 ⟨rfl, hS9⟩) | (go_at_call 38; with_reducible refine (G3.out _ (by assumption)).mono ?_; rintro e wa ⟨rfl, hSa⟩))
            have hX9 := hSa.1
            clear KeepS G1 G2 G3
            go_wp2_with fail
            go_ret
            exact ⟨rfl, Hg0.out ▸ Hal.out.trans ((HW.out.trans (hX9.mono HB.out)).mono (Nat.le_of_lt HgB.out))⟩
      · skip
        have hrest := HWs.out.rd.rest k (by omega)
        rw [if_neg hck] at hrest
        have hcf : (cw = k) = False := by simp; exact hck
        have Hrest := Lib.hid hrest
        clear hrest hck
        have hNk : k ≤ N := by omega
        have hck2 : (k : Int) ≤ (cw : Int) := by omega
        cases P1 with
        | true =>
          have G1 := Lib.hid (fun (w' : World) (h : Below w10.heap.size w10 w' ∧ w'.cell? ⟨gz, 0, none⟩ = some (.int .i64 (k : Int)) ∧ w'.cell? ⟨gz, 1, none⟩ = some (.int .i64 who) ∧ w'.cell? ⟨gz, 2, none⟩ = some (.int .i64 sq) ∧ w'.cell? ⟨gz, 3, none⟩ = some (.slice Am nm cm) ∧ w'.cell? ⟨bn, on + N * 3, none⟩ = some (.int .i64 who) ∧ w'.cell? ⟨bn, on + N * 3 + 1, none⟩ = some (.int .i64 sq) ∧ w'.cell? ⟨bn, on + N * 3 + 2, none⟩ = some (.slice An1 nn1 cn1) ∧ gz < w'.heap.size ∧ bn < w'.heap.size) => (plain_any (R0.drop k) (Option.map (fun x : Addr => x.add (k * 3)) Aw) (N - k) (cw - k) _ w' (Hrest.out.below h.1) h.1.size _ HP1.out).mono (R' := fun e w'' => e = .returned (.bool false) ∧ (Below w10.heap.size w10 w'' ∧ w''.cell? ⟨gz, 0, none⟩ = some (.int .i64 (k : Int)) ∧ w''.cell? ⟨gz, 1, none⟩ = some (.int .i64 who) ∧ w''.cell? ⟨gz, 2, none⟩ = some (.int .i64 sq) ∧ w''.cell? ⟨gz, 3, none⟩ = some (.slice Am nm cm) ∧ w''.cell? ⟨bn, on + N * 3, none⟩ = some (.int .i64 who) ∧ w''.cell? ⟨bn, on + N * 3 + 1, none⟩ = some (.int .i64 sq) ∧ w''.cell? ⟨bn, on + N * 3 + 2, none⟩ = some (.slice An1 nn1 cn1) ∧ gz < w''.heap.size ∧ bn < w''.heap.size)) (fun e w'' hh => ⟨hh.1, KeepS.out _ (h.1.trans (hh.2.mono h.1.size))⟩))
          have G2 := G1
          have G3 := G1
          refine wp_region_held (S := fun w' => Below w10.heap.size w10 w' ∧ w'.cell? ⟨gz, 0, none⟩ = some (.int .i64 (k : Int)) ∧ w'.cell? ⟨gz, 1, none⟩ = some (.int .i64 who) ∧ w'.cell? ⟨gz, 2, none⟩ = some (.int .i64 sq) ∧ w'.cell? ⟨gz, 3, none⟩ = some (.slice Am nm cm) ∧ w'.cell? ⟨bn, on + N * 3, none⟩ = some (.int .i64 who) ∧ w'.cell? ⟨bn, on + N * 3 + 1, none⟩ = some (.int .i64 sq) ∧ w'.cell? ⟨bn, on + N * 3 + 2, none⟩ = some (.slice An1 nn1 cn1) ∧ gz < w'.heap.size ∧ bn < w'.heap.size) (by kernel_rfl) ?_
          have hS : Below w10.heap.size w10 w10.drew ∧ w10.drew.cell? ⟨gz, 0, none⟩ = some (.int .i64 (k : Int)) ∧ w10.drew.cell? ⟨gz, 1, none⟩ = some (.int .i64 who) ∧ w10.drew.cell? ⟨gz, 2, none⟩ = some (.int .i64 sq) ∧ w10.drew.cell? ⟨gz, 3, none⟩ = some (.slice Am nm cm) ∧ w10.drew.cell? ⟨bn, on + N * 3, none⟩ = some (.int .i64 who) ∧ w10.drew.cell? ⟨bn, on + N * 3 + 1, none⟩ = some (.int .i64 sq) ∧ w10.drew.cell? ⟨bn, on + N * 3 + 2, none⟩ = some (.slice An1 nn1 cn1) ∧ gz < w10.drew.heap.size ∧ bn < w10.drew.heap.size := KeepS.out _ (Below.drew (Below.refl _ _))
          change wpAnyH _ _ _ _ _ _ _ _ w10.drew
          refine wpAnyH_takeD 111 (i := 0) rfl rfl (by kernel_rfl) (by kernel_rfl) (by kernel_rfl) (fun _ _ _ h => h) (v := .int .i64 0) (.inl ⟨rfl, fun w' h' => by go_simp⟩) hS ?_
          simp only [Act.put, List.setIfInBounds_toArray, List.set_cons_zero, List.set_cons_succ]
          refine wpAnyH_takeD 112 (i := 1) rfl rfl (by kernel_rfl) (by kernel_rfl) (by kernel_rfl) (fun _ _ _ h => h) (v := .bool false) (.inl ⟨rfl, fun w' h' => by go_simp⟩) hS ?_
          simp only [Act.put, List.setIfInBounds_toArray, List.set_cons_zero, List.set_cons_succ]
          refine wpAnyH_takeD 113 (i := 2) rfl rfl (by kernel_rfl) (by kernel_rfl) (by kernel_rfl) (fun _ _ _ h => h) (v := .bool false) (.inl ⟨rfl, fun w' h' => by go_simp⟩) hS ?_
          simp only [Act.put, List.setIfInBounds_toArray, List.set_cons_zero, List.set_cons_succ]
          refine wpAnyH_takeD 114 (i := 3) rfl rfl (by kernel_rfl) (by kernel_rfl) (by kernel_rfl) (fun _ _ _ h => h) (v := .slice Aw N cw) (.inl ⟨rfl, fun w' h' => by go_simp⟩) hS ?_
          simp only [Act.put, List.setIfInBounds_toArray, List.set_cons_zero, List.set_cons_succ]
          refine wpAnyH_takeD 115 (i := 4) rfl rfl (by kernel_rfl) (by kernel_rfl) (by kernel_rfl) (fun _ _ _ h => h) (v := .pointer (some ⟨gz, 0, none⟩)) (.inl ⟨rfl, fun w' h' => by go_simp⟩) hS ?_
          simp only [Act.put, List.setIfInBounds_toArray, List.set_cons_zero, List.set_cons_succ]
          refine wpAnyH_takeD 116 (i := 5) rfl rfl (by kernel_rfl) (by kernel_rfl) (by kernel_rfl) (fun _ _ _ h => h) (v := .int .i64 (k : Int)) (.inl ⟨rfl, fun w' h' => by obtain ⟨-, h1, h2, h3, h4, h5, h6, h7, h8, h9⟩ := h'; go_simp⟩) hS ?_
          simp only [Act.put, List.setIfInBounds_toArray, List.set_cons_zero, List.set_cons_succ]
          refine wpAnyH_takeD 117 (i := 6) rfl rfl (by kernel_rfl) (by kernel_rfl) (by kernel_rfl) (fun _ _ _ h => h) (v := .slice (Option.map (fun x : Addr => x.add (k * 3)) Aw) (N - k) (cw - k)) (.inl ⟨rfl, fun w' h' => by go_simp⟩) hS ?_
          simp only [Act.put, List.setIfInBounds_toArray, List.set_cons_zero, List.set_cons_succ]
          refine wpAnyH_all (rs := [7]) (by kernel_rfl) (List.cons_ne_nil _ _) (fun i7 hi7 => ?_)
          obtain rfl := List.mem_singleton.1 hi7
          refine wpOp_enter 118 rfl rfl rfl 36 #[.slice (Option.map (fun x : Addr => x.add (k * 3)) Aw) (N - k) (cw - k)] (by go_simp) (.bool false) (fun w' => Below w10.heap.size w10 w' ∧ w'.cell? ⟨gz, 0, none⟩ = some (.int .i64 (k : Int)) ∧ w'.cell? ⟨gz, 1, none⟩ = some (.int .i64 who) ∧ w'.cell? ⟨gz, 2, none⟩ = some (.int .i64 sq) ∧ w'.cell? ⟨gz, 3, none⟩ = some (.slice Am nm cm) ∧ w'.cell? ⟨bn, on + N * 3, none⟩ = some (.int .i64 who) ∧ w'.cell? ⟨bn, on + N * 3 + 1, none⟩ = some (.int .i64 sq) ∧ w'.cell? ⟨bn, on + N * 3 + 2, none⟩ = some (.slice An1 nn1 cn1) ∧ gz < w'.heap.size ∧ bn < w'.heap.size) (G1.out _ hS) ?_
          intro x8 hSx8
          simp only [Act.put, List.setIfInBounds_toArray, List.set_cons_zero, List.set_cons_succ]
          refine ⟨hSx8, ?_⟩
          refine wpAnyH_takeD 119 (i := 8) rfl rfl (by kernel_rfl) (by kernel_rfl) (by kernel_rfl) (fun _ _ _ h => h) (v := .bool true) (.inl ⟨rfl, fun w' h' => by go_simp⟩) hSx8 ?_
          simp only [Act.put, List.setIfInBounds_toArray, List.set_cons_zero, List.set_cons_succ]
          refine wpAnyH_takeD 120 (i := 9) rfl rfl (by kernel_rfl) (by kernel_rfl) (by kernel_rfl) (fun _ _ _ h => h) (v := .bool true) (.inl ⟨rfl, fun w' h' => by go_simp⟩) hSx8 ?_
          simp only [Act.put, List.setIfInBounds_toArray, List.set_cons_zero, List.set_cons_succ]
          refine wpAnyH_takeD 121 (i := 10) rfl rfl (by kernel_rfl) (by kernel_rfl) (by kernel_rfl) (fun _ _ _ h => h) (v := .bool true) (.inl ⟨rfl, fun w' h' => by go_simp⟩) hSx8 ?_
          simp only [Act.put, List.setIfInBounds_toArray, List.set_cons_zero, List.set_cons_succ]
          refine wpAnyH_takeD 122 (i := 11) rfl rfl (by kernel_rfl) (by kernel_rfl) (by kernel_rfl) (fun _ _ _ h => h) (v := undef) (.inr ⟨rfl, rfl⟩) hSx8 ?_
          simp only [Act.put, List.setIfInBounds_toArray, List.set_cons_zero, List.set_cons_succ]
          refine wpAnyH_takeD 123 (i := 12) rfl rfl (by kernel_rfl) (by kernel_rfl) (by kernel_rfl) (fun _ _ _ h => h) (v := undef) (.inr ⟨rfl, rfl⟩) hSx8 ?_
          simp only [Act.put, List.setIfInBounds_toArray, List.set_cons_zero, List.set_cons_succ]
          refine wpAnyH_takeD 124 (i := 13) rfl rfl (by kernel_rfl) (by kernel_rfl) (by kernel_rfl) (fun _ _ _ h => h) (v := undef) (.inr ⟨rfl, rfl⟩) hSx8 ?_
          simp only [Act.put, List.setIfInBounds_toArray, List.set_cons_zero, List.set_cons_succ]
          refine wpAnyH_takeD 125 (i := 14) rfl rfl (by kernel_rfl) (by kernel_rfl) (by kernel_rfl) (fun _ _ _ h => h) (v := .bool true) (.inl ⟨rfl, fun w' h' => by go_simp⟩) hSx8 ?_
          simp only [Act.put, List.setIfInBounds_toArray, List.set_cons_zero, List.set_cons_succ]
          refine wpAnyH_takeD 126 (i := 15) rfl rfl (by kernel_rfl) (by kernel_rfl) (by kernel_rfl) (fun _ _ _ h => h) (v := .bool true) (.inl ⟨rfl, fun w' h' => by go_simp⟩) hSx8 ?_
          simp only [Act.put, List.setIfInBounds_toArray, List.set_cons_zero, List.set_cons_succ]
          refine wpAnyH_takeD 127 (i := 16) rfl rfl (by kernel_rfl) (by kernel_rfl) (by kernel_rfl) (fun _ _ _ h => h) (v := undef) (.inr ⟨rfl, rfl⟩) hSx8 ?_
          simp only [Act.put, List.setIfInBounds_toArray, List.set_cons_zero, List.set_cons_succ]
          refine wpAnyH_takeD 128 (i := 17) rfl rfl (by kernel_rfl) (by kernel_rfl) (by kernel_rfl) (fun _ _ _ h => h) (v := undef) (.inr ⟨rfl, rfl⟩) hSx8 ?_
          simp only [Act.put, List.setIfInBounds_toArray, List.set_cons_zero, List.set_cons_succ]
          refine wpAnyH_takeD 129 (i := 18) rfl rfl (by kernel_rfl) (by kernel_rfl) (by kernel_rfl) (fun _ _ _ h => h) (v := undef) (.inr ⟨rfl, rfl⟩) hSx8 ?_
          simp only [Act.put, List.setIfInBounds_toArray, List.set_cons_zero, List.set_cons_succ]
          refine wpAnyH_takeD 130 (i := 19) rfl rfl (by kernel_rfl) (by kernel_rfl) (by kernel_rfl) (fun _ _ _ h => h) (v := undef) (.inr ⟨rfl, rfl⟩) hSx8 ?_
          simp only [Act.put, List.setIfInBounds_toArray, List.set_cons_zero, List.set_cons_succ]
          refine wpAnyH_takeD 131 (i := 20) rfl rfl (by kernel_rfl) (by kernel_rfl) (by kernel_rfl) (fun _ _ _ h => h) (v := undef) (.inr ⟨rfl, rfl⟩) hSx8 ?_
          simp only [Act.put, List.setIfInBounds_toArray, List.set_cons_zero, List.set_cons_succ]
          refine wpAnyH_takeD 132 (i := 21) rfl rfl (by kernel_rfl) (by kernel_rfl) (by kernel_rfl) (fun _ _ _ h => h) (v := undef) (.inr ⟨rfl, rfl⟩) hSx8 ?_
          simp only [Act.put, List.setIfInBounds_toArray, List.set_cons_zero, List.set_cons_succ]
          refine wpAnyH_takeD 133 (i := 22) rfl rfl (by kernel_rfl) (by kernel_rfl) (by kernel_rfl) (fun _ _ _ h => h) (v := undef) (.inr ⟨rfl, rfl⟩) hSx8 ?_
          simp only [Act.put, List.setIfInBounds_toArray, List.set_cons_zero, List.set_cons_succ]
          refine wpAnyH_takeD 134 (i := 23) rfl rfl (by kernel_rfl) (by kernel_rfl) (by kernel_rfl) (fun _ _ _ h => h) (v := undef) (.inr ⟨rfl, rfl⟩) hSx8 ?_
          simp only [Act.put, List.setIfInBounds_toArray, List.set_cons_zero, List.set_cons_succ]
          refine wpAnyH_takeD 135 (i := 24) rfl rfl (by kernel_rfl) (by kernel_rfl) (by kernel_rfl) (fun _ _ _ h => h) (v := undef) (.inr ⟨rfl, rfl⟩) hSx8 ?_
          simp only [Act.put, List.setIfInBounds_toArray, List.set_cons_zero, List.set_cons_succ]
          refine wpAnyH_takeD 136 (i := 25) rfl rfl (by kernel_rfl) (by kernel_rfl) (by kernel_rfl) (fun _ _ _ h => h) (v := undef) (.inr ⟨rfl, rfl⟩) hSx8 ?_
          simp only [Act.put, List.setIfInBounds_toArray, List.set_cons_zero, List.set_cons_succ]
          refine wpAnyH_takeD 137 (i := 26) rfl rfl (by kernel_rfl) (by kernel_rfl) (by kernel_rfl) (fun _ _ _ h => h) (v := undef) (.inr ⟨rfl, rfl⟩) hSx8 ?_
          simp only [Act.put, List.setIfInBounds_toArray, List.set_cons_zero, List.set_cons_succ]
          refine wpAnyH_takeD 138 (i := 27) rfl rfl (by kernel_rfl) (by kernel_rfl) (by kernel_rfl) (fun _ _ _ h => h) (v := undef) (.inr ⟨rfl, rfl⟩) hSx8 ?_
          simp only [Act.put, List.setIfInBounds_toArray, List.set_cons_zero, List.set_cons_succ]
          refine wpAnyH_takeD 139 (i := 28) rfl rfl (by kernel_rfl) (by kernel_rfl) (by kernel_rfl) (fun _ _ _ h => h) (v := .bool true) (.inl ⟨rfl, fun w' h' => by go_simp⟩) hSx8 ?_
          simp only [Act.put, List.setIfInBounds_toArray, List.set_cons_zero, List.set_cons_succ]
          refine wpAnyH_takeD 4 (i := 29) rfl rfl (by kernel_rfl) (by kernel_rfl) (by kernel_rfl) (fun _ _ _ h => h) (v := .bool true) (.inl ⟨rfl, fun w' h' => by go_simp⟩) hSx8 ?_
          simp only [Act.put, List.setIfInBounds_toArray, List.set_cons_zero, List.set_cons_succ]
          refine wpAnyH_done (by kernel_rfl) ?_ _
          have hX9 := hSx8.1
          clear KeepS G1 G2 G3
          go_wp2_with fail
          go_ret
          exact ⟨rfl, Hg0.out ▸ Hal.out.trans ((HW.out.trans (hX9.mono HB.out)).mono (Nat.le_of_lt HgB.out))⟩
        | false =>
          have G1 := Lib.hid (fun (w' : World) (h : Below w10.heap.size w10 w' ∧ w'.cell? ⟨gz, 0, none⟩ = some (.int .i64 (k : Int)) ∧ w'.cell? ⟨gz, 1, none⟩ = some (.int .i64 who) ∧ w'.cell? ⟨gz, 2, none⟩ = some (.int .i64 sq) ∧ w'.cell? ⟨gz, 3, none⟩ = some (.slice Am nm cm) ∧ w'.cell? ⟨bn, on + N * 3, none⟩ = some (.int .i64 who) ∧ w'.cell? ⟨bn, on + N * 3 + 1, none⟩ = some (.int .i64 sq) ∧ w'.cell? ⟨bn, on + N * 3 + 2, none⟩ = some (.slice An1 nn1 cn1) ∧ gz < w'.heap.size ∧ bn < w'.heap.size) => (plain_any (R0.drop k) (Option.map (fun x : Addr => x.add (k * 3)) Aw) (N - k) (cw - k) _ w' (Hrest.out.below h.1) h.1.size _ HP1.out).mono (R' := fun e w'' => e = .returned (.bool true) ∧ (Below w10.heap.size w10 w'' ∧ w''.cell? ⟨gz, 0, none⟩ = some (.int .i64 (k : Int)) ∧ w''.cell? ⟨gz, 1, none⟩ = some (.int .i64 who) ∧ w''.cell? ⟨gz, 2, none⟩ = some (.int .i64 sq) ∧ w''.cell? ⟨gz, 3, none⟩ = some (.slice Am nm cm) ∧ w''.cell? ⟨bn, on + N * 3, none⟩ = some (.int .i64 who) ∧ w''.cell? ⟨bn, on + N * 3 + 1, none⟩ = some (.int .i64 sq) ∧ w''.cell? ⟨bn, on + N * 3 + 2, none⟩ = some (.slice An1 nn1 cn1) ∧ gz < w''.heap.size ∧ bn < w''.heap.size)) (fun e w'' hh => ⟨hh.1, KeepS.out _ (h.1.trans (hh.2.mono h.1.size))⟩))
          cases P2 with
          | true =>
            have G2 := Lib.hid (fun (w' : World) (h : Below w10.heap.size w10 w' ∧ w'.cell? ⟨gz, 0, none⟩ = some (.int .i64 (k : Int)) ∧ w'.cell? ⟨gz, 1, none⟩ = some (.int .i64 who) ∧ w'.cell? ⟨gz, 2, none⟩ = some (.int .i64 sq) ∧ w'.cell? ⟨gz, 3, none⟩ = some (.slice Am nm cm) ∧ w'.cell? ⟨bn, on + N * 3, none⟩ = some (.int .i64 who) ∧ w'.cell? ⟨bn, on + N * 3 + 1, none⟩ = some (.int .i64 sq) ∧ w'.cell? ⟨bn, on + N * 3 + 2, none⟩ = some (.slice An1 nn1 cn1) ∧ gz < w'.heap.size ∧ bn < w'.heap.size) => (cutsR d Am nm cm _ w' (HD3.out.below h.1) h.1.size HP2.out).mono (R' := fun e w'' => e = .returned (.bool true) ∧ (Below w10.heap.size w10 w'' ∧ w''.cell? ⟨gz, 0, none⟩ = some (.int .i64 (k : Int)) ∧ w''.cell? ⟨gz, 1, none⟩ = some (.int .i64 who) ∧ w''.cell? ⟨gz, 2, none⟩ = some (.int .i64 sq) ∧ w''.cell? ⟨gz, 3, none⟩ = some (.slice Am nm cm) ∧ w''.cell? ⟨bn, on + N * 3, none⟩ = some (.int .i64 who) ∧ w''.cell? ⟨bn, on + N * 3 + 1, none⟩ = some (.int .i64 sq) ∧ w''.cell? ⟨bn, on + N * 3 + 2, none⟩ = some (.slice An1 nn1 cn1) ∧ gz < w''.heap.size ∧ bn < w''.heap.size)) (fun e w'' hh => ⟨hh.1, KeepS.out _ (h.1.trans (hh.2.mono h.1.size))⟩))
            have G3 := G1
            refine wp_region_held (S := fun w' => Below w10.heap.size w10 w' ∧ w'.cell? ⟨gz, 0, none⟩ = some (.int .i64 (k : Int)) ∧ w'.cell? ⟨gz, 1, none⟩ = some (.int .i64 who) ∧ w'.cell? ⟨gz, 2, none⟩ = some (.int .i64 sq) ∧ w'.cell? ⟨gz, 3, none⟩ = some (.slice Am nm cm) ∧ w'.cell? ⟨bn, on + N * 3, none⟩ = some (.int .i64 who) ∧ w'.cell? ⟨bn, on + N * 3 + 1, none⟩ = some (.int .i64 sq) ∧ w'.cell? ⟨bn, on + N * 3 + 2, none⟩ = some (.slice An1 nn1 cn1) ∧ gz < w'.heap.size ∧ bn < w'.heap.size) (by kernel_rfl) ?_
            have hS : Below w10.heap.size w10 w10.drew ∧ w10.drew.cell? ⟨gz, 0, none⟩ = some (.int .i64 (k : Int)) ∧ w10.drew.cell? ⟨gz, 1, none⟩ = some (.int .i64 who) ∧ w10.drew.cell? ⟨gz, 2, none⟩ = some (.int .i64 sq) ∧ w10.drew.cell? ⟨gz, 3, none⟩ = some (.slice Am nm cm) ∧ w10.drew.cell? ⟨bn, on + N * 3, none⟩ = some (.int .i64 who) ∧ w10.drew.cell? ⟨bn, on + N * 3 + 1, none⟩ = some (.int .i64 sq) ∧ w10.drew.cell? ⟨bn, on + N * 3 + 2, none⟩ = some (.slice An1 nn1 cn1) ∧ gz < w10.drew.heap.size ∧ bn < w10.drew.heap.size := KeepS.out _ (Below.drew (Below.refl _ _))
            change wpAnyH _ _ _ _ _ _ _ _ w10.drew
            refine wpAnyH_takeD 111 (i := 0) rfl rfl (by kernel_rfl) (by kernel_rfl) (by kernel_rfl) (fun _ _ _ h => h) (v := .int .i64 0) (.inl ⟨rfl, fun w' h' => by go_simp⟩) hS ?_
            simp only [Act.put, List.setIfInBounds_toArray, List.set_cons_zero, List.set_cons_succ]
            refine wpAnyH_takeD 112 (i := 1) rfl rfl (by kernel_rfl) (by kernel_rfl) (by kernel_rfl) (fun _ _ _ h => h) (v := .bool false) (.inl ⟨rfl, fun w' h' => by go_simp⟩) hS ?_
            simp only [Act.put, List.setIfInBounds_toArray, List.set_cons_zero, List.set_cons_succ]
            refine wpAnyH_takeD 113 (i := 2) rfl rfl (by kernel_rfl) (by kernel_rfl) (by kernel_rfl) (fun _ _ _ h => h) (v := .bool false) (.inl ⟨rfl, fun w' h' => by go_simp⟩) hS ?_
            simp only [Act.put, List.setIfInBounds_toArray, List.set_cons_zero, List.set_cons_succ]
            refine wpAnyH_takeD 114 (i := 3) rfl rfl (by kernel_rfl) (by kernel_rfl) (by kernel_rfl) (fun _ _ _ h => h) (v := .slice Aw N cw) (.inl ⟨rfl, fun w' h' => by go_simp⟩) hS ?_
            simp only [Act.put, List.setIfInBounds_toArray, List.set_cons_zero, List.set_cons_succ]
            refine wpAnyH_takeD 115 (i := 4) rfl rfl (by kernel_rfl) (by kernel_rfl) (by kernel_rfl) (fun _ _ _ h => h) (v := .pointer (some ⟨gz, 0, none⟩)) (.inl ⟨rfl, fun w' h' => by go_simp⟩) hS ?_
            simp only [Act.put, List.setIfInBounds_toArray, List.set_cons_zero, List.set_cons_succ]
            refine wpAnyH_takeD 116 (i := 5) rfl rfl (by kernel_rfl) (by kernel_rfl) (by kernel_rfl) (fun _ _ _ h => h) (v := .int .i64 (k : Int)) (.inl ⟨rfl, fun w' h' => by obtain ⟨-, h1, h2, h3, h4, h5, h6, h7, h8, h9⟩ := h'; go_simp⟩) hS ?_
            simp only [Act.put, List.setIfInBounds_toArray, List.set_cons_zero, List.set_cons_succ]
            refine wpAnyH_takeD 117 (i := 6) rfl rfl (by kernel_rfl) (by kernel_rfl) (by kernel_rfl) (fun _ _ _ h => h) (v := .slice (Option.map (fun x : Addr => x.add (k * 3)) Aw) (N - k) (cw - k)) (.inl ⟨rfl, fun w' h' => by go_simp⟩) hS ?_
            simp only [Act.put, List.setIfInBounds_toArray, List.set_cons_zero, List.set_cons_succ]
            refine wpAnyH_all (rs := [7]) (by kernel_rfl) (List.cons_ne_nil _ _) (fun i7 hi7 => ?_)
            obtain rfl := List.mem_singleton.1 hi7
            refine wpOp_enter 118 rfl rfl rfl 36 #[.slice (Option.map (fun x : Addr => x.add (k * 3)) Aw) (N - k) (cw - k)] (by go_simp) (.bool true) (fun w' => Below w10.heap.size w10 w' ∧ w'.cell? ⟨gz, 0, none⟩ = some (.int .i64 (k : Int)) ∧ w'.cell? ⟨gz, 1, none⟩ = some (.int .i64 who) ∧ w'.cell? ⟨gz, 2, none⟩ = some (.int .i64 sq) ∧ w'.cell? ⟨gz, 3, none⟩ = some (.slice Am nm cm) ∧ w'.cell? ⟨bn, on + N * 3, none⟩ = some (.int .i64 who) ∧ w'.cell? ⟨bn, on + N * 3 + 1, none⟩ = some (.int .i64 sq) ∧ w'.cell? ⟨bn, on + N * 3 + 2, none⟩ = some (.slice An1 nn1 cn1) ∧ gz < w'.heap.size ∧ bn < w'.heap.size) (G1.out _ hS) ?_
            intro x8 hSx8
            simp only [Act.put, List.setIfInBounds_toArray, List.set_cons_zero, List.set_cons_succ]
            refine ⟨hSx8, ?_⟩
            refine wpAnyH_takeD 119 (i := 8) rfl rfl (by kernel_rfl) (by kernel_rfl) (by kernel_rfl) (fun _ _ _ h => h) (v := .bool false) (.inl ⟨rfl, fun w' h' => by go_simp⟩) hSx8 ?_
            simp only [Act.put, List.setIfInBounds_toArray, List.set_cons_zero, List.set_cons_succ]
            refine wpAnyH_takeD 120 (i := 9) rfl rfl (by kernel_rfl) (by kernel_rfl) (by kernel_rfl) (fun _ _ _ h => h) (v := .bool false) (.inl ⟨rfl, fun w' h' => by go_simp⟩) hSx8 ?_
            simp only [Act.put, List.setIfInBounds_toArray, List.set_cons_zero, List.set_cons_succ]
            refine wpAnyH_takeD 121 (i := 10) rfl rfl (by kernel_rfl) (by kernel_rfl) (by kernel_rfl) (fun _ _ _ h => h) (v := .bool false) (.inl ⟨rfl, fun w' h' => by go_simp⟩) hSx8 ?_
            simp only [Act.put, List.setIfInBounds_toArray, List.set_cons_zero, List.set_cons_succ]
            refine wpAnyH_takeD 122 (i := 11) rfl rfl (by kernel_rfl) (by kernel_rfl) (by kernel_rfl) (fun _ _ _ h => h) (v := .pointer (some ⟨gz, 3, none⟩)) (.inl ⟨rfl, fun w' h' => by go_simp⟩) hSx8 ?_
            simp only [Act.put, List.setIfInBounds_toArray, List.set_cons_zero, List.set_cons_succ]
            refine wpAnyH_takeD 123 (i := 12) rfl rfl (by kernel_rfl) (by kernel_rfl) (by kernel_rfl) (fun _ _ _ h => h) (v := .slice Am nm cm) (.inl ⟨rfl, fun w' h' => by obtain ⟨-, h1, h2, h3, h4, h5, h6, h7, h8, h9⟩ := h'; go_simp⟩) hSx8 ?_
            simp only [Act.put, List.setIfInBounds_toArray, List.set_cons_zero, List.set_cons_succ]
            refine wpAnyH_all (rs := [13]) (by kernel_rfl) (List.cons_ne_nil _ _) (fun i13 hi13 => ?_)
            obtain rfl := List.mem_singleton.1 hi13
            refine wpOp_enter 124 rfl rfl rfl 37 #[.slice Am nm cm] (by go_simp) (.bool true) (fun w' => Below w10.heap.size w10 w' ∧ w'.cell? ⟨gz, 0, none⟩ = some (.int .i64 (k : Int)) ∧ w'.cell? ⟨gz, 1, none⟩ = some (.int .i64 who) ∧ w'.cell? ⟨gz, 2, none⟩ = some (.int .i64 sq) ∧ w'.cell? ⟨gz, 3, none⟩ = some (.slice Am nm cm) ∧ w'.cell? ⟨bn, on + N * 3, none⟩ = some (.int .i64 who) ∧ w'.cell? ⟨bn, on + N * 3 + 1, none⟩ = some (.int .i64 sq) ∧ w'.cell? ⟨bn, on + N * 3 + 2, none⟩ = some (.slice An1 nn1 cn1) ∧ gz < w'.heap.size ∧ bn < w'.heap.size) (G2.out _ hSx8) ?_
            intro x9 hSx9
            simp only [Act.put, List.setIfInBounds_toArray, List.set_cons_zero, List.set_cons_succ]
            refine ⟨hSx9, ?_⟩
            refine wpAnyH_takeD 125 (i := 14) rfl rfl (by kernel_rfl) (by kernel_rfl) (by kernel_rfl) (fun _ _ _ h => h) (v := .bool true) (.inl ⟨rfl, fun w' h' => by go_simp⟩) hSx9 ?_
            simp only [Act.put, List.setIfInBounds_toArray, List.set_cons_zero, List.set_cons_succ]
            refine wpAnyH_takeD 126 (i := 15) rfl rfl (by kernel_rfl) (by kernel_rfl) (by kernel_rfl) (fun _ _ _ h => h) (v := .bool true) (.inl ⟨rfl, fun w' h' => by go_simp⟩) hSx9 ?_
            simp only [Act.put, List.setIfInBounds_toArray, List.set_cons_zero, List.set_cons_succ]
            refine wpAnyH_takeD 127 (i := 16) rfl rfl (by kernel_rfl) (by kernel_rfl) (by kernel_rfl) (fun _ _ _ h => h) (v := undef) (.inr ⟨rfl, rfl⟩) hSx9 ?_
            simp only [Act.put, List.setIfInBounds_toArray, List.set_cons_zero, List.set_cons_succ]
            refine wpAnyH_takeD 128 (i := 17) rfl rfl (by kernel_rfl) (by kernel_rfl) (by kernel_rfl) (fun _ _ _ h => h) (v := undef) (.inr ⟨rfl, rfl⟩) hSx9 ?_
            simp only [Act.put, List.setIfInBounds_toArray, List.set_cons_zero, List.set_cons_succ]
            refine wpAnyH_takeD 129 (i := 18) rfl rfl (by kernel_rfl) (by kernel_rfl) (by kernel_rfl) (fun _ _ _ h => h) (v := undef) (.inr ⟨rfl, rfl⟩) hSx9 ?_
            simp only [Act.put, List.setIfInBounds_toArray, List.set_cons_zero, List.set_cons_succ]
            refine wpAnyH_takeD 130 (i := 19) rfl rfl (by kernel_rfl) (by kernel_rfl) (by kernel_rfl) (fun _ _ _ h => h) (v := undef) (.inr ⟨rfl, rfl⟩) hSx9 ?_
            simp only [Act.put, List.setIfInBounds_toArray, List.set_cons_zero, List.set_cons_succ]
            refine wpAnyH_takeD 131 (i := 20) rfl rfl (by kernel_rfl) (by kernel_rfl) (by kernel_rfl) (fun _ _ _ h => h) (v := undef) (.inr ⟨rfl, rfl⟩) hSx9 ?_
            simp only [Act.put, List.setIfInBounds_toArray, List.set_cons_zero, List.set_cons_succ]
            refine wpAnyH_takeD 132 (i := 21) rfl rfl (by kernel_rfl) (by kernel_rfl) (by kernel_rfl) (fun _ _ _ h => h) (v := undef) (.inr ⟨rfl, rfl⟩) hSx9 ?_
            simp only [Act.put, List.setIfInBounds_toArray, List.set_cons_zero, List.set_cons_succ]
            refine wpAnyH_takeD 133 (i := 22) rfl rfl (by kernel_rfl) (by kernel_rfl) (by kernel_rfl) (fun _ _ _ h => h) (v := undef) (.inr ⟨rfl, rfl⟩) hSx9 ?_
            simp only [Act.put, List.setIfInBounds_toArray, List.set_cons_zero, List.set_cons_succ]
            refine wpAnyH_takeD 134 (i := 23) rfl rfl (by kernel_rfl) (by kernel_rfl) (by kernel_rfl) (fun _ _ _ h => h) (v := undef) (.inr ⟨rfl, rfl⟩) hSx9 ?_
            simp only [Act.put, List.setIfInBounds_toArray, List.set_cons_zero, List.set_cons_succ]
            refine wpAnyH_takeD 135 (i := 24) rfl rfl (by kernel_rfl) (by kernel_rfl) (by kernel_rfl) (fun _ _ _ h => h) (v := undef) (.inr ⟨rfl, rfl⟩) hSx9 ?_
            simp only [Act.put, List.setIfInBounds_toArray, List.set_cons_zero, List.set_cons_succ]
            refine wpAnyH_takeD 136 (i := 25) rfl rfl (by kernel_rfl) (by kernel_rfl) (by kernel_rfl) (fun _ _ _ h => h) (v := undef) (.inr ⟨rfl, rfl⟩) hSx9 ?_
            simp only [Act.put, List.setIfInBounds_toArray, List.set_cons_zero, List.set_cons_succ]
            refine wpAnyH_takeD 137 (i := 26) rfl rfl (by kernel_rfl) (by kernel_rfl) (by kernel_rfl) (fun _ _ _ h => h) (v := undef) (.inr ⟨rfl, rfl⟩) hSx9 ?_
            simp only [Act.put, List.setIfInBounds_toArray, List.set_cons_zero, List.set_cons_succ]
            refine wpAnyH_takeD 138 (i := 27) rfl rfl (by kernel_rfl) (by kernel_rfl) (by kernel_rfl) (fun _ _ _ h => h) (v := undef) (.inr ⟨rfl, rfl⟩) hSx9 ?_
            simp only [Act.put, List.setIfInBounds_toArray, List.set_cons_zero, List.set_cons_succ]
            refine wpAnyH_takeD 139 (i := 28) rfl rfl (by kernel_rfl) (by kernel_rfl) (by kernel_rfl) (fun _ _ _ h => h) (v := .bool true) (.inl ⟨rfl, fun w' h' => by go_simp⟩) hSx9 ?_
            simp only [Act.put, List.setIfInBounds_toArray, List.set_cons_zero, List.set_cons_succ]
            refine wpAnyH_takeD 4 (i := 29) rfl rfl (by kernel_rfl) (by kernel_rfl) (by kernel_rfl) (fun _ _ _ h => h) (v := .bool true) (.inl ⟨rfl, fun w' h' => by go_simp⟩) hSx9 ?_
            simp only [Act.put, List.setIfInBounds_toArray, List.set_cons_zero, List.set_cons_succ]
            refine wpAnyH_done (by kernel_rfl) ?_ _
            have hX9 := hSx9.1
            clear KeepS G1 G2 G3
            go_wp2_with fail
            go_ret
            exact ⟨rfl, Hg0.out ▸ Hal.out.trans ((HW.out.trans (hX9.mono HB.out)).mono (Nat.le_of_lt HgB.out))⟩
          | false =>
            have G2 := Lib.hid (fun (w' : World) (h : Below w10.heap.size w10 w' ∧ w'.cell? ⟨gz, 0, none⟩ = some (.int .i64 (k : Int)) ∧ w'.cell? ⟨gz, 1, none⟩ = some (.int .i64 who) ∧ w'.cell? ⟨gz, 2, none⟩ = some (.int .i64 sq) ∧ w'.cell? ⟨gz, 3, none⟩ = some (.slice Am nm cm) ∧ w'.cell? ⟨bn, on + N * 3, none⟩ = some (.int .i64 who) ∧ w'.cell? ⟨bn, on + N * 3 + 1, none⟩ = some (.int .i64 sq) ∧ w'.cell? ⟨bn, on + N * 3 + 2, none⟩ = some (.slice An1 nn1 cn1) ∧ gz < w'.heap.size ∧ bn < w'.heap.size) => (cutsR d Am nm cm _ w' (HD3.out.below h.1) h.1.size HP2.out).mono (R' := fun e w'' => e = .returned (.bool false) ∧ (Below w10.heap.size w10 w'' ∧ w''.cell? ⟨gz, 0, none⟩ = some (.int .i64 (k : Int)) ∧ w''.cell? ⟨gz, 1, none⟩ = some (.int .i64 who) ∧ w''.cell? ⟨gz, 2, none⟩ = some (.int .i64 sq) ∧ w''.cell? ⟨gz, 3, none⟩ = some (.slice Am nm cm) ∧ w''.cell? ⟨bn, on + N * 3, none⟩ = some (.int .i64 who) ∧ w''.cell? ⟨bn, on + N * 3 + 1, none⟩ = some (.int .i64 sq) ∧ w''.cell? ⟨bn, on + N * 3 + 2, none⟩ = some (.slice An1 nn1 cn1) ∧ gz < w''.heap.size ∧ bn < w''.heap.size)) (fun e w'' hh => ⟨hh.1, KeepS.out _ (h.1.trans (hh.2.mono h.1.size))⟩))
            have hMX := Hev.out HP1.out HP2.out
            subst hMX
            have G3 := Lib.hid (fun (w' : World) (h : Below w10.heap.size w10 w' ∧ w'.cell? ⟨gz, 0, none⟩ = some (.int .i64 (k : Int)) ∧ w'.cell? ⟨gz, 1, none⟩ = some (.int .i64 who) ∧ w'.cell? ⟨gz, 2, none⟩ = some (.int .i64 sq) ∧ w'.cell? ⟨gz, 3, none⟩ = some (.slice Am nm cm) ∧ w'.cell? ⟨bn, on + N * 3, none⟩ = some (.int .i64 who) ∧ w'.cell? ⟨bn, on + N * 3 + 1, none⟩ = some (.int .i64 sq) ∧ w'.cell? ⟨bn, on + N * 3 + 2, none⟩ = some (.slice An1 nn1 cn1) ∧ gz < w'.heap.size ∧ bn < w'.heap.size) => (samerev_true who sq M An1 A2 nn1 n2 cn1 c2 w' ((Hrn.out.below h.1).more h.1.size) ((HX2.out.below h.1).more h.1.size)).mono (R' := fun e w'' => e = .returned (.bool true) ∧ (Below w10.heap.size w10 w'' ∧ w''.cell? ⟨gz, 0, none⟩ = some (.int .i64 (k : Int)) ∧ w''.cell? ⟨gz, 1, none⟩ = some (.int .i64 who) ∧ w''.cell? ⟨gz, 2, none⟩ = some (.int .i64 sq) ∧ w''.cell? ⟨gz, 3, none⟩ = some (.slice Am nm cm) ∧ w''.cell? ⟨bn, on + N * 3, none⟩ = some (.int .i64 who) ∧ w''.cell? ⟨bn, on + N * 3 + 1, none⟩ = some (.int .i64 sq) ∧ w''.cell? ⟨bn, on + N * 3 + 2, none⟩ = some (.slice An1 nn1 cn1) ∧ gz < w''.heap.size ∧ bn < w''.heap.size)) (fun e w'' hh => ⟨hh.1, KeepS.out _ (h.1.trans (hh.2.mono h.1.size))⟩))
            obtain ⟨N2, hN2⟩ : ∃ N2, N + 1 = N2 := ⟨_, rfl⟩
            rw [hN2]
            have hx : (N : Int) < (N2 : Int) := by omega
            clear hN2 hcn1
            have hS7 := KeepS.out w10 (Below.refl _ _)
            go_region_held3 (fun w' => Below w10.heap.size w10 w' ∧ w'.cell? ⟨gz, 0, none⟩ = some (.int .i64 (k : Int)) ∧ w'.cell? ⟨gz, 1, none⟩ = some (.int .i64 who) ∧ w'.cell? ⟨gz, 2, none⟩ = some (.int .i64 sq) ∧ w'.cell? ⟨gz, 3, none⟩ = some (.slice Am nm cm) ∧ w'.cell? ⟨bn, on + N * 3, none⟩ = some (.int .i64 who) ∧ w'.cell? ⟨bn, on + N * 3 + 1, none⟩ = some (.int .i64 sq) ∧ w'.cell? ⟨bn, on + N * 3 + 2, none⟩ = some (.slice An1 nn1 cn1) ∧ gz < w'.heap.size ∧ bn < w'.heap.size) (first | with_reducible assumption | exact KeepS.out _ (Below.drew (Below.refl _ _)) | exact KeepS.out _ (by assumption) | exact KeepS.out _ (Below.drew (by assumption)) | (go_split_ands; exact KeepS.out _ (by assumption)))
              (first | (go_at_call 36; with_reducible refine (G1.out _ (by assumption)).mono ?_; rintro e w8 ⟨rfl, hS8⟩) | (go_at_call 37; with_reducible refine (G2.out _ (by assumption)).mono ?_; rintro e w9 ⟨rfl, hS9⟩) | (go_at_call 38; with_reducible refine (G3.out _ (by assumption)).mono ?_; rintro e wa ⟨rfl, hSa⟩))
            have hX9 := hSa.1
            clear KeepS G1 G2 G3
            go_wp2_with fail
            go_ret
            exact ⟨rfl, Hg0.out ▸ Hal.out.trans ((HW.out.trans (hX9.mono HB.out)).mono (Nat.le_of_lt HgB.out))⟩
end Go.Proofs.Ytcdielgpmnhmjaa
