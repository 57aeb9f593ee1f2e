/- walk of scrivkeep.ServeOnce. -/
import Derived.Test.YtmnnaemcjmiplaaK33
import Derived.Test.YtmnnaemcjmiplaaK34
import Derived.Test.YtmnnaemcjmiplaaK36
import Derived.Test.YtmnnaemcjmiplaaK16
namespace Go.Proofs.Ytmnnaemcjmiplaa
open Go.ChangeShapes Go.WideShapes Go.RowKit
set_option linter.unusedVariables false
set_option linter.unusedSimpArgs false
set_option maxRecDepth 100000
set_option maxHeartbeats 4000000

theorem omsg_info : (Try.prog.info? 56).map (·.size) = some 4 := by kernel_rfl
theorem omsg_row {W : World} {g : Nat} {cs : Array Value} (h : Blk W g 56 cs) (hs : cs.size = 4) : (loadVar 56 ⟨g, 0, none⟩).run Try.prog W = .ok (.agg cs) W :=
  run_loadVar_row (P := Try.prog) W g 56 56 _ _ _ h Try.underlying56 rfl (by rw [hs]; exact omsg_info)
theorem sub_1 : subE shN 0 1 1 [(2, 0, ⟨#[97]⟩)] = 0 := by decide +kernel
theorem subN_1 : subN shN 0 1 1 [(2, 0, ⟨#[97]⟩)] = 1 := by decide +kernel
theorem walk_ServeOnce (v : Value) (l : List Rv) (v2 : Value) (x : Int × Int × Int × List Pt) (w : World) (h : IsRevs w v l) (h2 : IsMsg w v2 x) :
    Calls Try.prog 5 #[v, v2] w fun e w' => e = .returned (.bool true) ∧ Below w.heap.size w w' := by
  obtain ⟨A, n, c, rfl, hrd⟩ := h
  obtain ⟨bs, who, sq, d⟩ := x
  obtain ⟨Am, nm, cm, rfl, hd⟩ := h2
  simp only at hd ⊢
  have kp := Blk.new w 56 #[.int .i64 bs, .int .i64 who, .int .i64 sq, .slice Am nm cm]
  have hal := (Below.refl w.heap.size w).alloc (Nat.le_refl _) (.cells #[.int .i64 bs, .int .i64 who, .int .i64 sq, .slice Am nm cm] 56)
  have hl0 := hrd.alloc (Nat.le_refl _) (.cells #[.int .i64 bs, .int .i64 who, .int .i64 sq, .slice Am nm cm] 56)
  have hd0 := hd.alloc (Nat.le_refl _) (.cells #[.int .i64 bs, .int .i64 who, .int .i64 sq, .slice Am nm cm] 56)
  clear hrd hd
  go_enter Try.func5, Try.ntmps5
  go_upto_region 1 with (fail)
  obtain ⟨u1, hu1⟩ : ∃ u1, w.alloc (.cells #[.int .i64 bs, .int .i64 who, .int .i64 sq, .slice Am nm cm] 56) = u1 := ⟨_, rfl⟩
  rw [hu1] at kp hal hl0 hd0 ⊢
  obtain ⟨gz, hg⟩ : ∃ gz, w.heap.size = gz := ⟨_, rfl⟩
  rw [hg] at kp hal hl0 hd0 ⊢
  obtain ⟨B, hB⟩ : ∃ B, u1.heap.size = B := ⟨_, rfl⟩
  have hgB : gz < B := by rw [← hB]; exact kp.lt
  have HL := Lib.hid (hl0.more (Nat.le_of_lt hgB))
  have HD := Lib.hid (hd0.more (Nat.le_of_lt hgB))
  have HK := Lib.hid kp
  have HgB := Lib.hid hgB
  have HB : Hid (B ≤ u1.heap.size) := Lib.hid (by omega)
  have HW : Hid (Below B u1 u1) := Lib.hid (Below.refl _ _)
  have Hal := Lib.hid hal
  have Hg0 := Lib.hid hg
  clear kp hal hl0 hd0 hu1 hg hB hgB
  have HBo := HB
  have hc_ := snew_B u1
  have Hc_ := Lib.hid hc_
  clear hc_
  go_wp2_with fail
  refine Hc_.out.mono ?_
  rintro e w1 ⟨q0, rfl, hm, hb1⟩
  clear Hc_
  have HL_ := Lib.hid (RdR.below HL.out (hb1.mono HB.out))
  clear HL
  have HL := HL_
  clear HL_
  have HD_ := Lib.hid (RdP.below HD.out (hb1.mono HB.out))
  clear HD
  have HD := HD_
  clear HD_
  have HK_ := Lib.hid (HK.out.below hb1 HK.out.lt)
  clear HK
  have HK := HK_
  clear HK_
  have HW_ := Lib.hid (HW.out.trans (hb1.mono HB.out))
  clear HW
  have HW := HW_
  clear HW_
  have HB_ : Hid (B ≤ w1.heap.size) := Lib.hid (Nat.le_trans HB.out hb1.size)
  clear HB
  have HB := HB_
  clear HB_ hb1
  have hm := hm.base HBo.out
  have H0 := Lib.hid hm
  clear hm HBo
  have hc_ := put_any ⟨#[97]⟩ (by decide) w1
  have Hc_ := Lib.hid hc_
  clear hc_
  go_wp2_with fail
  refine Hc_.out.mono ?_
  rintro e w2 ⟨Ab, rfl, hrb, hb2⟩
  clear Hc_
  have HL_ := Lib.hid (RdR.below HL.out (hb2.mono HB.out))
  clear HL
  have HL := HL_
  clear HL_
  have HD_ := Lib.hid (RdP.below HD.out (hb2.mono HB.out))
  clear HD
  have HD := HD_
  clear HD_
  have HK_ := Lib.hid (HK.out.below hb2 HK.out.lt)
  clear HK
  have HK := HK_
  clear HK_
  have H0_ := Lib.hid (H0.out.below hb2)
  clear H0
  have H0 := H0_
  clear H0_
  have HW_ := Lib.hid (HW.out.trans (hb2.mono HB.out))
  clear HW
  have HW := HW_
  clear HW_
  have HB_ : Hid (B ≤ w2.heap.size) := Lib.hid (Nat.le_trans HB.out hb2.size)
  clear HB
  have HB := HB_
  clear HB_ hb2
  have hc_ := submit_B q0 shN none B 1 0 1 1 [(2, 0, ⟨#[97]⟩)] Ab 1 1 w2 H0.out HB.out hrb
  rw [sub_1, subN_1] at hc_
  clear hrb
  have Hc_ := Lib.hid hc_
  clear hc_
  go_wp2_with fail
  refine Hc_.out.mono ?_
  rintro e w3 ⟨rfl, hm, hb⟩
  clear Hc_
  have HL_ := Lib.hid (RdR.below HL.out hb)
  clear HL
  have HL := HL_
  clear HL_
  have HD_ := Lib.hid (RdP.below HD.out hb)
  clear HD
  have HD := HD_
  clear HD_
  have HK_ := Lib.hid (HK.out.below hb HgB.out)
  clear HK
  have HK := HK_
  clear HK_
  have HW_ := Lib.hid (HW.out.trans hb)
  clear HW
  have HW := HW_
  clear HW_
  have HB_ : Hid (B ≤ w3.heap.size) := Lib.hid (Nat.le_trans HB.out hb.size)
  clear HB
  have HB := HB_
  clear HB_ hb
  clear H0 hm
  have HBo := HB
  have hc_ := filled_B l A n c w3 (HL.out.more HB.out)
  have Hc_ := Lib.hid hc_
  clear hc_
  go_wp2_with fail
  refine Hc_.out.mono ?_
  rintro e w4 ⟨q, rfl, hm, hb4⟩
  clear Hc_
  have HL_ := Lib.hid (RdR.below HL.out (hb4.mono HB.out))
  clear HL
  have HL := HL_
  clear HL_
  have HD_ := Lib.hid (RdP.below HD.out (hb4.mono HB.out))
  clear HD
  have HD := HD_
  clear HD_
  have HK_ := Lib.hid (HK.out.below hb4 HK.out.lt)
  clear HK
  have HK := HK_
  clear HK_
  have HW_ := Lib.hid (HW.out.trans (hb4.mono HB.out))
  clear HW
  have HW := HW_
  clear HW_
  have HB_ : Hid (B ≤ w4.heap.size) := Lib.hid (Nat.le_trans HB.out hb4.size)
  clear HB
  have HB := HB_
  clear HB_ hb4
  have hm := hm.base HBo.out
  clear HL HBo
  have h80 : (fillS shN l).log.table.length = 8 := hm.hg.l8.2
  have h00 := hm.tab0 who
  obtain ⟨s0, hs0⟩ : ∃ s0, fillS shN l = s0 := ⟨_, rfl⟩
  rw [hs0] at hm h80 h00
  have H80 := Lib.hid h80
  have H00 := Lib.hid h00
  clear hs0 h80 h00
  have HM := Lib.hid hm
  clear hm
  by_cases hE : subE s0 bs who sq d = 0
  · skip
    have hon := sub_once (bs := bs) H80.out H00.out hE
    have hS0 : (subS s0 none bs who sq d) = (subS s0 none bs who sq d) := rfl
    obtain ⟨s1, hs1⟩ : ∃ s1, subS s0 none bs who sq d = s1 := ⟨_, rfl⟩
    obtain ⟨NN, hNN⟩ : ∃ NN, subN s0 bs who sq d = NN := ⟨_, rfl⟩
    rw [hs1, hNN] at hon
    obtain ⟨hw, hck, hp, hT⟩ := hon
    have HS1 := Lib.hid hs1
    have HNN := Lib.hid hNN
    have HE := Lib.hid hE
    have Hw := Lib.hid hw
    have Hck := Lib.hid hck
    have Hp := Lib.hid hp
    have HT := Lib.hid hT
    clear hs1 hNN hE hw hck hp hT hS0
    have hc_ := submit_B q s0 none B 1 bs who sq d Am nm cm w4 HM.out HB.out (HD.out.more HB.out)
    rw [HE.out, HNN.out] at hc_
    have Hc_ := Lib.hid hc_
    have Hrow := Lib.hid (omsg_row HK.out rfl)
    clear hc_
    go_wp2_with (first | (refine wpList_load_blk rfl _ (.tmp 3) rfl gz rfl _ Hrow.out ?_))
    refine Hc_.out.mono ?_
    rintro e v1 ⟨rfl, hm, hb⟩
    clear Hc_ Hrow HM
    rw [HS1.out] at hm
    have HD_ := Lib.hid (HD.out.below hb)
    clear HD
    have HD := HD_
    have HK_ := Lib.hid (HK.out.below hb HgB.out)
    clear HK
    have HK := HK_
    have HW_ := Lib.hid (HW.out.trans hb)
    clear HW
    have HW := HW_
    have HM := Lib.hid hm
    have HB_ : Hid (B ≤ v1.heap.size) := Lib.hid (Nat.le_trans HB.out hb.size)
    clear HB
    have HB := HB_
    clear HB_ HW_ HD_ HK_ hm hb
    have Hag := Lib.hid (again_of (bs := bs) Hw.out Hck.out Hp.out HT.out)
    have hhd := HM.out.hg.len
    obtain ⟨hd1, hhd1⟩ : ∃ hd1, s1.log.base + (s1.log.revs.length : Int) = hd1 := ⟨_, rfl⟩
    have HH1 := Lib.hid hhd1
    clear hhd hhd1
    have hc_ := shead_B q s1 none B 1 v1 HM.out
    rw [HH1.out] at hc_
    have Hc_ := Lib.hid hc_
    clear hc_
    go_wp2_with fail
    refine Hc_.out.mono ?_
    rintro e w5 ⟨rfl, hb5⟩
    clear Hc_
    have HD_ := Lib.hid (RdP.below HD.out (hb5.mono HB.out))
    clear HD
    have HD := HD_
    clear HD_
    have HK_ := Lib.hid (HK.out.below hb5 HK.out.lt)
    clear HK
    have HK := HK_
    clear HK_
    have HM_ := Lib.hid (HM.out.below hb5)
    clear HM
    have HM := HM_
    clear HM_
    have HW_ := Lib.hid (HW.out.trans (hb5.mono HB.out))
    clear HW
    have HW := HW_
    clear HW_
    have HB_ : Hid (B ≤ w5.heap.size) := Lib.hid (Nat.le_trans HB.out hb5.size)
    clear HB
    have HB := HB_
    clear HB_ hb5
    have hc_ := submit_B q s1 none B 1 bs who sq d Am nm cm w5 HM.out HB.out (HD.out.more HB.out)
    rw [Hag.out.1, Hag.out.2.1] at hc_
    have Hc_ := Lib.hid hc_
    have Hrow := Lib.hid (omsg_row HK.out rfl)
    clear hc_
    go_wp2_with (first | (refine wpList_load_blk rfl _ (.tmp 3) rfl gz rfl _ Hrow.out ?_))
    refine Hc_.out.mono ?_
    rintro e v2 ⟨rfl, hm, hb⟩
    clear Hc_ Hrow HM
    rw [Hag.out.2.2] at hm
    have HD_ := Lib.hid (HD.out.below hb)
    clear HD
    have HD := HD_
    have HK_ := Lib.hid (HK.out.below hb HgB.out)
    clear HK
    have HK := HK_
    have HW_ := Lib.hid (HW.out.trans hb)
    clear HW
    have HW := HW_
    have HM := Lib.hid hm
    have HB_ : Hid (B ≤ v2.heap.size) := Lib.hid (Nat.le_trans HB.out hb.size)
    clear HB
    have HB := HB_
    clear HB_ HW_ HD_ HK_ hm hb
    have hc_ := shead_B q s1 none B 1 v2 HM.out
    rw [HH1.out] at hc_
    have Hc_ := Lib.hid hc_
    clear hc_
    go_wp2_with fail
    refine Hc_.out.mono ?_
    rintro e w6 ⟨rfl, hb6⟩
    clear Hc_
    have HD_ := Lib.hid (RdP.below HD.out (hb6.mono HB.out))
    clear HD
    have HD := HD_
    clear HD_
    have HK_ := Lib.hid (HK.out.below hb6 HK.out.lt)
    clear HK
    have HK := HK_
    clear HK_
    have HM_ := Lib.hid (HM.out.below hb6)
    clear HM
    have HM := HM_
    clear HM_
    have HW_ := Lib.hid (HW.out.trans (hb6.mono HB.out))
    clear HW
    have HW := HW_
    clear HW_
    have HB_ : Hid (B ≤ w6.heap.size) := Lib.hid (Nat.le_trans HB.out hb6.size)
    clear HB
    have HB := HB_
    clear HB_ hb6
    have hc_ := ssync_B q s1 none B 1 w6 HM.out HB.out
    have Hc_ := Lib.hid hc_
    clear hc_
    go_wp2_with fail
    refine Hc_.out.mono ?_
    rintro e w7 ⟨rfl, hm, hb⟩
    clear Hc_
    have HD_ := Lib.hid (RdP.below HD.out hb)
    clear HD
    have HD := HD_
    clear HD_
    have HK_ := Lib.hid (HK.out.below hb HgB.out)
    clear HK
    have HK := HK_
    clear HK_
    have HW_ := Lib.hid (HW.out.trans hb)
    clear HW
    have HW := HW_
    clear HW_
    have HB_ : Hid (B ≤ w7.heap.size) := Lib.hid (Nat.le_trans HB.out hb.size)
    clear HB
    have HB := HB_
    clear HB_ hb
    clear HM
    have e1 : (syncG s1 none).log = s1.log := rfl
    have e2 : (syncG s1 none).safe = (syncG s1 none).log.base + ((syncG s1 none).log.revs.length : Int) := rfl
    obtain ⟨s2, hs2⟩ : ∃ s2, syncG s1 none = s2 := ⟨_, rfl⟩
    rw [hs2] at hm e1 e2
    have E1 := Lib.hid e1
    have E2 := Lib.hid e2
    clear hs2 e1 e2
    have HM := Lib.hid hm
    clear hm
    have HMo := HM
    have HBo := HB
    have hc_ := opened_B q s2 none B 1 0 0 w7 HM.out (by decide)
    have Hc_ := Lib.hid hc_
    clear hc_
    go_wp2_with fail
    refine Hc_.out.mono ?_
    rintro e w8 ⟨q2, X, g2, rfl, hm, hor, hfu, hb8⟩
    clear Hc_
    have HD_ := Lib.hid (RdP.below HD.out (hb8.mono HB.out))
    clear HD
    have HD := HD_
    clear HD_
    have HK_ := Lib.hid (HK.out.below hb8 HK.out.lt)
    clear HK
    have HK := HK_
    clear HK_
    have HM_ := Lib.hid (HM.out.below hb8)
    clear HM
    have HM := HM_
    clear HM_
    have HW_ := Lib.hid (HW.out.trans (hb8.mono HB.out))
    clear HW
    have HW := HW_
    clear HW_
    have HB_ : Hid (B ≤ w8.heap.size) := Lib.hid (Nat.le_trans HB.out hb8.size)
    clear HB
    have HB := HB_
    clear HB_ hb8
    have hm := hm.base HBo.out
    obtain ⟨k, j, hor⟩ := hor
    obtain ⟨b_, tN_, hgg⟩ := HMo.out
    have hall := hor.all hgg.inv E2.out
    rw [E1.out] at hall
    have hT2 : subT X who = (sq, NN) := by
      have := HT.out
      unfold subT at this ⊢
      rw [hall.1]; exact this
    have hh2 : X.log.base + (X.log.revs.length : Int) = hd1 := by rw [hall.2]; exact HH1.out
    have HT2 := Lib.hid hT2
    have HH2 := Lib.hid hh2
    clear hall hT2 hh2 hgg hor hfu HMo HM HBo
    have HM := Lib.hid hm
    clear hm
    have Hag2 := Lib.hid (again_of (bs := bs) Hw.out Hck.out Hp.out HT2.out)
    have hc_ := submit_B q2 X none B g2 bs who sq d Am nm cm w8 HM.out HB.out (HD.out.more HB.out)
    rw [Hag2.out.1, Hag2.out.2.1] at hc_
    have Hc_ := Lib.hid hc_
    have Hrow := Lib.hid (omsg_row HK.out rfl)
    clear hc_
    go_wp2_with (first | (refine wpList_load_blk rfl _ (.tmp 3) rfl gz rfl _ Hrow.out ?_))
    refine Hc_.out.mono ?_
    rintro e v3 ⟨rfl, hm, hb⟩
    clear Hc_ Hrow HM
    rw [Hag2.out.2.2] at hm
    have HD_ := Lib.hid (HD.out.below hb)
    clear HD
    have HD := HD_
    have HK_ := Lib.hid (HK.out.below hb HgB.out)
    clear HK
    have HK := HK_
    have HW_ := Lib.hid (HW.out.trans hb)
    clear HW
    have HW := HW_
    have HM := Lib.hid hm
    have HB_ : Hid (B ≤ v3.heap.size) := Lib.hid (Nat.le_trans HB.out hb.size)
    clear HB
    have HB := HB_
    clear HB_ HW_ HD_ HK_ hm hb
    have hc_ := shead_B q2 X none B g2 v3 HM.out
    rw [HH2.out] at hc_
    have Hc_ := Lib.hid hc_
    clear hc_
    go_wp2_with fail
    refine Hc_.out.mono ?_
    rintro e w9 ⟨rfl, hb9⟩
    clear Hc_
    have HD_ := Lib.hid (RdP.below HD.out (hb9.mono HB.out))
    clear HD
    have HD := HD_
    clear HD_
    have HK_ := Lib.hid (HK.out.below hb9 HK.out.lt)
    clear HK
    have HK := HK_
    clear HK_
    have HM_ := Lib.hid (HM.out.below hb9)
    clear HM
    have HM := HM_
    clear HM_
    have HW_ := Lib.hid (HW.out.trans (hb9.mono HB.out))
    clear HW
    have HW := HW_
    clear HW_
    have HB_ : Hid (B ≤ w9.heap.size) := Lib.hid (Nat.le_trans HB.out hb9.size)
    clear HB
    have HB := HB_
    clear HB_ hb9
    go_wp2_with fail
    go_ret
    exact ⟨rfl, Hg0.out ▸ Hal.out.trans (HW.out.mono (Nat.le_of_lt HgB.out))⟩
  · skip
    have hN0 : subN s0 bs who sq d = 0 := by unfold subN; rw [if_pos hE]
    obtain ⟨EE, hEE⟩ : ∃ EE, subE s0 bs who sq d = EE := ⟨_, rfl⟩
    rw [hEE] at hE
    have HN0 := Lib.hid hN0
    have HEE := Lib.hid hEE
    have q1 : (EE != 0) = true := by simpa using hE
    clear hN0 hEE hE
    have hc_ := submit_B q s0 none B 1 bs who sq d Am nm cm w4 HM.out HB.out (HD.out.more HB.out)
    rw [HEE.out, HN0.out] at hc_
    have Hc_ := Lib.hid hc_
    have Hrow := Lib.hid (omsg_row HK.out rfl)
    clear hc_
    go_wp2_with (first | (refine wpList_load_blk rfl _ (.tmp 3) rfl gz rfl _ Hrow.out ?_))
    refine Hc_.out.mono ?_
    rintro e v1 ⟨rfl, hm, hb⟩
    clear Hc_ Hrow HM
    skip
    have HD_ := Lib.hid (HD.out.below hb)
    clear HD
    have HD := HD_
    have HK_ := Lib.hid (HK.out.below hb HgB.out)
    clear HK
    have HK := HK_
    have HW_ := Lib.hid (HW.out.trans hb)
    clear HW
    have HW := HW_
    have HM := Lib.hid hm
    have HB_ : Hid (B ≤ v1.heap.size) := Lib.hid (Nat.le_trans HB.out hb.size)
    clear HB
    have HB := HB_
    clear HB_ HW_ HD_ HK_ hm hb
    go_wp2_with fail
    go_ret
    exact ⟨rfl, Hg0.out ▸ Hal.out.trans (HW.out.mono (Nat.le_of_lt HgB.out))⟩
end Go.Proofs.Ytmnnaemcjmiplaa
