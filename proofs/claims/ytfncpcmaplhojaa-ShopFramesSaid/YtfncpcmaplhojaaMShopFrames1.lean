/- walk of scrivkeep.ShopFrames. -/
import Derived.Test.YtfncpcmaplhojaaK31
namespace Go.Proofs.Ytfncpcmaplhojaa
open Go.ChangeShapes Go.WideShapes Go.RowKit
set_option linter.unusedVariables false
set_option linter.unusedSimpArgs false
set_option maxRecDepth 100000
set_option maxHeartbeats 4000000

theorem disk_field (a b : ByteArray) (sa sb : Int) (w : World) : (Instr.field 95 (.agg #[.string a, .int .i64 sa, .string b, .int .i64 sb]) 0).run Try.prog w = .ok (.agg #[.string a, .int .i64 sa, .string b, .int .i64 sb]) w := by kernel_rfl
theorem frames_any (a : ByteArray) (z : Int) (fs : List Fm) (hok : ∀ p ∈ fs, okF p) (hs : a.data.toList = flat fs) (hsz : a.size ≤ 1048576) (w : World) :
    Calls Try.prog 55 #[.agg #[.string a, .int .i64 z]] w fun e w' => e = .returned (.int .i64 (fs.length : Int)) ∧ Below w.heap.size w w' := by
  have hfn : fs.length ≤ 5864062014636 := by
    have h1 := flat_frames fs
    have h2 : a.data.toList.length = a.size := rfl
    rw [hs] at h2
    omega
  have hc := fun w => scan_any a fs [] hok (by rw [List.append_nil]; exact hs) gf_nil hfn (by omega) fs.length _ rfl rfl w
  obtain ⟨N, hN⟩ : ∃ N, fs.length = N := ⟨_, rfl⟩
  rw [hN] at hc ⊢
  have Hc := Lib.hid hc
  have kz := Blk.new w 92 #[.string a, .int .i64 z]
  have hal := (Below.refl w.heap.size w).alloc (Nat.le_refl _) (.cells #[.string a, .int .i64 z] 92)
  clear hc hN hfn hs hok
  go_enter Try.func55, Try.ntmps55
  go_wp2_with fail
  refine (Hc.out _).mono ?_
  rintro e w1 ⟨A, c, rfl, hr, hb⟩
  have hw := hal.trans (hb.mono hal.size)
  clear hr hb
  go_wp2_with fail
  go_ret
  exact ⟨rfl, hw⟩
/-- what a slot has comes to no more than so many frames -/
theorem ShI.frames {s : Sh} {m : Option Mv} {g b : Nat} {tN : List (Nat × Nat)} (h : ShI s m g b tN) (i : Nat) (hi : i ≤ 1) : ∃ fs, (∀ p ∈ fs, okF p) ∧ (slotOf s i).1.data.toList = flat fs ∧ fs.length ≤ 66 := by
  have hl := h.log.len
  have ha := h.at1
  by_cases e : i = s.at_
  · subst e
    obtain ⟨r1, r2, j0, e1, e2, e3, e4, e5⟩ := h.cur
    refine ⟨_, SF_ok h.log.hd r1 (some r2) (fun r hr => h.log.one r (by rw [e1]; exact List.mem_append_left _ hr)) (fun l e r hr => by injection e with e; subst e; exact h.log.one r (by rw [e1]; exact List.mem_append_right _ hr)), e2, ?_⟩
    rw [SF_len]
    rw [e1, List.length_append] at hl
    simp only
    omega
  · obtain rfl : i = 1 - s.at_ := by omega
    have ho := h.oth
    cases m with
    | none =>
      rcases ho with ⟨_, g', b', t', tx', r1, r2, a1, a2, a3, a4, a5, _⟩ | ⟨_, a1, a2⟩
      · exact ⟨_, SF_ok a1 r1 r2 a2 a3, a4, a5⟩
      · exact ⟨[], by simp, List.eq_nil_of_length_eq_zero a1, by simp⟩
    | some v =>
      obtain ⟨fl, cp, wh⟩ := v
      obtain ⟨_, k, _, hk, hx⟩ := ho
      have hd := h.log.hdK k hk h.g1
      have hone : ∀ r ∈ s.log.revs.drop k, oneE r = 0 := fun r hr => h.log.one r (List.mem_of_mem_drop hr)
      rcases hx with ⟨_, _, a1, a2⟩ | ⟨c, _, _, hc, a1, a2⟩ | ⟨c, r1, r2, j0, _, _, _, e1, e2, e3, e4, e5⟩
      · exact ⟨[], by simp, List.eq_nil_of_length_eq_zero a1, by simp⟩
      · refine ⟨_, SF_ok hd _ none (fun r hr => hone r (List.mem_of_mem_take hr)) (fun l e => by simp at e), a1, ?_⟩
        rw [SF_len, List.length_take, List.length_drop]
        simp only
        omega
      · refine ⟨_, SF_ok hd r1 (some r2) (fun r hr => hone r (by rw [e1]; exact List.mem_append_left _ hr)) (fun l e r hr => by injection e with e; subst e; exact hone r (by rw [e1]; exact List.mem_append_right _ hr)), e2, ?_⟩
        have hll := congrArg List.length e1
        rw [List.length_append, List.length_drop] at hll
        rw [SF_len]
        simp only
        omega
theorem frames_new : ∃ fs, (∀ p ∈ fs, okF p) ∧ shN.d0.1.data.toList = flat fs ∧ fs.length = 2 ∧ shN.d0.1.size ≤ 1048576 := by
  have h := ShI.new
  refine ⟨SF 1 0 tz ⟨#[]⟩ [] (some []), SF_ok h.log.hd [] (some []) (by simp) (fun l e r hr => by injection e with e; subst e; simp at hr), ?_, by simp [SF], ?_⟩
  · show (hdB 1 0 tz ⟨#[]⟩ ++ doneT).data.toList = flat (SF 1 0 tz ⟨#[]⟩ [] (some []))
    rw [SF_done, flat_app, bs_append, hdB_flat, doneT_flat]
  · have := (h.sz 0 (by omega)).1
    show (slotOf shN 0).1.size ≤ _
    omega
/-- while there is but one move -/
def OneJ (m : Option Mv) (g : Nat) : Prop := (m ≠ none → g = 1) ∧ g ≤ 2
theorem sstep_or (q : Nat) (s : Sh) (m : Option Mv) (B g : Nat) (w : World) (h : ShB w B q s m g) (hB : B ≤ w.heap.size) (hj : OneJ m g) :
    Calls Try.prog 51 #[.pointer (some ⟨q, 0, none⟩)] w fun e w' => ∃ b s' m' g', e = .returned (.bool b) ∧ ShB w' B q s' m' g' ∧ OneJ m' g' ∧ Below B w w' := by
  by_cases hgo : m ≠ none ∨ s.old = true
  · refine (sstep_B q s m B g w h hB (by have := hj.2; omega) hgo).mono ?_
    rintro e w' ⟨rfl, s', m', g', hm, hb, hs⟩
    refine ⟨true, s', m', g', rfl, hm, ?_, hb⟩
    rcases hs with ⟨rfl, _, rfl, _, _, _, _, rfl⟩ | ⟨fl, cp, wh, rfl, _, _, _, _, rfl, _⟩ | ⟨fl, cp, k, rfl, _, _, _, _, rfl, _, _, _, _, _, _, _, rfl⟩
    · exact hj
    · exact ⟨fun _ => hj.1 (by simp), hj.2⟩
    · have := hj.1 (by simp)
      exact ⟨fun h => absurd rfl h, by omega⟩
  · have hm : m = none := by
      cases m with
      | none => rfl
      | some v => exact absurd (.inl (by simp)) hgo
    subst hm
    have ho : s.old = false := by
      cases hx : s.old with
      | false => rfl
      | true => exact absurd (.inr hx) hgo
    refine (sstepno_B q s B g w h ho).mono ?_
    rintro e w' ⟨rfl, hb⟩
    exact ⟨false, s, none, g, rfl, h.below hb, hj, hb.mono hB⟩
theorem walk_ShopFrames (v : Value) (l : List Rv) (i0 : Int) (wi0 : (Lit.int .i64 i0).wf = true) (k0 : Int) (wk0 : (Lit.int .i64 k0).wf = true) (w : World) (h : IsRevs w v l) :
    Calls Try.prog 14 #[v, .int .i64 i0, .int .i64 k0] w fun e w' => e = .returned (.bool true) ∧ Below w.heap.size w w' := by
  obtain ⟨A, n, c, rfl, hrd⟩ := h
  have HL := Lib.hid hrd
  clear hrd
  obtain ⟨B, hB⟩ : ∃ B, w.heap.size = B := ⟨_, rfl⟩
  have HBw := Lib.hid hB
  have HB : Hid (B ≤ w.heap.size) := Lib.hid (by omega)
  have HW : Hid (Below B w w) := Lib.hid (Below.refl _ _)
  clear hB
  go_enter Try.func14, Try.ntmps14
  have hc_ := snew_B w
  have Hc_ := Lib.hid hc_
  clear hc_
  go_wp2_with fail
  refine Hc_.out.mono ?_
  rintro e w1 ⟨q0, rfl, hm, hb1⟩
  clear Hc_
  have HL_ := Lib.hid (RdR.step HL.out hb1)
  clear HL
  have HL := HL_
  clear HL_
  have HW_ := Lib.hid (HW.out.trans (hb1.mono HB.out))
  clear HW
  have HW := HW_
  clear HW_
  have HB_ : Hid (B ≤ w1.heap.size) := Lib.hid (Nat.le_trans HB.out hb1.size)
  clear HB
  have HB := HB_
  clear HB_ hb1
  have H0 := Lib.hid hm
  clear hm
  obtain ⟨fs0, f1, f2, f3, f4⟩ := frames_new
  obtain ⟨⟨p1, p2⟩, hp⟩ : ∃ x : Slt, shN.d0 = x := ⟨_, rfl⟩
  obtain ⟨⟨p3, p4⟩, hq⟩ : ∃ x : Slt, shN.d1 = x := ⟨_, rfl⟩
  rw [hp] at f2 f4
  simp only at f2 f4
  have Hp := Lib.hid hp
  have Hq := Lib.hid hq
  have F1 := Lib.hid f1
  have F2 := Lib.hid f2
  have F3 := Lib.hid f3
  have F4 := Lib.hid f4
  have i0_ := slot_at0 p1 p3 p2 p4
  have if_ := disk_field p1 p3 p2 p4
  clear hp hq f1 f2 f3 f4
  have hc_ := sdisk_B q0 shN none _ 1 w1 H0.out
  rw [Hp.out, Hq.out] at hc_
  unfold dvl at hc_
  simp only at hc_
  have Hc_ := Lib.hid hc_
  clear hc_
  go_wp2_with fail
  refine Hc_.out.mono ?_
  rintro e w2 ⟨rfl, hb2⟩
  clear Hc_
  have HL_ := Lib.hid (RdR.step HL.out hb2)
  clear HL
  have HL := HL_
  clear HL_
  have H0_ := Lib.hid (H0.out.below hb2)
  clear H0
  have H0 := H0_
  clear H0_
  have HW_ := Lib.hid (HW.out.trans (hb2.mono HB.out))
  clear HW
  have HW := HW_
  clear HW_
  have HB_ : Hid (B ≤ w2.heap.size) := Lib.hid (Nat.le_trans HB.out hb2.size)
  clear HB
  have HB := HB_
  clear HB_ hb2
  clear H0
  have hc_ := frames_any p1 p2 fs0 F1.out F2.out F4.out w2
  rw [F3.out] at hc_
  have Hc_ := Lib.hid hc_
  clear hc_
  go_wp2_with fail
  refine Hc_.out.mono ?_
  rintro e w3 ⟨rfl, hb3⟩
  clear Hc_
  have HL_ := Lib.hid (RdR.step HL.out hb3)
  clear HL
  have HL := HL_
  clear HL_
  have HW_ := Lib.hid (HW.out.trans (hb3.mono HB.out))
  clear HW
  have HW := HW_
  clear HW_
  have HB_ : Hid (B ≤ w3.heap.size) := Lib.hid (Nat.le_trans HB.out hb3.size)
  clear HB
  have HB := HB_
  clear HB_ hb3
  clear i0_ if_ F1 F2 F3 F4 Hp Hq
  have HBo := HB
  have hc_ := filled_B l A n c w3 HL.out
  have Hc_ := Lib.hid hc_
  clear hc_
  go_wp2_with fail
  refine Hc_.out.mono ?_
  rintro e w4 ⟨q, rfl, hm, hb4⟩
  clear Hc_
  have HL_ := Lib.hid (RdR.step HL.out hb4)
  clear HL
  have HL := HL_
  clear HL_
  have HW_ := Lib.hid (HW.out.trans (hb4.mono HB.out))
  clear HW
  have HW := HW_
  clear HW_
  have HB_ : Hid (B ≤ w4.heap.size) := Lib.hid (Nat.le_trans HB.out hb4.size)
  clear HB
  have HB := HB_
  clear HB_ hb4
  have hm := hm.base HBo.out
  have hS1 := fillS_old l shN
  have hS2 := base_fill l shN
  have hS4 := hm.hg.len
  obtain ⟨s0, hs0⟩ : ∃ s0, fillS shN l = s0 := ⟨_, rfl⟩
  rw [hs0] at hm hS1 hS2 hS4
  obtain ⟨N, hN⟩ : ∃ N, s0.log.revs.length = N := ⟨_, rfl⟩
  rw [hN] at hS4
  have hN1 : N ≤ 64 := hS4
  have HOld : Hid (s0.old = false) := Lib.hid hS1
  have HBase : Hid (s0.log.base = 0) := Lib.hid hS2
  have HN := Lib.hid hN
  have hN0 : (0 : Int) ≤ (N : Int) := by omega
  have HM := Lib.hid hm
  clear hm hS1 hS2 hS4 hs0 hN HL HBo
  have hc_ := shead_B q s0 none B 1 w4 HM.out
  rw [HBase.out, HN.out, Int.zero_add] at hc_
  have Hc_ := Lib.hid hc_
  clear hc_
  go_wp2_with fail
  refine Hc_.out.mono ?_
  rintro e w5 ⟨rfl, hb5⟩
  clear Hc_
  have HM_ := Lib.hid (HM.out.below hb5)
  clear HM
  have HM := HM_
  clear HM_
  have HW_ := Lib.hid (HW.out.trans (hb5.mono HB.out))
  clear HW
  have HW := HW_
  clear HW_
  have HB_ : Hid (B ≤ w5.heap.size) := Lib.hid (Nat.le_trans HB.out hb5.size)
  clear HB
  have HB := HB_
  clear HB_ hb5
  have hc_ := within_any i0 (N + 1) w5 (by omega) (by omega)
  have hf1 := wi_lt i0 (N + 1) (by omega)
  obtain ⟨fl, hfl⟩ : ∃ fl, wi i0 (N + 1) = fl := ⟨_, rfl⟩
  rw [hfl] at hc_ hf1
  rw [show ((N + 1 : Nat) : Int) = (N : Int) + 1 by omega] at hc_
  have hf2 : fl ≤ N := by omega
  have Hc_ := Lib.hid hc_
  clear hc_ hf1 hfl
  go_wp2_with fail
  refine Hc_.out.mono ?_
  rintro e w' ⟨rfl, rfl⟩
  clear Hc_
  have hf0 : (0 : Int) ≤ (fl : Int) := by omega
  have hc_ := skeep_B q s0 B 1 (fl : Int) fl w5 HM.out HB.out HOld.out (by rw [HBase.out]; omega) (by rw [HN.out]; exact hf2)
  have Hc_ := Lib.hid hc_
  clear hc_
  go_wp2_with fail
  refine Hc_.out.mono ?_
  rintro e w6 ⟨rfl, hm, hb⟩
  clear Hc_
  have HW_ := Lib.hid (HW.out.trans hb)
  clear HW
  have HW := HW_
  clear HW_
  have HB_ : Hid (B ≤ w6.heap.size) := Lib.hid (Nat.le_trans HB.out hb.size)
  clear HB
  have HB := HB_
  clear HB_ hb
  clear HM
  have HM := Lib.hid hm
  clear hm
  have hc_ := within_any k0 70 w6 (by omega) (by omega)
  have hf1 := wi_lt k0 70 (by omega)
  obtain ⟨M, hM⟩ : ∃ M, wi k0 70 = M := ⟨_, rfl⟩
  rw [hM] at hc_ hf1
  rw [show ((70 : Nat) : Int) = 70 by rfl] at hc_
  have Hc_ := Lib.hid hc_
  clear hc_ hM
  go_wp2_with fail
  refine Hc_.out.mono ?_
  rintro e w' ⟨rfl, rfl⟩
  clear Hc_ HOld HBase HN
  have HJ : Hid (OneJ (some ((fl : Int), -1, false)) 1) := Lib.hid ⟨fun _ => rfl, by decide⟩
  go_upto_region 8 with (fail)
  go_loopw [33] (fun iv wr => ∃ (j : Nat) (s : Sh) (m : Option Mv) (g : Nat), j ≤ M ∧ iv = .int .i64 j ∧ Hid (ShB wr B q s m g) ∧ Hid (OneJ m g) ∧ Hid (Below B w wr) ∧ Hid (B ≤ wr.heap.size)) (fun iv _ => M - (intOf iv).toNat)
  case atStart => exact ⟨0, s0, _, 1, by omega, rfl, HM, HJ, HW, HB⟩
  case round =>
    clear HM HW HB HJ
    obtain ⟨j, s, m, g, hj, rfl, HM, HJ, HW, HB⟩ := hrel
    by_cases hlt : j < M
    · skip
      have hj0 : (0 : Int) ≤ (j : Int) := by omega
      have hjM : (j : Int) < (M : Int) := by omega
      have hc_ := sstep_or q s m B g wr HM.out HB.out HJ.out
      have Hc_ := Lib.hid hc_
      clear hc_
      go_wp2_with fail
      refine Hc_.out.mono ?_
      rintro e w7 ⟨b', s', m', g', rfl, hm, hjj, hb⟩
      clear Hc_
      have HW_ := Lib.hid (HW.out.trans hb)
      clear HW
      have HW := HW_
      clear HW_
      have HB_ : Hid (B ≤ w7.heap.size) := Lib.hid (Nat.le_trans HB.out hb.size)
      clear HB
      have HB := HB_
      clear HB_ hb
      clear HM
      have HM := Lib.hid hm
      clear hm
      have HJ' := Lib.hid hjj
      clear hjj
      go_wp2_with fail
      go_roundw
      case rel => exact ⟨j + 1, s', m', g', by omega, by go_num, HM, HJ', HW, HB⟩
      case measure => simp [intOf]; omega
    · skip
      obtain rfl : j = M := by omega
      have hfr : ∀ i, i ≤ 1 → ∃ fs, (∀ p ∈ fs, okF p) ∧ (slotOf s i).1.data.toList = flat fs ∧ fs.length ≤ 66 ∧ (slotOf s i).1.size ≤ 1048576 := by
        intro i hi
        obtain ⟨b, tN, hh⟩ := HM.out
        obtain ⟨fs, a1, a2, a3⟩ := hh.inv.frames i hi
        have := (hh.inv.sz i hi).1
        exact ⟨fs, a1, a2, a3, by omega⟩
      obtain ⟨fa, a1, a2, a3, a4⟩ := hfr 0 (by omega)
      obtain ⟨fb, b1, b2, b3, b4⟩ := hfr 1 (by omega)
      obtain ⟨⟨p5, p6⟩, hp⟩ : ∃ x : Slt, s.d0 = x := ⟨_, rfl⟩
      obtain ⟨⟨p7, p8⟩, hq⟩ : ∃ x : Slt, s.d1 = x := ⟨_, rfl⟩
      have a2 : p5.data.toList = flat fa := by have e : (slotOf s 0).1 = p5 := by show s.d0.1 = p5; rw [hp]
                                               rw [e] at a2; exact a2
      have b2 : p7.data.toList = flat fb := by have e : (slotOf s 1).1 = p7 := by show s.d1.1 = p7; rw [hq]
                                               rw [e] at b2; exact b2
      have a4 : p5.size ≤ 1048576 := by have e : (slotOf s 0).1 = p5 := by show s.d0.1 = p5; rw [hp]
                                        rw [e] at a4; exact a4
      have b4 : p7.size ≤ 1048576 := by have e : (slotOf s 1).1 = p7 := by show s.d1.1 = p7; rw [hq]
                                        rw [e] at b4; exact b4
      have ga := fun w => frames_any p5 p6 fa a1 a2 a4 w
      have gb := fun w => frames_any p7 p8 fb b1 b2 b4 w
      obtain ⟨Na, hNa⟩ : ∃ Na, fa.length = Na := ⟨_, rfl⟩
      obtain ⟨Nb, hNb⟩ : ∃ Nb, fb.length = Nb := ⟨_, rfl⟩
      rw [hNa] at ga a3
      rw [hNb] at gb b3
      have Ga := Lib.hid ga
      have Gb := Lib.hid gb
      have Hp := Lib.hid hp
      have Hq := Lib.hid hq
      have hda : decide ((66 : Int) < (Na : Int)) = false := decide_eq_false (by omega)
      have hdb : decide ((66 : Int) < (Nb : Int)) = false := decide_eq_false (by omega)
      clear hfr a1 a2 a3 a4 b1 b2 b3 b4 hp hq hNa hNb ga gb
      have hc_ := sdisk_B q s m B g wr HM.out
      rw [Hp.out, Hq.out] at hc_
      unfold dvl at hc_
      simp only at hc_
      have Hc_ := Lib.hid hc_
      clear hc_
      go_wp2_with fail
      refine Hc_.out.mono ?_
      rintro e w7 ⟨rfl, hb7⟩
      clear Hc_
      have HM_ := Lib.hid (HM.out.below hb7)
      clear HM
      have HM := HM_
      clear HM_
      have HW_ := Lib.hid (HW.out.trans (hb7.mono HB.out))
      clear HW
      have HW := HW_
      clear HW_
      have HB_ : Hid (B ≤ w7.heap.size) := Lib.hid (Nat.le_trans HB.out hb7.size)
      clear HB
      have HB := HB_
      clear HB_ hb7
      clear HM
      have i0_ := slot_at0 p5 p7 p6 p8
      have i1_ := slot_at1 p5 p7 p6 p8
      have if_ := disk_field p5 p7 p6 p8
      go_upto_region 12 with (fail)
      go_loopw [9, 41] (fun bx iv wr => ∃ (k : Nat), k ≤ 2 ∧ iv = .int .i64 k ∧ Hid (Below B w wr) ∧ Hid (B ≤ wr.heap.size)) (fun _ iv _ => 2 - (intOf iv).toNat)
      case atStart => exact ⟨0, by omega, rfl, HW, HB⟩
      case round =>
        clear HW HB
        obtain ⟨k, hk, rfl, HW, HB⟩ := hrel
        rcases (show k = 0 ∨ k = 1 ∨ k = 2 by omega) with rfl | rfl | rfl
        · skip
          have hal := (Below.refl wr.heap.size wr).alloc (Nat.le_refl _) (.cells #[.string p5, .int .i64 p6] 92)
          have kz := Blk.new wr 92 #[.string p5, .int .i64 p6]
          have z0 := kz.cell 0
          have z1 := kz.cell 1
          have lz := kz.lt
          have HW_ := Lib.hid (HW.out.trans (hal.mono HB.out))
          clear HW
          have HW := HW_
          clear HW_
          have HB_ : Hid (B ≤ (wr.alloc (.cells #[.string p5, .int .i64 p6] 92)).heap.size) := Lib.hid (Nat.le_trans HB.out hal.size)
          clear HB
          have HB := HB_
          clear HB_ hal
          clear kz
          go_wp2_with fail
          refine (Ga.out _).mono ?_
          rintro e w8 ⟨rfl, hb8⟩
          clear z0 z1 lz
          have HW_ := Lib.hid (HW.out.trans (hb8.mono HB.out))
          clear HW
          have HW := HW_
          clear HW_
          have HB_ : Hid (B ≤ w8.heap.size) := Lib.hid (Nat.le_trans HB.out hb8.size)
          clear HB
          have HB := HB_
          clear HB_ hb8
          go_wp2_with fail
          go_roundw
          case rel => exact ⟨1, by omega, by go_num, HW, HB⟩
          case measure => simp [intOf]
        · skip
          have hal := (Below.refl wr.heap.size wr).alloc (Nat.le_refl _) (.cells #[.string p7, .int .i64 p8] 92)
          have kz := Blk.new wr 92 #[.string p7, .int .i64 p8]
          have z0 := kz.cell 0
          have z1 := kz.cell 1
          have lz := kz.lt
          have HW_ := Lib.hid (HW.out.trans (hal.mono HB.out))
          clear HW
          have HW := HW_
          clear HW_
          have HB_ : Hid (B ≤ (wr.alloc (.cells #[.string p7, .int .i64 p8] 92)).heap.size) := Lib.hid (Nat.le_trans HB.out hal.size)
          clear HB
          have HB := HB_
          clear HB_ hal
          clear kz
          go_wp2_with fail
          refine (Gb.out _).mono ?_
          rintro e w8 ⟨rfl, hb8⟩
          clear z0 z1 lz
          have HW_ := Lib.hid (HW.out.trans (hb8.mono HB.out))
          clear HW
          have HW := HW_
          clear HW_
          have HB_ : Hid (B ≤ w8.heap.size) := Lib.hid (Nat.le_trans HB.out hb8.size)
          clear HB
          have HB := HB_
          clear HB_ hb8
          go_wp2_with fail
          go_roundw
          case rel => exact ⟨2, by omega, by go_num, HW, HB⟩
          case measure => simp [intOf]
        · go_wp2_with fail
          go_ret
          exact ⟨rfl, HBw.out ▸ HW.out⟩
end Go.Proofs.Ytfncpcmaplhojaa
