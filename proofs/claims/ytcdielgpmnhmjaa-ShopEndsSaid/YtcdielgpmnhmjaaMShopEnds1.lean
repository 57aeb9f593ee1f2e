/- walk of scrivkeep.ShopEnds. -/
import Derived.Test.YtcdielgpmnhmjaaK32
import Derived.Test.YtcdielgpmnhmjaaK16
namespace Go.Proofs.Ytcdielgpmnhmjaa
open Go.ChangeShapes Go.WideShapes Go.RowKit
set_option linter.unusedVariables false
set_option linter.unusedSimpArgs false
set_option maxRecDepth 100000
set_option maxHeartbeats 4000000

theorem run_eq_slotsE (d : Nat) (xs ys : Array Value) (w : World) : (Op.equalIn (d + 1) 36 (.agg xs) (.agg ys)).run Try.prog w = (Op.eqItems d 35 2 xs ys [0, 1]).run Try.prog w := by
  have hi : (Try.prog.info? 35).isSome = true := by kernel_rfl
  obtain ⟨i, hi⟩ := Option.isSome_iff_exists.1 hi
  have hc : Try.prog.cellsOf 35 = 2 := by kernel_rfl
  rw [run_equalIn_array w d xs ys Try.underlying36 hi, hc]
  rfl
attribute [local go_sem] run_eq_slotsE Op.eqItems
/-- one slot alone is empty -/
theorem ends_slots {s : Sh} {g b : Nat} {tN : List (Nat × Nat)} (h : ShI s none g b tN) (ho : s.old = false) : (s.d0.1.toList.isEmpty = true ∧ s.d1.1.toList.isEmpty = false) ∨ (s.d0.1.toList.isEmpty = false ∧ s.d1.1.toList.isEmpty = true) := by
  have he : Emp (slotOf s (1 - s.at_)) := by
    rcases h.oth with ⟨e, _⟩ | ⟨_, e⟩
    · rw [ho] at e; cases e
    · exact e
  obtain ⟨r1, r2, j0, e1, e2, e3, e4, e5⟩ := h.cur
  have ha := h.at1
  have x0 : (slotOf s (1 - s.at_)).1.toList.isEmpty = true := by
    rw [ByteArray.toList_eq, List.eq_nil_of_length_eq_zero he.1]; rfl
  have x1 : (slotOf s s.at_).1.toList.isEmpty = false := by
    rw [ByteArray.toList_eq, e2]
    unfold SF
    simp only [flat]
    cases hx : txF (hf g b tN s.log.text) with
    | nil => have := txF_len (hf g b tN s.log.text); rw [hx] at this; simp at this
    | cons a r => rfl
  obtain h0 | h1 : s.at_ = 0 ∨ s.at_ = 1 := by omega
  · rw [h0] at x0 x1
    exact .inr ⟨x1, x0⟩
  · rw [h1] at x0 x1
    exact .inl ⟨x0, x1⟩
theorem syncG_none (s : Sh) : syncG s none = { syncSh s s.at_ with safe := s.log.base + (s.log.revs.length : Int) } := rfl
theorem syncG_disk (s : Sh) : (syncG (syncG s none) none).d0 = (syncG s none).d0 ∧ (syncG (syncG s none) none).d1 = (syncG s none).d1 := by
  simp only [syncG_none, syncSh, dsyn]
  split <;> exact ⟨rfl, rfl⟩
def EndJ (s : Sh) (m : Option Mv) (g fl N : Nat) : Prop := s.log.base + (s.log.revs.length : Int) = (N : Int) ∧ ((∃ cp wh, m = some ((fl : Int), cp, wh) ∧ g = 1 ∧ s.log.base ≤ (fl : Int)) ∨ (m = none ∧ s.log.base = (fl : Int) ∧ g = 2))
theorem EndJ.step {s s' : Sh} {m m' : Option Mv} {g g' fl N : Nat} (h : EndJ s m g fl N) (hs : StepB s m g s' m' g') : EndJ s' m' g' fl N := by
  obtain ⟨h1, h2⟩ := h
  rcases hs with ⟨rfl, _, rfl, _, e, _, _, rfl⟩ | ⟨f, cp, wh, rfl, e, _, _, _, rfl, hx⟩ | ⟨f, cp, k, rfl, _, _, e1, e2, rfl, _, e3, e4, e5, _, _, _, rfl⟩
  · rw [EndJ, e]
    exact ⟨h1, h2⟩
  · rcases h2 with ⟨cp', wh', e', eg, hb⟩ | ⟨e', _⟩
    · injection e' with e'
      injection e' with e' _
      subst e'
      rw [EndJ, e]
      refine ⟨h1, .inl ?_⟩
      rcases hx with ⟨_, _, rfl⟩ | ⟨_, _, _, rfl⟩ | ⟨_, _, _, rfl⟩
      · exact ⟨_, _, rfl, eg, hb⟩
      · exact ⟨_, _, rfl, eg, hb⟩
      · exact ⟨_, _, rfl, eg, hb⟩
    · cases e'
  · rcases h2 with ⟨cp', wh', e', eg, hb⟩ | ⟨e', _⟩
    · injection e' with e'
      injection e' with e' _
      subst e'
      rw [EndJ, e3, e5, List.length_drop]
      exact ⟨by omega, .inr ⟨rfl, rfl, by omega⟩⟩
    · cases e'
theorem walk_ShopEnds (v : Value) (l : List Rv) (i0 : Int) (wi0 : (Lit.int .i64 i0).wf = true) (w : World) (h : IsRevs w v l) :
    Calls Try.prog 3 #[v, .int .i64 i0] w fun e w' => e = .returned (.bool true) ∧ Below w.heap.size w w' := by
  obtain ⟨A, n, c, rfl, hrd⟩ := h
  have HL := Lib.hid hrd
  clear hrd
  obtain ⟨B, hB⟩ : ∃ B, w.heap.size = B := ⟨_, rfl⟩
  have HBw := Lib.hid hB
  have HB : Hid (B ≤ w.heap.size) := Lib.hid (by omega)
  have HW : Hid (Below B w w) := Lib.hid (Below.refl _ _)
  clear hB
  go_enter Try.func3, Try.ntmps3
  have hc_ := first_any ⟨#[97]⟩ (by decide) w
  have Hc_ := Lib.hid hc_
  clear hc_
  go_wp2_with fail
  refine Hc_.out.mono ?_
  rintro e w1 ⟨Af, rfl, hrf, hb1⟩
  clear Hc_
  have HL_ := Lib.hid (RdR.step HL.out hb1)
  clear HL
  have HL := HL_
  clear HL_
  have HW_ := Lib.hid (HW.out.trans (hb1.mono HB.out))
  clear HW
  have HW := HW_
  clear HW_
  have HB_ : Hid (B ≤ w1.heap.size) := Lib.hid (Nat.le_trans HB.out hb1.size)
  clear HB
  have HB := HB_
  clear HB_ hb1
  have hal := (Below.refl w1.heap.size w1).alloc (Nat.le_refl _) (.cells #[.int .i64 1, .int .i64 1, .slice Af 1 1] 27)
  have hfi := filled_B [(1, 1, [(2, 0, ⟨#[97]⟩)])] (some ⟨w1.heap.size, 0, none⟩) 1 1 (w1.alloc (.cells #[.int .i64 1, .int .i64 1, .slice Af 1 1] 27)) (RdR.built1 w1 1 1 Af 1 1 [(2, 0, ⟨#[97]⟩)] hrf)
  clear hrf
  have HL_ := Lib.hid (RdR.step HL.out hal)
  clear HL
  have HL := HL_
  clear HL_
  have HW_ := Lib.hid (HW.out.trans (hal.mono HB.out))
  clear HW
  have HW := HW_
  clear HW_
  have HB_ : Hid (B ≤ (w1.alloc (.cells #[.int .i64 1, .int .i64 1, .slice Af 1 1] 27)).heap.size) := Lib.hid (Nat.le_trans HB.out hal.size)
  clear HB
  have HB := HB_
  clear HB_ hal
  have hc_ := hfi
  have Hc_ := Lib.hid hc_
  clear hc_
  go_wp2_with fail
  refine Hc_.out.mono ?_
  rintro e w2 ⟨q0, rfl, hm, hb2⟩
  clear Hc_
  have HL_ := Lib.hid (RdR.step HL.out hb2)
  clear HL
  have HL := HL_
  clear HL_
  have HW_ := Lib.hid (HW.out.trans (hb2.mono HB.out))
  clear HW
  have HW := HW_
  clear HW_
  have HB_ : Hid (B ≤ w2.heap.size) := Lib.hid (Nat.le_trans HB.out hb2.size)
  clear HB
  have HB := HB_
  clear HB_ hb2
  have hfa : fillS shN [(1, 1, [(2, 0, ⟨#[97]⟩)])] = addS shN (1, 1, [(2, 0, ⟨#[97]⟩)]) := by simp only [fillS]; rw [if_pos fill_a]
  rw [hfa] at hm
  clear hfi hfa
  have H0 := Lib.hid hm
  clear hm
  have hc_ := sstepno_B q0 _ _ _ w2 H0.out rfl
  have Hc_ := Lib.hid hc_
  clear hc_
  go_wp2_with fail
  refine Hc_.out.mono ?_
  rintro e w3 ⟨rfl, hb3⟩
  clear Hc_
  have HL_ := Lib.hid (RdR.step HL.out hb3)
  clear HL
  have HL := HL_
  clear HL_
  have H0_ := Lib.hid (H0.out.below hb3)
  clear H0
  have H0 := H0_
  clear H0_
  have HW_ := Lib.hid (HW.out.trans (hb3.mono HB.out))
  clear HW
  have HW := HW_
  clear HW_
  have HB_ : Hid (B ≤ w3.heap.size) := Lib.hid (Nat.le_trans HB.out hb3.size)
  clear HB
  have HB := HB_
  clear HB_ hb3
  have hc_ := ssafe_B q0 _ _ _ _ w3 H0.out
  have hz0 : (addS shN (1, 1, [(2, 0, ⟨#[97]⟩)])).safe = 0 := rfl
  rw [hz0] at hc_
  clear hz0
  have Hc_ := Lib.hid hc_
  clear hc_
  go_wp2_with fail
  refine Hc_.out.mono ?_
  rintro e w4 ⟨rfl, hb4⟩
  clear Hc_
  have HL_ := Lib.hid (RdR.step HL.out hb4)
  clear HL
  have HL := HL_
  clear HL_
  have H0_ := Lib.hid (H0.out.below hb4)
  clear H0
  have H0 := H0_
  clear H0_
  have HW_ := Lib.hid (HW.out.trans (hb4.mono HB.out))
  clear HW
  have HW := HW_
  clear HW_
  have HB_ : Hid (B ≤ w4.heap.size) := Lib.hid (Nat.le_trans HB.out hb4.size)
  clear HB
  have HB := HB_
  clear HB_ hb4
  clear H0
  have HBo := HB
  have hc_ := filled_B l A n c w4 HL.out
  have Hc_ := Lib.hid hc_
  clear hc_
  go_wp2_with fail
  refine Hc_.out.mono ?_
  rintro e w5 ⟨q, rfl, hm, hb5⟩
  clear Hc_
  have HL_ := Lib.hid (RdR.step HL.out hb5)
  clear HL
  have HL := HL_
  clear HL_
  have HW_ := Lib.hid (HW.out.trans (hb5.mono HB.out))
  clear HW
  have HW := HW_
  clear HW_
  have HB_ : Hid (B ≤ w5.heap.size) := Lib.hid (Nat.le_trans HB.out hb5.size)
  clear HB
  have HB := HB_
  clear HB_ hb5
  have hm := hm.base HBo.out
  have hS1 := fillS_old l shN
  have hS2 := base_fill l shN
  have hS4 := hm.hg.len
  obtain ⟨s0, hs0⟩ : ∃ s0, fillS shN l = s0 := ⟨_, rfl⟩
  rw [hs0] at hm hS1 hS2 hS4
  obtain ⟨N, hN⟩ : ∃ N, s0.log.revs.length = N := ⟨_, rfl⟩
  rw [hN] at hS4
  have hN1 : N ≤ 64 := hS4
  have HOld : Hid (s0.old = false) := Lib.hid hS1
  have HBase : Hid (s0.log.base = 0) := Lib.hid hS2
  have HN := Lib.hid hN
  have hN0 : (0 : Int) ≤ (N : Int) := by omega
  have HM := Lib.hid hm
  clear hm hS1 hS2 hS4 hs0 hN HL HBo
  have hc_ := shead_B q s0 none B 1 w5 HM.out
  rw [HBase.out, HN.out, Int.zero_add] at hc_
  have Hc_ := Lib.hid hc_
  clear hc_
  go_wp2_with fail
  refine Hc_.out.mono ?_
  rintro e w6 ⟨rfl, hb6⟩
  clear Hc_
  have HM_ := Lib.hid (HM.out.below hb6)
  clear HM
  have HM := HM_
  clear HM_
  have HW_ := Lib.hid (HW.out.trans (hb6.mono HB.out))
  clear HW
  have HW := HW_
  clear HW_
  have HB_ : Hid (B ≤ w6.heap.size) := Lib.hid (Nat.le_trans HB.out hb6.size)
  clear HB
  have HB := HB_
  clear HB_ hb6
  have hc_ := within_any i0 (N + 1) w6 (by omega) (by omega)
  have hf1 := wi_lt i0 (N + 1) (by omega)
  obtain ⟨fl, hfl⟩ : ∃ fl, wi i0 (N + 1) = fl := ⟨_, rfl⟩
  rw [hfl] at hc_ hf1
  rw [show ((N + 1 : Nat) : Int) = (N : Int) + 1 by omega] at hc_
  have hf2 : fl ≤ N := by omega
  have Hc_ := Lib.hid hc_
  clear hc_ hf1 hfl
  go_wp2_with fail
  refine Hc_.out.mono ?_
  rintro e w' ⟨rfl, rfl⟩
  clear Hc_
  have hc_ := sstepno_B q s0 B 1 w6 HM.out HOld.out
  have Hc_ := Lib.hid hc_
  clear hc_
  go_wp2_with fail
  refine Hc_.out.mono ?_
  rintro e w7 ⟨rfl, hb7⟩
  clear Hc_
  have HM_ := Lib.hid (HM.out.below hb7)
  clear HM
  have HM := HM_
  clear HM_
  have HW_ := Lib.hid (HW.out.trans (hb7.mono HB.out))
  clear HW
  have HW := HW_
  clear HW_
  have HB_ : Hid (B ≤ w7.heap.size) := Lib.hid (Nat.le_trans HB.out hb7.size)
  clear HB
  have HB := HB_
  clear HB_ hb7
  have hc_ := shead_B q s0 none B 1 w7 HM.out
  rw [HBase.out, HN.out, Int.zero_add] at hc_
  have Hc_ := Lib.hid hc_
  clear hc_
  go_wp2_with fail
  refine Hc_.out.mono ?_
  rintro e w8 ⟨rfl, hb8⟩
  clear Hc_
  have HM_ := Lib.hid (HM.out.below hb8)
  clear HM
  have HM := HM_
  clear HM_
  have HW_ := Lib.hid (HW.out.trans (hb8.mono HB.out))
  clear HW
  have HW := HW_
  clear HW_
  have HB_ : Hid (B ≤ w8.heap.size) := Lib.hid (Nat.le_trans HB.out hb8.size)
  clear HB
  have HB := HB_
  clear HB_ hb8
  have hc_ := skeepno_B q s0 B 1 ((N : Int) + 1) w8 HM.out HOld.out (by unfold thE; rw [HBase.out, HN.out, if_neg (by omega), if_pos (by omega)]; decide)
  rw [show thE s0.log ((N : Int) + 1) = 8 by unfold thE; rw [HBase.out, HN.out, if_neg (by omega), if_pos (by omega)]] at hc_
  have Hc_ := Lib.hid hc_
  clear hc_
  go_wp2_with fail
  refine Hc_.out.mono ?_
  rintro e w9 ⟨rfl, hb9⟩
  clear Hc_
  have HM_ := Lib.hid (HM.out.below hb9)
  clear HM
  have HM := HM_
  clear HM_
  have HW_ := Lib.hid (HW.out.trans (hb9.mono HB.out))
  clear HW
  have HW := HW_
  clear HW_
  have HB_ : Hid (B ≤ w9.heap.size) := Lib.hid (Nat.le_trans HB.out hb9.size)
  clear HB
  have HB := HB_
  clear HB_ hb9
  have hc_ := skeepno_B q s0 B 1 (-1) w9 HM.out HOld.out (by unfold thE; rw [HBase.out, if_pos (by omega)]; decide)
  rw [show thE s0.log (-1) = 9 by unfold thE; rw [HBase.out, if_pos (by omega)]] at hc_
  have Hc_ := Lib.hid hc_
  clear hc_
  go_wp2_with fail
  refine Hc_.out.mono ?_
  rintro e w10 ⟨rfl, hb10⟩
  clear Hc_
  have HM_ := Lib.hid (HM.out.below hb10)
  clear HM
  have HM := HM_
  clear HM_
  have HW_ := Lib.hid (HW.out.trans (hb10.mono HB.out))
  clear HW
  have HW := HW_
  clear HW_
  have HB_ : Hid (B ≤ w10.heap.size) := Lib.hid (Nat.le_trans HB.out hb10.size)
  clear HB
  have HB := HB_
  clear HB_ hb10
  have hf0 : (0 : Int) ≤ (fl : Int) := by omega
  have hc_ := skeep_B q s0 B 1 (fl : Int) fl w10 HM.out HB.out HOld.out (by rw [HBase.out]; omega) (by rw [HN.out]; exact hf2)
  have Hc_ := Lib.hid hc_
  clear hc_
  go_wp2_with fail
  refine Hc_.out.mono ?_
  rintro e w11 ⟨rfl, hm, hb⟩
  clear Hc_
  have HW_ := Lib.hid (HW.out.trans hb)
  clear HW
  have HW := HW_
  clear HW_
  have HB_ : Hid (B ≤ w11.heap.size) := Lib.hid (Nat.le_trans HB.out hb.size)
  clear HB
  have HB := HB_
  clear HB_ hb
  clear HM
  have HM := Lib.hid hm
  clear hm
  go_upto_region 8 with (fail)
  have HJ : Hid (EndJ s0 (some ((fl : Int), -1, false)) 1 fl N) := Lib.hid ⟨by rw [HBase.out, HN.out, Int.zero_add], .inl ⟨_, _, rfl, rfl, by rw [HBase.out]; exact hf0⟩⟩
  clear HOld HBase HN
  go_loopw [] (fun wr => ∃ (s : Sh) (m : Option Mv) (g : Nat), Hid (ShB wr B q s m g) ∧ Hid (Below B w wr) ∧ Hid (B ≤ wr.heap.size) ∧ Hid (EndJ s m g fl N)) (fun wr => muW wr q)
  case atStart => exact ⟨s0, _, 1, HM, HW, HB, HJ⟩
  case round =>
    clear HM HW HB HJ
    obtain ⟨s, m, g, HM, HW, HB, HJ⟩ := hrel
    have hmu := Lib.hid HM.out.mu
    by_cases hgo : m ≠ none ∨ s.old = true
    · skip
      have hc_ := sstep_B q s m B g wr HM.out HB.out (by have := HJ.out.2; rcases this with ⟨_, _, _, e, _⟩ | ⟨_, _, e⟩ <;> omega) hgo
      have Hc_ := Lib.hid hc_
      clear hc_
      go_wp2_with fail
      refine Hc_.out.mono ?_
      rintro e w12 ⟨rfl, s', m', g', hm, hb, hst⟩
      clear Hc_
      have HW_ := Lib.hid (HW.out.trans hb)
      clear HW
      have HW := HW_
      clear HW_
      have HB_ : Hid (B ≤ w12.heap.size) := Lib.hid (Nat.le_trans HB.out hb.size)
      clear HB
      have HB := HB_
      clear HB_ hb
      clear HM
      have HM := Lib.hid hm
      clear hm
      have HJ' := Lib.hid (HJ.out.step hst)
      have Hst := Lib.hid hst
      clear hst HJ
      obtain ⟨Bs, hBs⟩ : ∃ Bs, s'.log.base = Bs := ⟨_, rfl⟩
      have hbn : Bs ≤ (N : Int) := by have := HJ'.out.1; omega
      have HBs := Lib.hid hBs
      have hdb : decide ((N : Int) < Bs) = false := decide_eq_false (by omega)
      clear hBs
      have hc_ := sbase_B q s' m' B g' w12 HM.out
      rw [HBs.out] at hc_
      have Hc_ := Lib.hid hc_
      clear hc_
      go_wp2_with fail
      refine Hc_.out.mono ?_
      rintro e w13 ⟨rfl, hb13⟩
      clear Hc_
      have HM_ := Lib.hid (HM.out.below hb13)
      clear HM
      have HM := HM_
      clear HM_
      have HW_ := Lib.hid (HW.out.trans (hb13.mono HB.out))
      clear HW
      have HW := HW_
      clear HW_
      have HB_ : Hid (B ≤ w13.heap.size) := Lib.hid (Nat.le_trans HB.out hb13.size)
      clear HB
      have HB := HB_
      clear HB_ hb13
      have hc_ := shead_B q s' m' B g' w13 HM.out
      rw [HJ'.out.1] at hc_
      have Hc_ := Lib.hid hc_
      clear hc_
      go_wp2_with fail
      refine Hc_.out.mono ?_
      rintro e w14 ⟨rfl, hb14⟩
      clear Hc_
      have HM_ := Lib.hid (HM.out.below hb14)
      clear HM
      have HM := HM_
      clear HM_
      have HW_ := Lib.hid (HW.out.trans (hb14.mono HB.out))
      clear HW
      have HW := HW_
      clear HW_
      have HB_ : Hid (B ≤ w14.heap.size) := Lib.hid (Nat.le_trans HB.out hb14.size)
      clear HB
      have HB := HB_
      clear HB_ hb14
      go_wp2_with fail
      go_roundw
      case rel => exact ⟨s', m', g', HM, HW, HB, HJ'⟩
      case measure => rw [hmu.out, HM.out.mu]; exact Hst.out.mu
    · skip
      have hgo' : m = none ∧ s.old = false := by
        refine ⟨?_, ?_⟩
        · cases m with
          | none => rfl
          | some v => exact absurd (.inl (by simp)) hgo
        · cases hx : s.old with
          | false => rfl
          | true => exact absurd (.inr hx) hgo
      obtain ⟨rfl, ho⟩ := hgo'
      have HOld := Lib.hid ho
      have hbf : s.log.base = (fl : Int) := by rcases HJ.out.2 with ⟨_, _, e, _⟩ | ⟨_, e, _⟩; cases e; exact e
      have HBf := Lib.hid hbf
      have HNn : Hid (s.log.base + (s.log.revs.length : Int) = (N : Int)) := Lib.hid HJ.out.1
      have hes : (s.d0.1.toList.isEmpty = true ∧ s.d1.1.toList.isEmpty = false) ∨ (s.d0.1.toList.isEmpty = false ∧ s.d1.1.toList.isEmpty = true) := by
        obtain ⟨b, tN, hh⟩ := HM.out
        exact ends_slots hh.inv ho
      have Hes := Lib.hid hes
      clear ho hbf hgo hes HJ hmu
      have hc_ := sstepno_B q s B g wr HM.out HOld.out
      have Hc_ := Lib.hid hc_
      clear hc_
      go_wp2_with fail
      refine Hc_.out.mono ?_
      rintro e w12 ⟨rfl, hb12⟩
      clear Hc_
      have HM_ := Lib.hid (HM.out.below hb12)
      clear HM
      have HM := HM_
      clear HM_
      have HW_ := Lib.hid (HW.out.trans (hb12.mono HB.out))
      clear HW
      have HW := HW_
      clear HW_
      have HB_ : Hid (B ≤ w12.heap.size) := Lib.hid (Nat.le_trans HB.out hb12.size)
      clear HB
      have HB := HB_
      clear HB_ hb12
      have hc_ := ssync_B q s none B g w12 HM.out HB.out
      have Hc_ := Lib.hid hc_
      clear hc_
      go_wp2_with fail
      refine Hc_.out.mono ?_
      rintro e w13 ⟨rfl, hm, hb⟩
      clear Hc_
      have HW_ := Lib.hid (HW.out.trans hb)
      clear HW
      have HW := HW_
      clear HW_
      have HB_ : Hid (B ≤ w13.heap.size) := Lib.hid (Nat.le_trans HB.out hb.size)
      clear HB
      have HB := HB_
      clear HB_ hb
      clear HM
      have HM := Lib.hid hm
      clear hm
      obtain ⟨⟨p1, p2⟩, hp⟩ : ∃ x : Slt, (syncG s none).d0 = x := ⟨_, rfl⟩
      obtain ⟨⟨p3, p4⟩, hq⟩ : ∃ x : Slt, (syncG s none).d1 = x := ⟨_, rfl⟩
      have hes : (p1.toList.isEmpty = true ∧ p3.toList.isEmpty = false) ∨ (p1.toList.isEmpty = false ∧ p3.toList.isEmpty = true) := by
        have e1 : (syncG s none).d0.1 = s.d0.1 := by simp only [syncG_none, syncSh, dsyn]; split <;> rfl
        have e2 : (syncG s none).d1.1 = s.d1.1 := by simp only [syncG_none, syncSh, dsyn]; split <;> rfl
        rw [hp] at e1
        rw [hq] at e2
        simp only at e1 e2
        rw [e1, e2]
        exact Hes.out
      have Hp := Lib.hid hp
      have Hq := Lib.hid hq
      clear hp hq Hes
      obtain ⟨Zw, hZw⟩ : ∃ Zw, w13.heap.size = Zw := ⟨_, rfl⟩
      obtain ⟨b, tN, hgg⟩ := HM.out
      rw [hZw] at hgg
      have HZ : Hid (Zw ≤ w13.heap.size) := Lib.hid (by omega)
      have HG := Lib.hid hgg
      clear hgg hZw HM
      have hc_ := sdisk_M q (syncG s none) none _ w13 HG.out.mem
      rw [Hp.out, Hq.out] at hc_
      unfold dvl at hc_
      simp only at hc_
      have Hc_ := Lib.hid hc_
      clear hc_
      go_wp2_with fail
      refine Hc_.out.mono ?_
      rintro e w14 ⟨rfl, hb14⟩
      clear Hc_
      have HG_ := Lib.hid (HG.out.below hb14)
      clear HG
      have HG := HG_
      clear HG_
      have HZ_ := Lib.hid (Nat.le_trans HZ.out (hb14.size))
      clear HZ
      have HZ := HZ_
      clear HZ_
      have HW_ := Lib.hid (HW.out.trans (hb14.mono HB.out))
      clear HW
      have HW := HW_
      clear HW_
      have HB_ : Hid (B ≤ w14.heap.size) := Lib.hid (Nat.le_trans HB.out hb14.size)
      clear HB
      have HB := HB_
      clear HB_ hb14
      have hal := (Below.refl w14.heap.size w14).alloc (Nat.le_refl _) (.cells #[.string p1, .int .i64 p2, .string p3, .int .i64 p4] 38)
      have hkd := Blk.new w14 38 #[.string p1, .int .i64 p2, .string p3, .int .i64 p4]
      obtain ⟨x0, hx0⟩ : ∃ x0, w14.heap.size = x0 := ⟨_, rfl⟩
      have HZx : Hid (Zw ≤ x0) := Lib.hid (by rw [← hx0]; exact HZ.out)
      rw [hx0] at hkd
      have HKd := Lib.hid hkd
      have Hx0 := Lib.hid hx0
      clear hkd hx0
      have HG_ := Lib.hid (HG.out.below hal)
      clear HG
      have HG := HG_
      clear HG_
      have HZ_ := Lib.hid (Nat.le_trans HZ.out (hal.size))
      clear HZ
      have HZ := HZ_
      clear HZ_
      have HW_ := Lib.hid (HW.out.trans (hal.mono HB.out))
      clear HW
      have HW := HW_
      clear HW_
      have HB_ : Hid (B ≤ (w14.alloc (.cells #[.string p1, .int .i64 p2, .string p3, .int .i64 p4] 38)).heap.size) := Lib.hid (Nat.le_trans HB.out hal.size)
      clear HB
      have HB := HB_
      clear HB_ hal
      have hc_ := ssync_G q (syncG s none) none _ g b tN (w14.alloc (.cells #[.string p1, .int .i64 p2, .string p3, .int .i64 p4] 38)) HG.out
      have Hc_ := Lib.hid hc_
      clear hc_
      go_wp2_with fail
      rw [Hx0.out]
      refine Hc_.out.mono ?_
      rintro e v1 ⟨rfl, hm, oo⟩
      clear Hc_
      have hb := oo.below HB.out (fun k hk => hk.1)
      have HM := Lib.hid (ShB.of (B := B) hm (fun k hk => by
        rcases hk with hk | hk
        · exact hk.1
        · have := HB.out; omega))
      have HKd_ := Lib.hid (HKd.out.only oo (fun hk => by have h1 : B ≤ x0 ∧ x0 < Zw := hk; have := HZx.out; omega))
      clear HKd
      have HKd := HKd_
      have HW_ := Lib.hid (HW.out.trans hb)
      clear HW
      have HW := HW_
      have HB_ : Hid (B ≤ v1.heap.size) := Lib.hid (Nat.le_trans HB.out hb.size)
      clear HB
      have HB := HB_
      clear HB_ HW_ HKd_ HG HZ hm oo hb HZx Hx0
      have hpp : (syncG (syncG s none) none).d0 = (p1, p2) := (syncG_disk s).1.trans Hp.out
      have hqq : (syncG (syncG s none) none).d1 = (p3, p4) := (syncG_disk s).2.trans Hq.out
      obtain ⟨s2, hs2⟩ : ∃ s2, syncG (syncG s none) none = s2 := ⟨_, rfl⟩
      have hb2 : s2.log.base = (fl : Int) := by rw [← hs2]; exact HBf.out
      have hn2 : s2.log.base + (s2.log.revs.length : Int) = (N : Int) := by rw [← hs2]; exact HNn.out
      have hf2 : s2.safe = (N : Int) := by rw [← hs2]; exact HNn.out
      rw [hs2] at HM hpp hqq
      have Hp2 := Lib.hid hpp
      have Hq2 := Lib.hid hqq
      have Hb2 := Lib.hid hb2
      have Hn2 := Lib.hid hn2
      have Hf2 := Lib.hid hf2
      clear hpp hqq hs2 hb2 hn2 hf2 Hp Hq HBf HNn HOld
      have hc_ := stextno_B q s2 none B g ((fl : Int) - 1) v1 HM.out (by unfold thE; rw [Hb2.out, if_pos (by omega)]; decide)
      rw [show thE s2.log ((fl : Int) - 1) = 9 by unfold thE; rw [Hb2.out, if_pos (by omega)]] at hc_
      have Hc_ := Lib.hid hc_
      clear hc_
      go_wp2_with fail
      refine Hc_.out.mono ?_
      rintro e w15 ⟨rfl, hb15⟩
      clear Hc_
      have HM_ := Lib.hid (HM.out.below hb15)
      clear HM
      have HM := HM_
      clear HM_
      have HKd_ := Lib.hid (HKd.out.below hb15 HKd.out.lt)
      clear HKd
      have HKd := HKd_
      clear HKd_
      have HW_ := Lib.hid (HW.out.trans (hb15.mono HB.out))
      clear HW
      have HW := HW_
      clear HW_
      have HB_ : Hid (B ≤ w15.heap.size) := Lib.hid (Nat.le_trans HB.out hb15.size)
      clear HB
      have HB := HB_
      clear HB_ hb15
      have hc_ := shead_B q s2 none B g w15 HM.out
      rw [Hn2.out] at hc_
      have Hc_ := Lib.hid hc_
      clear hc_
      go_wp2_with fail
      refine Hc_.out.mono ?_
      rintro e w16 ⟨rfl, hb16⟩
      clear Hc_
      have HM_ := Lib.hid (HM.out.below hb16)
      clear HM
      have HM := HM_
      clear HM_
      have HKd_ := Lib.hid (HKd.out.below hb16 HKd.out.lt)
      clear HKd
      have HKd := HKd_
      clear HKd_
      have HW_ := Lib.hid (HW.out.trans (hb16.mono HB.out))
      clear HW
      have HW := HW_
      clear HW_
      have HB_ : Hid (B ≤ w16.heap.size) := Lib.hid (Nat.le_trans HB.out hb16.size)
      clear HB
      have HB := HB_
      clear HB_ hb16
      have hc_ := stextno_B q s2 none B g ((N : Int) + 1) w16 HM.out (by unfold thE; rw [Hn2.out, if_neg (by rw [Hb2.out]; omega), if_pos (by omega)]; decide)
      rw [show thE s2.log ((N : Int) + 1) = 8 by unfold thE; rw [Hn2.out, if_neg (by rw [Hb2.out]; omega), if_pos (by omega)]] at hc_
      have Hc_ := Lib.hid hc_
      clear hc_
      go_wp2_with fail
      refine Hc_.out.mono ?_
      rintro e w17 ⟨rfl, hb17⟩
      clear Hc_
      have HM_ := Lib.hid (HM.out.below hb17)
      clear HM
      have HM := HM_
      clear HM_
      have HKd_ := Lib.hid (HKd.out.below hb17 HKd.out.lt)
      clear HKd
      have HKd := HKd_
      clear HKd_
      have HW_ := Lib.hid (HW.out.trans (hb17.mono HB.out))
      clear HW
      have HW := HW_
      clear HW_
      have HB_ : Hid (B ≤ w17.heap.size) := Lib.hid (Nat.le_trans HB.out hb17.size)
      clear HB
      have HB := HB_
      clear HB_ hb17
      have hc_ := srevsno_B q s2 none B g ((fl : Int) - 1) w17 HM.out (by unfold thE; rw [Hb2.out, if_pos (by omega)]; decide)
      rw [show thE s2.log ((fl : Int) - 1) = 9 by unfold thE; rw [Hb2.out, if_pos (by omega)]] at hc_
      have Hc_ := Lib.hid hc_
      clear hc_
      go_wp2_with fail
      refine Hc_.out.mono ?_
      rintro e w18 ⟨rfl, hb18⟩
      clear Hc_
      have HM_ := Lib.hid (HM.out.below hb18)
      clear HM
      have HM := HM_
      clear HM_
      have HKd_ := Lib.hid (HKd.out.below hb18 HKd.out.lt)
      clear HKd
      have HKd := HKd_
      clear HKd_
      have HW_ := Lib.hid (HW.out.trans (hb18.mono HB.out))
      clear HW
      have HW := HW_
      clear HW_
      have HB_ : Hid (B ≤ w18.heap.size) := Lib.hid (Nat.le_trans HB.out hb18.size)
      clear HB
      have HB := HB_
      clear HB_ hb18
      have hc1 := fun w' (hb : Below w18.heap.size w18 w') => sdisk_B q s2 none B g w' (HM.out.below hb)
      rw [Hp2.out, Hq2.out] at hc1
      unfold dvl at hc1
      simp only at hc1
      have hc2 := fun w' (hb : Below w18.heap.size w18 w') => ssafe_B q s2 none B g w' (HM.out.below hb)
      rw [Hf2.out] at hc2
      have hc3 := fun w' (hb : Below w18.heap.size w18 w') => shead_B q s2 none B g w' (HM.out.below hb)
      rw [Hn2.out] at hc3
      have Hc1 := Lib.hid hc1
      have Hc2 := Lib.hid hc2
      have Hc3 := Lib.hid hc3
      clear hc1 hc2 hc3
      have d0 := HKd.out.cell 0
      have d1 := HKd.out.cell 1
      have d2 := HKd.out.cell 2
      have d3 := HKd.out.cell 3
      have ld := HKd.out.lt
      have KeepS := Lib.hid (fun (w' : World) (h : Below w18.heap.size w18 w') => (⟨h, by rw [h.cell ld]; exact d0, by rw [h.cell ld]; exact d1, by rw [h.cell ld]; exact d2, by rw [h.cell ld]; exact d3, Nat.lt_of_lt_of_le ld h.size⟩ : Below w18.heap.size w18 w' ∧ w'.cell? ⟨x0, 0, none⟩ = some (.string p1) ∧ w'.cell? ⟨x0, 1, none⟩ = some (.int .i64 p2) ∧ w'.cell? ⟨x0, 2, none⟩ = some (.string p3) ∧ w'.cell? ⟨x0, 3, none⟩ = some (.int .i64 p4) ∧ x0 < w'.heap.size))
      have G1 := Lib.hid (fun (w' : World) (h : Below w18.heap.size w18 w' ∧ w'.cell? ⟨x0, 0, none⟩ = some (.string p1) ∧ w'.cell? ⟨x0, 1, none⟩ = some (.int .i64 p2) ∧ w'.cell? ⟨x0, 2, none⟩ = some (.string p3) ∧ w'.cell? ⟨x0, 3, none⟩ = some (.int .i64 p4) ∧ x0 < w'.heap.size) => (Hc1.out w' h.1).mono (R' := fun e w'' => e = .returned (.agg #[.string p1, .int .i64 p2, .string p3, .int .i64 p4]) ∧ (Below w18.heap.size w18 w'' ∧ w''.cell? ⟨x0, 0, none⟩ = some (.string p1) ∧ w''.cell? ⟨x0, 1, none⟩ = some (.int .i64 p2) ∧ w''.cell? ⟨x0, 2, none⟩ = some (.string p3) ∧ w''.cell? ⟨x0, 3, none⟩ = some (.int .i64 p4) ∧ x0 < w''.heap.size)) (fun e w'' hh => ⟨hh.1, KeepS.out _ (h.1.trans (hh.2.mono h.1.size))⟩))
      have G2 := Lib.hid (fun (w' : World) (h : Below w18.heap.size w18 w' ∧ w'.cell? ⟨x0, 0, none⟩ = some (.string p1) ∧ w'.cell? ⟨x0, 1, none⟩ = some (.int .i64 p2) ∧ w'.cell? ⟨x0, 2, none⟩ = some (.string p3) ∧ w'.cell? ⟨x0, 3, none⟩ = some (.int .i64 p4) ∧ x0 < w'.heap.size) => (Hc2.out w' h.1).mono (R' := fun e w'' => e = .returned (.int .i64 (N : Int)) ∧ (Below w18.heap.size w18 w'' ∧ w''.cell? ⟨x0, 0, none⟩ = some (.string p1) ∧ w''.cell? ⟨x0, 1, none⟩ = some (.int .i64 p2) ∧ w''.cell? ⟨x0, 2, none⟩ = some (.string p3) ∧ w''.cell? ⟨x0, 3, none⟩ = some (.int .i64 p4) ∧ x0 < w''.heap.size)) (fun e w'' hh => ⟨hh.1, KeepS.out _ (h.1.trans (hh.2.mono h.1.size))⟩))
      have G3 := Lib.hid (fun (w' : World) (h : Below w18.heap.size w18 w' ∧ w'.cell? ⟨x0, 0, none⟩ = some (.string p1) ∧ w'.cell? ⟨x0, 1, none⟩ = some (.int .i64 p2) ∧ w'.cell? ⟨x0, 2, none⟩ = some (.string p3) ∧ w'.cell? ⟨x0, 3, none⟩ = some (.int .i64 p4) ∧ x0 < w'.heap.size) => (Hc3.out w' h.1).mono (R' := fun e w'' => e = .returned (.int .i64 (N : Int)) ∧ (Below w18.heap.size w18 w'' ∧ w''.cell? ⟨x0, 0, none⟩ = some (.string p1) ∧ w''.cell? ⟨x0, 1, none⟩ = some (.int .i64 p2) ∧ w''.cell? ⟨x0, 2, none⟩ = some (.string p3) ∧ w''.cell? ⟨x0, 3, none⟩ = some (.int .i64 p4) ∧ x0 < w''.heap.size)) (fun e w'' hh => ⟨hh.1, KeepS.out _ (h.1.trans (hh.2.mono h.1.size))⟩))
      go_upto_region 17 with (fail)
      have hS7 := KeepS.out w18 (Below.refl _ _)
      clear d0 d1 d2 d3 ld
      rcases hes with ⟨i1, i2⟩ | ⟨i1, i2⟩
      · skip
        go_region_held3 (fun w' => Below w18.heap.size w18 w' ∧ w'.cell? ⟨x0, 0, none⟩ = some (.string p1) ∧ w'.cell? ⟨x0, 1, none⟩ = some (.int .i64 p2) ∧ w'.cell? ⟨x0, 2, none⟩ = some (.string p3) ∧ w'.cell? ⟨x0, 3, none⟩ = some (.int .i64 p4) ∧ x0 < w'.heap.size) (first | with_reducible assumption | exact KeepS.out _ (Below.drew (Below.refl _ _)) | exact KeepS.out _ (by assumption) | exact KeepS.out _ (Below.drew (by assumption)) | (go_split_ands; exact KeepS.out _ (by assumption)))
          (first | (go_at_call 24; with_reducible refine (G1.out _ (by assumption)).mono ?_; rintro e w8 ⟨rfl, hS8⟩) | (go_at_call 18; with_reducible refine (G2.out _ (by assumption)).mono ?_; rintro e w9 ⟨rfl, hS9⟩) | (go_at_call 20; with_reducible refine (G3.out _ (by assumption)).mono ?_; rintro e wa ⟨rfl, hSa⟩))
        go_wp2_with fail
        go_ret
        exact ⟨rfl, HBw.out ▸ (HW.out.trans (hSa.1.mono HB.out))⟩
      · skip
        go_region_held3 (fun w' => Below w18.heap.size w18 w' ∧ w'.cell? ⟨x0, 0, none⟩ = some (.string p1) ∧ w'.cell? ⟨x0, 1, none⟩ = some (.int .i64 p2) ∧ w'.cell? ⟨x0, 2, none⟩ = some (.string p3) ∧ w'.cell? ⟨x0, 3, none⟩ = some (.int .i64 p4) ∧ x0 < w'.heap.size) (first | with_reducible assumption | exact KeepS.out _ (Below.drew (Below.refl _ _)) | exact KeepS.out _ (by assumption) | exact KeepS.out _ (Below.drew (by assumption)) | (go_split_ands; exact KeepS.out _ (by assumption)))
          (first | (go_at_call 24; with_reducible refine (G1.out _ (by assumption)).mono ?_; rintro e w8 ⟨rfl, hS8⟩) | (go_at_call 18; with_reducible refine (G2.out _ (by assumption)).mono ?_; rintro e w9 ⟨rfl, hS9⟩) | (go_at_call 20; with_reducible refine (G3.out _ (by assumption)).mono ?_; rintro e wa ⟨rfl, hSa⟩))
        go_wp2_with fail
        go_ret
        exact ⟨rfl, HBw.out ▸ (HW.out.trans (hSa.1.mono HB.out))⟩
end Go.Proofs.Ytcdielgpmnhmjaa
