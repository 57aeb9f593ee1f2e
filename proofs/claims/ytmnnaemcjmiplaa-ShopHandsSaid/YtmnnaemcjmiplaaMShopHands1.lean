/- An archive beside a box that was made behind its beginning: what it does leaves the box as it is. walk of scrivkeep.ShopHands. -/
import Derived.Test.YtmnnaemcjmiplaaK32
import Derived.Test.YtmnnaemcjmiplaaK34
import Derived.Test.YtmnnaemcjmiplaaK36
import Derived.Test.YtmnnaemcjmiplaaK16
namespace Go.Proofs.Ytmnnaemcjmiplaa
open Go.ChangeShapes Go.WideShapes Go.RowKit
set_option linter.unusedVariables false
set_option linter.unusedSimpArgs false
set_option maxRecDepth 100000
set_option maxHeartbeats 4000000

def ShX (w : World) (B gw : Nat) (t : TypeId) (cs : Array Value) (q : Nat) (s : Sh) (m : Option Mv) (g : Nat) : Prop :=
  ∃ (F : Nat → Prop) (b : Nat) (tN : List (Nat × Nat)), ShG w F q s m g b tN ∧ ¬ F gw ∧ (∀ k, F k → B ≤ k ∧ k < w.heap.size) ∧ Blk w gw t cs
section
variable {w w' : World} {B gw q g : Nat} {t : TypeId} {cs : Array Value} {s : Sh} {m : Option Mv}
theorem ShX.below (h : ShX w B gw t cs q s m g) (hb : Below w.heap.size w w') : ShX w' B gw t cs q s m g := by
  obtain ⟨F, b, tN, h1, h2, h3, h4⟩ := h
  exact ⟨F, b, tN, h1.below hb, h2, fun k hk => ⟨(h3 k hk).1, Nat.lt_of_lt_of_le (h3 k hk).2 hb.size⟩, h4.below hb h4.lt⟩
theorem ShX.blk (h : ShX w B gw t cs q s m g) : Blk w gw t cs := by
  obtain ⟨F, b, tN, h1, h2, h3, h4⟩ := h
  exact h4
theorem ShX.sh (h : ShX w B gw t cs q s m g) : ShB w 0 q s m g := by
  obtain ⟨F, b, tN, h1, h2, h3, h4⟩ := h
  exact ShB.of h1 (fun _ _ => Nat.zero_le _)
theorem ShX.of {Z : Nat} {b : Nat} {tN : List (Nat × Nat)} (h : ShG w (fun k => B ≤ k ∧ k < Z) q s m g b tN) (hk : Blk w gw t cs) (hZ : Z ≤ gw) : ShX w B gw t cs q s m g :=
  ⟨_, b, tN, h, fun hh => by have hh : B ≤ gw ∧ gw < Z := hh; omega, fun k hk => ⟨hk.1, h.mem.lt k hk⟩, hk⟩
theorem ShX.turn {F : Nat → Prop} {b : Nat} {tN : List (Nat × Nat)} {s' : Sh} {m' : Option Mv} {g' : Nat} (hB : B ≤ w.heap.size) (h2 : ¬ F gw) (h3 : ∀ k, F k → B ≤ k ∧ k < w.heap.size) (h4 : Blk w gw t cs) (h : ShG w' (grow F w w') q s' m' g' b tN) (ho : Only w w' F) : ShX w' B gw t cs q s' m' g' := by
  refine ⟨_, b, tN, h, ?_, ?_, h4.only ho h2⟩
  · rintro (hh | hh)
    · exact h2 hh
    · have := h4.lt; omega
  · rintro k (hk | hk)
    · exact ⟨(h3 k hk).1, Nat.lt_of_lt_of_le (h3 k hk).2 ho.2.2.2.1⟩
    · exact ⟨by omega, hk.2⟩
end
theorem StepR.toB {w : World} {F : Nat → Prop} {q : Nat} {s s' : Sh} {m m' : Option Mv} {g g' b b' : Nat} {tN : List (Nat × Nat)} (h : ShG w F q s m g b tN) (hr : StepR s m g b s' m' g' b') : StepB s m g s' m' g' := by
  rcases hr with ⟨a1, a2, a3, a4, a5, a6, a7, a8, a9⟩ | ⟨fl, cp, wh, a1, a2, a3, a4, a5, a6, a7, a8⟩ | ⟨fl, cp, k, good, a1, a2, a3, a4, a5, a6, a7, a8, a9, a10, a11, a12⟩
  · exact .inl ⟨a1, a2, a3, a4, a5, a6, a7, a8⟩
  · exact .inr (.inl ⟨fl, cp, wh, a1, a2, a3, a4, a5, a6, a8⟩)
  · refine .inr (.inr ⟨fl, cp, k, a1, a2, a3, by rw [h.inv.log.eb]; exact a4, a5, a6, a7, ?_, ?_, ?_, ?_, a9, a10, a11⟩)
    · rw [a8, a4]
      show ((b + k : Nat) : Int) = _
      omega
    · rw [a8]; rfl
    · rw [a8]; rfl
    · rw [a8]; exact h.inv.log.move_tb k a5 good
section
variable {B gw : Nat} {t : TypeId} {cs : Array Value}
theorem sstep_X (q : Nat) (s : Sh) (m : Option Mv) (g : Nat) (w : World) (h : ShX w B gw t cs q s m g) (hB : B ≤ w.heap.size) (hg2 : g + 2 ≤ 2147483647) (hgo : m ≠ none ∨ s.old = true) :
    Calls Try.prog 26 #[.pointer (some ⟨q, 0, none⟩)] w fun e w' => e = .returned (.bool true) ∧ ∃ s' m' g', ShX w' B gw t cs q s' m' g' ∧ Below B w w' ∧ StepB s m g s' m' g' := by
  obtain ⟨F, b, tN, h1, h2, h3, h4⟩ := h
  refine (sstep_M q s m _ g b tN w h1 hg2 hgo).mono ?_
  rintro e w' ⟨rfl, s', m', g', b', tN', h', oo, hr⟩
  exact ⟨rfl, s', m', g', ShX.turn hB h2 h3 h4 h' oo, oo.below hB (fun k hk => (h3 k hk).1), StepR.toB h1 hr⟩
theorem skeep_X (q : Nat) (s : Sh) (g : Nat) (r : Int) (k : Nat) (w : World) (h : ShX w B gw t cs q s none g) (hB : B ≤ w.heap.size) (ho : s.old = false) (hrk : r = s.log.base + (k : Int)) (hk : k ≤ s.log.revs.length) :
    Calls Try.prog 24 #[.pointer (some ⟨q, 0, none⟩), .int .i64 r] w fun e w' => e = .returned (.int .i64 0) ∧ ShX w' B gw t cs q s (some (r, -1, false)) g ∧ Below B w w' := by
  obtain ⟨F, b, tN, h1, h2, h3, h4⟩ := h
  refine (skeep_M q s _ g b tN r k w h1 ho hrk hk).mono ?_
  rintro e w' ⟨rfl, h', oo⟩
  exact ⟨rfl, ShX.turn hB h2 h3 h4 h' oo, oo.below hB (fun k hk => (h3 k hk).1)⟩
theorem ssync_X (q : Nat) (s : Sh) (m : Option Mv) (g : Nat) (w : World) (h : ShX w B gw t cs q s m g) (hB : B ≤ w.heap.size) :
    Calls Try.prog 23 #[.pointer (some ⟨q, 0, none⟩)] w fun e w' => e = .returned (.tuple #[]) ∧ ShX w' B gw t cs q (syncG s m) m g ∧ Below B w w' := by
  obtain ⟨F, b, tN, h1, h2, h3, h4⟩ := h
  refine (ssync_G q s m _ g b tN w h1).mono ?_
  rintro e w' ⟨rfl, h', oo⟩
  exact ⟨rfl, ShX.turn hB h2 h3 h4 h' oo, oo.below hB (fun k hk => (h3 k hk).1)⟩
end
/-- while there is but one move -/
def OneX (m : Option Mv) (g : Nat) : Prop := (m ≠ none → g = 1) ∧ g ≤ 2
theorem OneX.step {s s' : Sh} {m m' : Option Mv} {g g' : Nat} (hj : OneX m g) (hs : StepB s m g s' m' g') : OneX m' g' := by
  rcases hs with ⟨rfl, _, rfl, _, _, _, _, rfl⟩ | ⟨fl, cp, wh, rfl, _, _, _, _, rfl, _⟩ | ⟨fl, cp, k, rfl, _, _, _, _, rfl, _, _, _, _, _, _, _, rfl⟩
  · exact hj
  · exact ⟨fun _ => hj.1 (by simp), hj.2⟩
  · have := hj.1 (by simp)
    exact ⟨fun h => absurd rfl h, by omega⟩
/-- a step leaves the table and the head -/
theorem StepB.same {s s' : Sh} {m m' : Option Mv} {g g' : Nat} (hs : StepB s m g s' m' g') : s'.log.table = s.log.table ∧ s'.log.base + (s'.log.revs.length : Int) = s.log.base + (s.log.revs.length : Int) := by
  rcases hs with ⟨_, _, _, _, e, _⟩ | ⟨_, _, _, _, e, _⟩ | ⟨fl, cp, k, _, _, _, e1, e2, _, _, e3, _, e4, e5, _⟩
  · rw [e]; exact ⟨rfl, rfl⟩
  · rw [e]; exact ⟨rfl, rfl⟩
  · refine ⟨e5, ?_⟩
    rw [e3, e4, e1, List.length_drop]
    omega
end Go.Proofs.Ytmnnaemcjmiplaa
namespace Go.Proofs.Ytmnnaemcjmiplaa
open Go.ChangeShapes Go.WideShapes Go.RowKit
set_option linter.unusedVariables false
set_option linter.unusedSimpArgs false
set_option maxRecDepth 100000
set_option maxHeartbeats 4000000

def saH : Sh := addS shN (1, 1, [(2, 0, ⟨#[97]⟩)])
theorem fill_aH : fillS shN [(1, 1, [(2, 0, ⟨#[97]⟩)])] = saH := by simp only [fillS]; rw [if_pos fill_a]; rfl
theorem tab_aH : saH.log.table.getD 1 (0, 0) = (1, 1) := by decide +kernel
theorem walk_ShopHands (v : Value) (l : List Rv) (i0 : Int) (wi0 : (Lit.int .i64 i0).wf = true) (w : World) (h : IsRevs w v l) :
    Calls Try.prog 4 #[v, .int .i64 i0] w fun e w' => e = .returned (.bool true) ∧ Below w.heap.size w w' := by
  obtain ⟨A, n, c, rfl, hrd⟩ := h
  have HL := Lib.hid hrd
  clear hrd
  obtain ⟨B, hB⟩ : ∃ B, w.heap.size = B := ⟨_, rfl⟩
  have HBw := Lib.hid hB
  have HB : Hid (B ≤ w.heap.size) := Lib.hid (by omega)
  have HW : Hid (Below B w w) := Lib.hid (Below.refl _ _)
  clear hB
  go_enter Try.func4, Try.ntmps4
  have hc_ := first_any ⟨#[97]⟩ (by decide) w
  have Hc_ := Lib.hid hc_
  clear hc_
  go_wp2_with fail
  refine Hc_.out.mono ?_
  rintro e w1 ⟨Af, rfl, hrf, hb1⟩
  clear Hc_
  have HL_ := Lib.hid (RdR.step HL.out hb1)
  clear HL
  have HL := HL_
  clear HL_
  have HW_ := Lib.hid (HW.out.trans (hb1.mono HB.out))
  clear HW
  have HW := HW_
  clear HW_
  have HB_ : Hid (B ≤ w1.heap.size) := Lib.hid (Nat.le_trans HB.out hb1.size)
  clear HB
  have HB := HB_
  clear HB_ hb1
  have hal := (Below.refl w1.heap.size w1).alloc (Nat.le_refl _) (.cells #[.int .i64 1, .int .i64 1, .slice Af 1 1] 27)
  have hfi := filled_B [(1, 1, [(2, 0, ⟨#[97]⟩)])] (some ⟨w1.heap.size, 0, none⟩) 1 1 (w1.alloc (.cells #[.int .i64 1, .int .i64 1, .slice Af 1 1] 27)) (RdR.built1 w1 1 1 Af 1 1 [(2, 0, ⟨#[97]⟩)] hrf)
  rw [fill_aH] at hfi
  clear hrf
  have HL_ := Lib.hid (RdR.step HL.out hal)
  clear HL
  have HL := HL_
  clear HL_
  have HW_ := Lib.hid (HW.out.trans (hal.mono HB.out))
  clear HW
  have HW := HW_
  clear HW_
  have HB_ : Hid (B ≤ (w1.alloc (.cells #[.int .i64 1, .int .i64 1, .slice Af 1 1] 27)).heap.size) := Lib.hid (Nat.le_trans HB.out hal.size)
  clear HB
  have HB := HB_
  clear HB_ hal
  have hc_ := hfi
  have Hc_ := Lib.hid hc_
  clear hc_
  go_wp2_with fail
  refine Hc_.out.mono ?_
  rintro e w2 ⟨q0, rfl, hm, hb2⟩
  clear Hc_
  have HL_ := Lib.hid (RdR.step HL.out hb2)
  clear HL
  have HL := HL_
  clear HL_
  have HW_ := Lib.hid (HW.out.trans (hb2.mono HB.out))
  clear HW
  have HW := HW_
  clear HW_
  have HB_ : Hid (B ≤ w2.heap.size) := Lib.hid (Nat.le_trans HB.out hb2.size)
  clear HB
  have HB := HB_
  clear HB_ hb2
  clear hfi
  have hm := hm.base (Nat.zero_le _)
  have H0 := Lib.hid hm
  clear hm
  have hc_ := slast_B q0 saH none 0 1 1 w2 H0.out (by omega)
  rw [tab_aH] at hc_
  simp only at hc_
  have Hc_ := Lib.hid hc_
  clear hc_
  go_wp2_with fail
  refine Hc_.out.mono ?_
  rintro e w3 ⟨rfl, hb3⟩
  clear Hc_
  have HL_ := Lib.hid (RdR.step HL.out hb3)
  clear HL
  have HL := HL_
  clear HL_
  have H0_ := Lib.hid (H0.out.below hb3)
  clear H0
  have H0 := H0_
  clear H0_
  have HW_ := Lib.hid (HW.out.trans (hb3.mono HB.out))
  clear HW
  have HW := HW_
  clear HW_
  have HB_ : Hid (B ≤ w3.heap.size) := Lib.hid (Nat.le_trans HB.out hb3.size)
  clear HB
  have HB := HB_
  clear HB_ hb3
  clear H0
  have hal := (Below.refl w3.heap.size w3).alloc (Nat.le_refl _) (.cells #[.int .i64 1, .int .i64 1] 48)
  have hkd := Blk.new w3 48 #[.int .i64 1, .int .i64 1]
  have d0 := hkd.cell 0
  have d1 := hkd.cell 1
  have ld := hkd.lt
  have HL_ := Lib.hid (RdR.step HL.out hal)
  clear HL
  have HL := HL_
  clear HL_
  have HW_ := Lib.hid (HW.out.trans (hal.mono HB.out))
  clear HW
  have HW := HW_
  clear HW_
  have HB_ : Hid (B ≤ (w3.alloc (.cells #[.int .i64 1, .int .i64 1] 48)).heap.size) := Lib.hid (Nat.le_trans HB.out hal.size)
  clear HB
  have HB := HB_
  clear HB_ hal
  have HBo := HB
  have hc_ := filled_B l A n c (w3.alloc (.cells #[.int .i64 1, .int .i64 1] 48)) HL.out
  have Hc_ := Lib.hid hc_
  clear hc_
  go_wp2_with fail
  refine Hc_.out.mono ?_
  rintro e w4 ⟨q, rfl, hm, hb4⟩
  clear Hc_
  have HL_ := Lib.hid (RdR.step HL.out hb4)
  clear HL
  have HL := HL_
  clear HL_
  have HW_ := Lib.hid (HW.out.trans (hb4.mono HB.out))
  clear HW
  have HW := HW_
  clear HW_
  have HB_ : Hid (B ≤ w4.heap.size) := Lib.hid (Nat.le_trans HB.out hb4.size)
  clear HB
  have HB := HB_
  clear HB_ hb4
  have hm := hm.base HBo.out
  clear hkd d0 d1 ld HL HBo
  have hS1 := fillS_old l shN
  have hS4 := hm.hg.len
  have h8t := hm.hg.l8.2
  have hON := hm.hg.ones
  have hI0 := (fillS_inv l shN ShI.new).log
  have hTB : (fillS shN l).log.table = tblF 0 tb0 (fillS shN l).log.revs := hI0.tb
  obtain ⟨s0, hs0⟩ : ∃ s0, fillS shN l = s0 := ⟨_, rfl⟩
  rw [hs0] at hm hS1 hS4 hI0 hTB h8t hON
  have hS2 : s0.log.base = 0 := hI0.eb
  obtain ⟨N, hN⟩ : ∃ N, s0.log.revs.length = N := ⟨_, rfl⟩
  rw [hN] at hS4
  have hN1 : N ≤ 64 := hS4
  have HOld : Hid (s0.old = false) := Lib.hid hS1
  have HBase : Hid (s0.log.base = 0) := Lib.hid hS2
  have HN := Lib.hid hN
  have HTB := Lib.hid hTB
  have H8T := Lib.hid h8t
  have HON := Lib.hid hON
  have hN0 : (0 : Int) ≤ (N : Int) := by omega
  obtain ⟨b_, tN_, hgg⟩ := hm
  obtain ⟨Zw, hZw⟩ : ∃ Zw, w4.heap.size = Zw := ⟨_, rfl⟩
  rw [hZw] at hgg
  have HZ : Hid (Zw ≤ w4.heap.size) := Lib.hid (by omega)
  clear hS1 hS2 hS4 hs0 hN hI0 hTB hZw h8t hON
  have HG := Lib.hid hgg
  clear hgg
  obtain ⟨R0, hR0⟩ : ∃ R0, s0.log.revs = R0 := ⟨_, rfl⟩
  have HR0 := Lib.hid hR0
  have HNR : Hid (R0.length = N) := Lib.hid (by rw [← hR0]; exact HN.out)
  clear hR0
  have hc_ := srevs_B q s0 none B 1 0 0 w4 (ShB.of (B := B) HG.out (fun k hk => hk.1)) (by rw [HBase.out]; rfl) (Nat.zero_le _)
  have Hc_ := Lib.hid hc_
  clear hc_
  go_wp2_with fail
  refine Hc_.out.mono ?_
  rintro e w5 ⟨⟨Aw, nw, cw⟩, ssw, rfl, how, hb5⟩
  clear Hc_
  have HG_ := Lib.hid (HG.out.below hb5)
  clear HG
  have HG := HG_
  clear HG_
  have HZ_ := Lib.hid (Nat.le_trans HZ.out (hb5.size))
  clear HZ
  have HZ := HZ_
  clear HZ_
  have HW_ := Lib.hid (HW.out.trans (hb5.mono HB.out))
  clear HW
  have HW := HW_
  clear HW_
  have HB_ : Hid (B ≤ w5.heap.size) := Lib.hid (Nat.le_trans HB.out hb5.size)
  clear HB
  have HB := HB_
  clear HB_ hb5
  rw [List.drop_zero, HR0.out] at how
  simp only at how
  obtain rfl : N = nw := by
    obtain ⟨A9, c9, e9⟩ := how.form
    injection e9 with e1 e2 e3
    rw [← HNR.out]; exact e2.symm
  have how := how.base (Nat.zero_le _)
  have hcw1 : (N : Int) ≤ (cw : Int) := by have := how.rd.caps; omega
  have hcw2 : (cw : Int) ≤ 9223372036854775807 := by have := how.rd.caps; omega
  have HWs := Lib.hid how
  clear how
  have hal := (Below.refl w5.heap.size w5).alloc (Nat.le_refl _) (.cells #[.int .i64 0, .int .i64 0, .int .i64 0, .int .i64 0, .int .i64 0, .int .i64 0, .int .i64 0, .int .i64 0, .int .i64 0, .int .i64 0, .int .i64 0, .int .i64 0, .int .i64 0, .int .i64 0, .int .i64 0, .int .i64 0] 53)
  have hkt := Blk.new w5 53 #[.int .i64 0, .int .i64 0, .int .i64 0, .int .i64 0, .int .i64 0, .int .i64 0, .int .i64 0, .int .i64 0, .int .i64 0, .int .i64 0, .int .i64 0, .int .i64 0, .int .i64 0, .int .i64 0, .int .i64 0, .int .i64 0]
  obtain ⟨gw, hgw⟩ : ∃ gw, w5.heap.size = gw := ⟨_, rfl⟩
  have HZg : Hid (Zw ≤ gw) := Lib.hid (by rw [← hgw]; exact HZ.out)
  have HBg : Hid (B ≤ gw) := Lib.hid (by rw [← hgw]; exact HB.out)
  have HG_ := Lib.hid (HG.out.below hal)
  clear HG
  have HG := HG_
  clear HG_
  have HZ_ := Lib.hid (Nat.le_trans HZ.out (hal.size))
  clear HZ
  have HZ := HZ_
  clear HZ_
  have HWs_ := Lib.hid (HWs.out.below hal)
  clear HWs
  have HWs := HWs_
  clear HWs_
  have HW_ := Lib.hid (HW.out.trans (hal.mono HB.out))
  clear HW
  have HW := HW_
  clear HW_
  have HB_ : Hid (B ≤ (w5.alloc (.cells #[.int .i64 0, .int .i64 0, .int .i64 0, .int .i64 0, .int .i64 0, .int .i64 0, .int .i64 0, .int .i64 0, .int .i64 0, .int .i64 0, .int .i64 0, .int .i64 0, .int .i64 0, .int .i64 0, .int .i64 0, .int .i64 0] 53)).heap.size) := Lib.hid (Nat.le_trans HB.out hal.size)
  clear HB
  have HB := HB_
  clear HB_ hal
  obtain ⟨U, hU⟩ : ∃ U, w5.alloc (.cells #[.int .i64 0, .int .i64 0, .int .i64 0, .int .i64 0, .int .i64 0, .int .i64 0, .int .i64 0, .int .i64 0, .int .i64 0, .int .i64 0, .int .i64 0, .int .i64 0, .int .i64 0, .int .i64 0, .int .i64 0, .int .i64 0] 53) = U := ⟨_, rfl⟩
  go_upto_region 13 with (fail)
  rw [hU] at hkt HG HZ HWs HW HB
  rw [hgw] at hkt
  have HK : Hid (Blk U gw 53 (tc (tblF 0 tb0 (R0.take 0))).toArray) := Lib.hid hkt
  clear hkt hU hgw
  go_loopw [11, 47] (fun x11 iv wr => ∃ (j : Nat), j ≤ N ∧ iv = .int .i64 j ∧ Hid (Blk wr gw 53 (tc (tblF 0 tb0 (R0.take j))).toArray) ∧ Hid (ShG wr (fun k => B ≤ k ∧ k < Zw) q s0 none 1 b_ tN_) ∧ Hid (OwnV wr 0 (.slice Aw N cw) ssw R0) ∧ Hid (Below B w wr) ∧ Hid (B ≤ wr.heap.size)) (fun _ iv _ => N - (intOf iv).toNat)
  case atStart => exact ⟨0, by omega, rfl, HK, HG, HWs, HW, HB⟩
  case round =>
    clear HK HG HWs HW HB HZ
    obtain ⟨j, hj, rfl, HK, HG, HWs, HW, HB⟩ := hrel
    by_cases hlt : j < N
    · skip
      have hjl : j < R0.length := by have := HNR.out; omega
      have htk : R0.take (j + 1) = R0.take j ++ [R0[j]] := List.take_succ_eq_append_getElem hjl
      have hjt : (R0.take j).length = j := by rw [List.length_take]; omega
      obtain ⟨b, o, A1, n1, c1, rfl, hbl, d0, d1, d2, hrd⟩ := HWs.out.rd.at_ j hlt
      have hone := one_parts (HON.out R0[j] (by rw [HR0.out]; exact List.getElem_mem hjl))
      obtain ⟨f, hf⟩ : ∃ f, R0[j] = f := ⟨_, rfl⟩
      rw [hf] at htk d0 d1 hone
      obtain ⟨ra, rb, d⟩ := f
      simp only at d0 d1 d2 hone
      obtain ⟨x, rfl⟩ := Int.eq_ofNat_of_zero_le hone.1
      have hx8 : x < 8 := by omega
      obtain ⟨TT, hTT⟩ : ∃ TT, tblF 0 tb0 (R0.take j) = TT := ⟨_, rfl⟩
      have hT8 : TT.length = 8 := by rw [← hTT, tblF_len]; rfl
      have htn : tblF 0 tb0 (R0.take (j + 1)) = TT.set x (rb, (j : Int) + 1) := by rw [htk, tblF_snoc, hTT, hjt]; simp only [Int.toNat_natCast]; congr 2; omega
      rw [hTT] at HK
      have Htn := Lib.hid htn
      have hj0 : (0 : Int) ≤ (j : Int) := by omega
      have hjk : (j : Int) < (N : Int) := by omega
      clear hrd htk hjt hone hf hTT htn hjl
      go_upto_region 15 with (fail)
      have kz := Blk.new wr 27 #[.int .i64 x, .int .i64 rb, .slice A1 n1 c1]
      have hal := (Below.refl wr.heap.size wr).alloc (Nat.le_refl _) (.cells #[.int .i64 x, .int .i64 rb, .slice A1 n1 c1] 27)
      have k2U := HK.out.below hal HK.out.lt
      have hGU := HG.out.below hal
      have hWU := HWs.out.below hal
      have hBU := HW.out.trans (hal.mono HB.out)
      have hgz : gw < wr.heap.size := HK.out.lt
      obtain ⟨U, hU⟩ : ∃ U, wr.alloc (.cells #[.int .i64 x, .int .i64 rb, .slice A1 n1 c1] 27) = U := ⟨_, rfl⟩
      have hsU : B ≤ U.heap.size := by rw [← hU]; exact Nat.le_trans HB.out hal.size
      rw [hU] at kz k2U hGU hWU hBU ⊢
      obtain ⟨z, hz⟩ : ∃ z, wr.heap.size = z := ⟨_, rfl⟩
      rw [hz] at kz ⊢
      obtain ⟨t1, t2⟩ := tc_at TT x (by omega)
      obtain ⟨PP, hPP⟩ : ∃ PP, TT[x]'(by omega) = PP := ⟨_, rfl⟩
      rw [hPP] at t1 t2
      clear hPP
      have a0 := kz.cell 0
      have a1 := kz.cell 1
      have e0 := k2U.cell (x * 2)
      have e1 := k2U.cell (x * 2 + 1)
      rw [List.getElem?_toArray, t1] at e0
      rw [List.getElem?_toArray, t2] at e1
      have f0 := k2U.frozen (x * 2)
      have f1 := k2U.frozen (x * 2 + 1)
      have lz := kz.lt
      have l2' := k2U.lt
      have hx0 : (0 : Int) ≤ (x : Int) := by omega
      have hxI : (x : Int) < 8 := by omega
      have hw1 : IntKind.i64.wrap ((j : Int) + 1) = (j : Int) + 1 := IntWalk.i64_in _ (by omega)
      have hgx : gw < z := by rw [← hz]; exact hgz
      have K2U := Lib.hid k2U
      have HGU := Lib.hid hGU
      have HWU := Lib.hid hWU
      have HBU := Lib.hid hBU
      have HSU := Lib.hid hsU
      have HT8 := Lib.hid hT8
      clear HK HG HWs HW HB d0 d1 d2 hU k2U hGU hWU hBU kz t1 t2 hz hT8 hal hsU hgz
      go_wp2_with fail
      have kn := ((K2U.out).set_ (x * 2) (.int .i64 rb)).set_ (x * 2 + 1) (.int .i64 ((j : Int) + 1))
      have oo : Only U ((U.setCell ⟨gw, x * 2, none⟩ (.int .i64 rb)).setCell ⟨gw, x * 2 + 1, none⟩ (.int .i64 ((j : Int) + 1))) (fun k => k = gw) := (Only.setSelf _ gw _ _).trans (Only.setSelf _ gw _ _)
      have hgn : ShG _ (fun k => B ≤ k ∧ k < Zw) q s0 none 1 b_ tN_ := ⟨HGU.out.mem.only oo (fun k hk e => by have e : k = gw := e; have hk : B ≤ k ∧ k < Zw := hk; have := HZg.out; omega), HGU.out.inv⟩
      have hbn := (oo.below (B := B) HSU.out (fun k hk => by have hk : k = gw := hk; have := HBg.out; omega))
      have hwn := HWU.out.box K2U.out (by decide) (by decide) oo
      rw [show (((tc TT).toArray.setIfInBounds (x * 2) (Value.int IntKind.i64 rb)).setIfInBounds (x * 2 + 1) (Value.int IntKind.i64 ((j : Int) + 1))) = (tc (TT.set x (rb, (j : Int) + 1))).toArray by rw [List.setIfInBounds_toArray, List.setIfInBounds_toArray, tc_set], ← Htn.out] at kn
      go_roundw
      case rel => exact ⟨j + 1, by omega, by go_num, Lib.hid kn, Lib.hid hgn, Lib.hid hwn, Lib.hid (HBU.out.trans hbn), Lib.hid (Nat.le_trans HSU.out hbn.size)⟩
      case measure => simp [intOf]; omega
    · skip
      obtain rfl : j = N := by omega
      have hx : ShX wr B gw 53 (tc s0.log.table).toArray q s0 none 1 := ShX.of HG.out (by have k := HK.out; rw [List.take_of_length_le (by have := HNR.out; omega), ← HR0.out, ← HTB.out] at k; exact k) HZg.out
      have HX := Lib.hid hx
      clear hx HG HK HWs hj hlt
      obtain ⟨TB, hTB⟩ : ∃ TB, s0.log.table = TB := ⟨_, rfl⟩
      rw [hTB] at HX H8T
      have HTB2 := Lib.hid hTB
      clear hTB HTB HON
      have hc_ := shead_B q s0 none 0 1 wr HX.out.sh
      rw [HBase.out, HN.out, Int.zero_add] at hc_
      have Hc_ := Lib.hid hc_
      clear hc_
      go_wp2_with fail
      refine Hc_.out.mono ?_
      rintro e w6 ⟨rfl, hb6⟩
      clear Hc_
      have HX_ := Lib.hid (HX.out.below hb6)
      clear HX
      have HX := HX_
      clear HX_
      have HW_ := Lib.hid (HW.out.trans (hb6.mono HB.out))
      clear HW
      have HW := HW_
      clear HW_
      have HB_ : Hid (B ≤ w6.heap.size) := Lib.hid (Nat.le_trans HB.out hb6.size)
      clear HB
      have HB := HB_
      clear HB_ hb6
      have hc_ := within_any i0 (j + 1) w6 (by omega) (by omega)
      have hf1 := wi_lt i0 (j + 1) (by omega)
      obtain ⟨fl, hfl⟩ : ∃ fl, wi i0 (j + 1) = fl := ⟨_, rfl⟩
      rw [hfl] at hc_ hf1
      rw [show ((j + 1 : Nat) : Int) = (j : Int) + 1 by omega] at hc_
      have hf2 : fl ≤ j := by omega
      have Hc_ := Lib.hid hc_
      clear hc_ hf1 hfl
      go_wp2_with fail
      refine Hc_.out.mono ?_
      rintro e w' ⟨rfl, rfl⟩
      clear Hc_
      have hf0 : (0 : Int) ≤ (fl : Int) := by omega
      have hc_ := skeep_X q s0 1 (fl : Int) fl w6 HX.out HB.out HOld.out (by rw [HBase.out]; omega) (by rw [HN.out]; exact hf2)
      have Hc_ := Lib.hid hc_
      clear hc_
      go_wp2_with fail
      refine Hc_.out.mono ?_
      rintro e w7 ⟨rfl, hm, hb⟩
      clear Hc_
      have HW_ := Lib.hid (HW.out.trans hb)
      clear HW
      have HW := HW_
      clear HW_
      have HB_ : Hid (B ≤ w7.heap.size) := Lib.hid (Nat.le_trans HB.out hb.size)
      clear HB
      have HB := HB_
      clear HB_ hb
      clear HX
      have HX := Lib.hid hm
      clear hm
      have HJ : Hid (OneX (some ((fl : Int), -1, false)) 1) := Lib.hid ⟨fun _ => rfl, by decide⟩
      have HS : Hid (s0.log.table = TB ∧ s0.log.base + (s0.log.revs.length : Int) = (j : Int)) := Lib.hid ⟨HTB2.out, by rw [HBase.out, HN.out, Int.zero_add]⟩
      clear HTB2 HBase HOld HN HNR HR0
      go_upto_region 19 with (fail)
      go_loopw [] (fun wr => ∃ (s : Sh) (m : Option Mv) (g : Nat), Hid (ShX wr B gw 53 (tc TB).toArray q s m g) ∧ Hid (OneX m g) ∧ Hid (s.log.table = TB ∧ s.log.base + (s.log.revs.length : Int) = (j : Int)) ∧ Hid (Below B w wr) ∧ Hid (B ≤ wr.heap.size)) (fun wr => muW wr q)
      case atStart => exact ⟨s0, _, 1, HX, HJ, HS, HW, HB⟩
      case round =>
        clear HX HJ HS HW HB
        obtain ⟨s, m, g, HX, HJ, HS, HW, HB⟩ := hrel
        have hmu := Lib.hid HX.out.sh.mu
        by_cases hgo : m ≠ none ∨ s.old = true
        · skip
          have hc_ := sstep_X q s m g wr HX.out HB.out (by have := HJ.out.2; omega) hgo
          have Hc_ := Lib.hid hc_
          clear hc_
          go_wp2_with fail
          refine Hc_.out.mono ?_
          rintro e w8 ⟨rfl, s', m', g', hm, hb, hst⟩
          clear Hc_
          have HW_ := Lib.hid (HW.out.trans hb)
          clear HW
          have HW := HW_
          clear HW_
          have HB_ : Hid (B ≤ w8.heap.size) := Lib.hid (Nat.le_trans HB.out hb.size)
          clear HB
          have HB := HB_
          clear HB_ hb
          clear HX
          have HX := Lib.hid hm
          clear hm
          have HJ1 := Lib.hid (HJ.out.step hst)
          have Hst := Lib.hid hst.mu
          have HS1 : Hid (s'.log.table = TB ∧ s'.log.base + (s'.log.revs.length : Int) = (j : Int)) := Lib.hid ⟨hst.same.1.trans HS.out.1, hst.same.2.trans HS.out.2⟩
          obtain ⟨Ba, hBa⟩ : ∃ Ba, s'.log.base = Ba := ⟨_, rfl⟩
          have HBa := Lib.hid hBa
          have hle : Ba ≤ (j : Int) := by have := HS1.out.2; omega
          have hd : decide ((j : Int) < Ba) = false := decide_eq_false (by omega)
          clear HJ HS hst hgo hBa
          have hc_ := sbase_B q s' m' 0 g' w8 HX.out.sh
          rw [HBa.out] at hc_
          have Hc_ := Lib.hid hc_
          clear hc_
          go_wp2_with fail
          refine Hc_.out.mono ?_
          rintro e w9 ⟨rfl, hb9⟩
          clear Hc_
          have HX_ := Lib.hid (HX.out.below hb9)
          clear HX
          have HX := HX_
          clear HX_
          have HW_ := Lib.hid (HW.out.trans (hb9.mono HB.out))
          clear HW
          have HW := HW_
          clear HW_
          have HB_ : Hid (B ≤ w9.heap.size) := Lib.hid (Nat.le_trans HB.out hb9.size)
          clear HB
          have HB := HB_
          clear HB_ hb9
          have hc_ := shead_B q s' m' 0 g' w9 HX.out.sh
          rw [HS1.out.2] at hc_
          have Hc_ := Lib.hid hc_
          clear hc_
          go_wp2_with fail
          refine Hc_.out.mono ?_
          rintro e w10 ⟨rfl, hb10⟩
          clear Hc_
          have HX_ := Lib.hid (HX.out.below hb10)
          clear HX
          have HX := HX_
          clear HX_
          have HW_ := Lib.hid (HW.out.trans (hb10.mono HB.out))
          clear HW
          have HW := HW_
          clear HW_
          have HB_ : Hid (B ≤ w10.heap.size) := Lib.hid (Nat.le_trans HB.out hb10.size)
          clear HB
          have HB := HB_
          clear HB_ hb10
          have hmu2 := Lib.hid HX.out.sh.mu
          go_wp2_with fail
          go_roundw
          case rel => exact ⟨s', m', g', HX, HJ1, HS1, HW, HB⟩
          case measure => show muW _ q < muW _ q; rw [hmu.out, hmu2.out]; exact Hst.out
        · skip
          have hm0 : m = none := by
            cases m with
            | none => rfl
            | some v => exact absurd (.inl (by simp)) hgo
          subst hm0
          have ho0 : s.old = false := by
            cases hx : s.old with
            | false => rfl
            | true => exact absurd (.inr hx) hgo
          have HO := Lib.hid ho0
          clear hgo ho0 hmu
          have hc_ := sstepno_B q s 0 g wr HX.out.sh HO.out
          have Hc_ := Lib.hid hc_
          clear hc_
          go_wp2_with fail
          refine Hc_.out.mono ?_
          rintro e w8 ⟨rfl, hb8⟩
          clear Hc_
          have HX_ := Lib.hid (HX.out.below hb8)
          clear HX
          have HX := HX_
          clear HX_
          have HW_ := Lib.hid (HW.out.trans (hb8.mono HB.out))
          clear HW
          have HW := HW_
          clear HW_
          have HB_ : Hid (B ≤ w8.heap.size) := Lib.hid (Nat.le_trans HB.out hb8.size)
          clear HB
          have HB := HB_
          clear HB_ hb8
          have hc_ := ssync_X q s none g w8 HX.out HB.out
          have Hc_ := Lib.hid hc_
          clear hc_
          go_wp2_with fail
          refine Hc_.out.mono ?_
          rintro e w9 ⟨rfl, hm, hb⟩
          clear Hc_
          have HW_ := Lib.hid (HW.out.trans hb)
          clear HW
          have HW := HW_
          clear HW_
          have HB_ : Hid (B ≤ w9.heap.size) := Lib.hid (Nat.le_trans HB.out hb.size)
          clear HB
          have HB := HB_
          clear HB_ hb
          clear HX
          have e1 : (syncG s none).log = s.log := rfl
          have e2 : (syncG s none).safe = (syncG s none).log.base + ((syncG s none).log.revs.length : Int) := rfl
          obtain ⟨s2, hs2⟩ : ∃ s2, syncG s none = s2 := ⟨_, rfl⟩
          rw [hs2] at hm e1 e2
          have HT2 : Hid (s2.log.table = TB) := Lib.hid (by rw [e1]; exact HS.out.1)
          have E2 := Lib.hid e2
          clear hs2 e1 e2
          have HX := Lib.hid hm
          clear hm
          have HXo := HX
          have hc_ := opened_B q s2 none 0 g 0 0 w9 HX.out.sh (by have := HJ.out.2; omega)
          have Hc_ := Lib.hid hc_
          clear hc_
          go_wp2_with fail
          refine Hc_.out.mono ?_
          rintro e w10 ⟨q2, X, g2, rfl, hm, hor, hfu, hb10⟩
          clear Hc_
          have HX_ := Lib.hid (HX.out.below hb10)
          clear HX
          have HX := HX_
          clear HX_
          have HW_ := Lib.hid (HW.out.trans (hb10.mono HB.out))
          clear HW
          have HW := HW_
          clear HW_
          have HB_ : Hid (B ≤ w10.heap.size) := Lib.hid (Nat.le_trans HB.out hb10.size)
          clear HB
          have HB := HB_
          clear HB_ hb10
          have hm := hm.base (Nat.zero_le _)
          obtain ⟨k, j', hor⟩ := hor
          obtain ⟨b_', tN_', hgg⟩ := HXo.out.sh
          have hall := (hor.all hgg.inv E2.out).1
          rw [HT2.out] at hall
          have HTX := Lib.hid hall
          clear hall hgg hor hfu HXo
          have HM := Lib.hid hm
          clear hm
          have h8 : TB.length = 8 := H8T.out
          have H8 := Lib.hid h8
          clear h8 H8T HJ HS E2 HO hf0 hf2
          go_upto_region 27 with (fail)
          go_loopw [14, 15, 16, 17, 18, 82] (fun x14 x15 x16 x17 x18 iv wr => ∃ (k : Nat), k ≤ 8 ∧ iv = .int .i64 k ∧ Hid (ShX wr B gw 53 (tc TB).toArray q s2 none g) ∧ Hid (ShB wr 0 q2 X none g2) ∧ Hid (Below B w wr) ∧ Hid (B ≤ wr.heap.size)) (fun _ _ _ _ _ iv _ => 8 - (intOf iv).toNat)
          case atStart => exact ⟨0, by omega, rfl, HX, HM, HW, HB⟩
          case round =>
            clear HX HM HW HB
            obtain ⟨k, hk, rfl, HX, HM, HW, HB⟩ := hrel
            by_cases hlt : k < 8
            · skip
              have hk0 : (0 : Int) ≤ (k : Int) := by omega
              have hk8 : (k : Int) < 8 := by omega
              obtain ⟨⟨T1, T2⟩, hT⟩ : ∃ T, TB.getD k (0, 0) = T := ⟨_, rfl⟩
              have hcell := tc_at TB k (by have := H8.out; omega)
              have hgd : TB[k]'(by have := H8.out; omega) = (T1, T2) := by rw [← hT, List.getD_eq_getElem?_getD, List.getElem?_eq_getElem (by have := H8.out; omega)]; rfl
              rw [hgd] at hcell
              have HT := Lib.hid hT
              have HCe := Lib.hid hcell
              clear hT hcell hgd
              have hc_ := slast_B q s2 none 0 g k wr HX.out.sh hlt
              rw [HT2.out, HT.out] at hc_
              simp only at hc_
              have Hc_ := Lib.hid hc_
              clear hc_
              go_wp2_with fail
              refine Hc_.out.mono ?_
              rintro e w11 ⟨rfl, hb11⟩
              clear Hc_
              have HX_ := Lib.hid (HX.out.below hb11)
              clear HX
              have HX := HX_
              clear HX_
              have HM_ := Lib.hid (HM.out.below hb11)
              clear HM
              have HM := HM_
              clear HM_
              have HW_ := Lib.hid (HW.out.trans (hb11.mono HB.out))
              clear HW
              have HW := HW_
              clear HW_
              have HB_ : Hid (B ≤ w11.heap.size) := Lib.hid (Nat.le_trans HB.out hb11.size)
              clear HB
              have HB := HB_
              clear HB_ hb11
              have hal := (Below.refl w11.heap.size w11).alloc (Nat.le_refl _) (.cells #[.int .i64 T1, .int .i64 T2] 48)
              have hkd := Blk.new w11 48 #[.int .i64 T1, .int .i64 T2]
              obtain ⟨xa, hx0⟩ : ∃ x0, w11.heap.size = x0 := ⟨_, rfl⟩
              rw [hx0] at hkd
              have HX_ := Lib.hid (HX.out.below hal)
              clear HX
              have HX := HX_
              clear HX_
              have HM_ := Lib.hid (HM.out.below hal)
              clear HM
              have HM := HM_
              clear HM_
              have HW_ := Lib.hid (HW.out.trans (hal.mono HB.out))
              clear HW
              have HW := HW_
              clear HW_
              have HB_ : Hid (B ≤ (w11.alloc (.cells #[.int .i64 T1, .int .i64 T2] 48)).heap.size) := Lib.hid (Nat.le_trans HB.out hal.size)
              clear HB
              have HB := HB_
              clear HB_ hal
              obtain ⟨Uxa, hU⟩ : ∃ U, w11.alloc (.cells #[.int .i64 T1, .int .i64 T2] 48) = U := ⟨_, rfl⟩
              rw [hU] at hkd HX HM HW HB
              have HKa := Lib.hid hkd
              go_upto_region 30 with (fail)
              clear hkd hU hx0
              have hc_ := slast_B q2 X none 0 g2 k Uxa HM.out hlt
              rw [HTX.out, HT.out] at hc_
              simp only at hc_
              have Hc_ := Lib.hid hc_
              clear hc_
              go_wp2_with fail
              refine Hc_.out.mono ?_
              rintro e w12 ⟨rfl, hb12⟩
              clear Hc_
              have HX_ := Lib.hid (HX.out.below hb12)
              clear HX
              have HX := HX_
              clear HX_
              have HM_ := Lib.hid (HM.out.below hb12)
              clear HM
              have HM := HM_
              clear HM_
              have HKa_ := Lib.hid (HKa.out.below hb12 HKa.out.lt)
              clear HKa
              have HKa := HKa_
              clear HKa_
              have HW_ := Lib.hid (HW.out.trans (hb12.mono HB.out))
              clear HW
              have HW := HW_
              clear HW_
              have HB_ : Hid (B ≤ w12.heap.size) := Lib.hid (Nat.le_trans HB.out hb12.size)
              clear HB
              have HB := HB_
              clear HB_ hb12
              have hal := (Below.refl w12.heap.size w12).alloc (Nat.le_refl _) (.cells #[.int .i64 T1, .int .i64 T2] 48)
              have hkd := Blk.new w12 48 #[.int .i64 T1, .int .i64 T2]
              obtain ⟨xb, hx0⟩ : ∃ x0, w12.heap.size = x0 := ⟨_, rfl⟩
              rw [hx0] at hkd
              have HX_ := Lib.hid (HX.out.below hal)
              clear HX
              have HX := HX_
              clear HX_
              have HM_ := Lib.hid (HM.out.below hal)
              clear HM
              have HM := HM_
              clear HM_
              have HKa_ := Lib.hid (HKa.out.below hal HKa.out.lt)
              clear HKa
              have HKa := HKa_
              clear HKa_
              have HW_ := Lib.hid (HW.out.trans (hal.mono HB.out))
              clear HW
              have HW := HW_
              clear HW_
              have HB_ : Hid (B ≤ (w12.alloc (.cells #[.int .i64 T1, .int .i64 T2] 48)).heap.size) := Lib.hid (Nat.le_trans HB.out hal.size)
              clear HB
              have HB := HB_
              clear HB_ hal
              obtain ⟨Uxb, hU⟩ : ∃ U, w12.alloc (.cells #[.int .i64 T1, .int .i64 T2] 48) = U := ⟨_, rfl⟩
              rw [hU] at hkd HX HM HW HB HKa
              have HKb := Lib.hid hkd
              go_upto_region 31 with (fail)
              clear hkd hU hx0
              have p0 := HKa.out.cell 0
              have p1 := HKa.out.cell 1
              have p2 := HKb.out.cell 0
              have p3 := HKb.out.cell 1
              have l1 := HKa.out.lt
              have l2 := HKb.out.lt
              have e0 := HX.out.blk.cell (k * 2)
              have e1 := HX.out.blk.cell (k * 2 + 1)
              rw [List.getElem?_toArray, HCe.out.1] at e0
              rw [List.getElem?_toArray, HCe.out.2] at e1
              have l3 := HX.out.blk.lt
              refine wp_region_held (S := fun w' => w'.cell? ⟨xa, 0, none⟩ = some (.int .i64 T1) ∧ w'.cell? ⟨xa, 1, none⟩ = some (.int .i64 T2) ∧ w'.cell? ⟨xb, 0, none⟩ = some (.int .i64 T1) ∧ w'.cell? ⟨xb, 1, none⟩ = some (.int .i64 T2) ∧ w'.cell? ⟨gw, k * 2, none⟩ = some (.int .i64 T1) ∧ w'.cell? ⟨gw, k * 2 + 1, none⟩ = some (.int .i64 T2)) (by kernel_rfl) ?_
              have hS : Uxb.drew.cell? ⟨xa, 0, none⟩ = some (.int .i64 T1) ∧ Uxb.drew.cell? ⟨xa, 1, none⟩ = some (.int .i64 T2) ∧ Uxb.drew.cell? ⟨xb, 0, none⟩ = some (.int .i64 T1) ∧ Uxb.drew.cell? ⟨xb, 1, none⟩ = some (.int .i64 T2) ∧ Uxb.drew.cell? ⟨gw, k * 2, none⟩ = some (.int .i64 T1) ∧ Uxb.drew.cell? ⟨gw, k * 2 + 1, none⟩ = some (.int .i64 T2) := ⟨p0, p1, p2, p3, e0, e1⟩
              change wpAnyH _ _ _ _ _ _ _ _ Uxb.drew
              refine wpAnyH_takeD 97 (i := 0) rfl rfl (by kernel_rfl) (by kernel_rfl) (by kernel_rfl) (fun _ _ _ h => h) (v := .int .i64 0) (.inl ⟨rfl, fun w' h' => by go_simp⟩) hS ?_
              simp only [Act.put, List.setIfInBounds_toArray, List.set_cons_zero, List.set_cons_succ]
              refine wpAnyH_takeD 98 (i := 1) rfl rfl (by kernel_rfl) (by kernel_rfl) (by kernel_rfl) (fun _ _ _ h => h) (v := .bool false) (.inl ⟨rfl, fun w' h' => by go_simp⟩) hS ?_
              simp only [Act.put, List.setIfInBounds_toArray, List.set_cons_zero, List.set_cons_succ]
              refine wpAnyH_takeD 99 (i := 2) rfl rfl (by kernel_rfl) (by kernel_rfl) (by kernel_rfl) (fun _ _ _ h => h) (v := .bool false) (.inl ⟨rfl, fun w' h' => by go_simp⟩) hS ?_
              simp only [Act.put, List.setIfInBounds_toArray, List.set_cons_zero, List.set_cons_succ]
              refine wpAnyH_takeD 100 (i := 3) rfl rfl (by kernel_rfl) (by kernel_rfl) (by kernel_rfl) (fun _ _ _ h => h) (v := .int .i64 0) (.inl ⟨rfl, fun w' h' => by go_simp⟩) hS ?_
              simp only [Act.put, List.setIfInBounds_toArray, List.set_cons_zero, List.set_cons_succ]
              refine wpAnyH_takeD 101 (i := 4) rfl rfl (by kernel_rfl) (by kernel_rfl) (by kernel_rfl) (fun _ _ _ h => h) (v := .bool false) (.inl ⟨rfl, fun w' h' => by go_simp⟩) hS ?_
              simp only [Act.put, List.setIfInBounds_toArray, List.set_cons_zero, List.set_cons_succ]
              refine wpAnyH_takeD 102 (i := 5) rfl rfl (by kernel_rfl) (by kernel_rfl) (by kernel_rfl) (fun _ _ _ h => h) (v := .bool false) (.inl ⟨rfl, fun w' h' => by go_simp⟩) hS ?_
              simp only [Act.put, List.setIfInBounds_toArray, List.set_cons_zero, List.set_cons_succ]
              refine wpAnyH_takeD 103 (i := 6) rfl rfl (by kernel_rfl) (by kernel_rfl) (by kernel_rfl) (fun _ _ _ h => h) (v := .bool false) (.inl ⟨rfl, fun w' h' => by go_simp⟩) hS ?_
              simp only [Act.put, List.setIfInBounds_toArray, List.set_cons_zero, List.set_cons_succ]
              refine wpAnyH_takeD 104 (i := 7) rfl rfl (by kernel_rfl) (by kernel_rfl) (by kernel_rfl) (fun _ _ _ h => h) (v := .agg #[.int .i64 T1, .int .i64 T2]) (.inl ⟨rfl, fun w' h' => by obtain ⟨h1, h2, h3, h4, h5, h6⟩ := h'; go_simp⟩) hS ?_
              simp only [Act.put, List.setIfInBounds_toArray, List.set_cons_zero, List.set_cons_succ]
              refine wpAnyH_takeD 105 (i := 8) rfl rfl (by kernel_rfl) (by kernel_rfl) (by kernel_rfl) (fun _ _ _ h => h) (v := .int .i64 k) (.inl ⟨rfl, fun w' h' => by go_simp⟩) hS ?_
              simp only [Act.put, List.setIfInBounds_toArray, List.set_cons_zero, List.set_cons_succ]
              refine wpAnyH_takeD 106 (i := 9) rfl rfl (by kernel_rfl) (by kernel_rfl) (by kernel_rfl) (fun _ _ _ h => h) (v := .pointer (some ⟨gw, k * 2, none⟩)) (.inl ⟨rfl, fun w' h' => by go_simp⟩) hS ?_
              simp only [Act.put, List.setIfInBounds_toArray, List.set_cons_zero, List.set_cons_succ]
              refine wpAnyH_takeD 107 (i := 10) rfl rfl (by kernel_rfl) (by kernel_rfl) (by kernel_rfl) (fun _ _ _ h => h) (v := .agg #[.int .i64 T1, .int .i64 T2]) (.inl ⟨rfl, fun w' h' => by obtain ⟨h1, h2, h3, h4, h5, h6⟩ := h'; go_simp⟩) hS ?_
              simp only [Act.put, List.setIfInBounds_toArray, List.set_cons_zero, List.set_cons_succ]
              refine wpAnyH_takeD 108 (i := 11) rfl rfl (by kernel_rfl) (by kernel_rfl) (by kernel_rfl) (fun _ _ _ h => h) (v := .bool false) (.inl ⟨rfl, fun w' h' => by go_simp⟩) hS ?_
              simp only [Act.put, List.setIfInBounds_toArray, List.set_cons_zero, List.set_cons_succ]
              refine wpAnyH_takeD 109 (i := 12) rfl rfl (by kernel_rfl) (by kernel_rfl) (by kernel_rfl) (fun _ _ _ h => h) (v := .bool false) (.inl ⟨rfl, fun w' h' => by go_simp⟩) hS ?_
              simp only [Act.put, List.setIfInBounds_toArray, List.set_cons_zero, List.set_cons_succ]
              refine wpAnyH_takeD 110 (i := 13) rfl rfl (by kernel_rfl) (by kernel_rfl) (by kernel_rfl) (fun _ _ _ h => h) (v := .bool false) (.inl ⟨rfl, fun w' h' => by go_simp⟩) hS ?_
              simp only [Act.put, List.setIfInBounds_toArray, List.set_cons_zero, List.set_cons_succ]
              refine wpAnyH_takeD 111 (i := 14) rfl rfl (by kernel_rfl) (by kernel_rfl) (by kernel_rfl) (fun _ _ _ h => h) (v := .agg #[.int .i64 T1, .int .i64 T2]) (.inl ⟨rfl, fun w' h' => by obtain ⟨h1, h2, h3, h4, h5, h6⟩ := h'; go_simp⟩) hS ?_
              simp only [Act.put, List.setIfInBounds_toArray, List.set_cons_zero, List.set_cons_succ]
              refine wpAnyH_takeD 112 (i := 15) rfl rfl (by kernel_rfl) (by kernel_rfl) (by kernel_rfl) (fun _ _ _ h => h) (v := .int .i64 k) (.inl ⟨rfl, fun w' h' => by go_simp⟩) hS ?_
              simp only [Act.put, List.setIfInBounds_toArray, List.set_cons_zero, List.set_cons_succ]
              refine wpAnyH_takeD 113 (i := 16) rfl rfl (by kernel_rfl) (by kernel_rfl) (by kernel_rfl) (fun _ _ _ h => h) (v := .pointer (some ⟨gw, k * 2, none⟩)) (.inl ⟨rfl, fun w' h' => by go_simp⟩) hS ?_
              simp only [Act.put, List.setIfInBounds_toArray, List.set_cons_zero, List.set_cons_succ]
              refine wpAnyH_takeD 114 (i := 17) rfl rfl (by kernel_rfl) (by kernel_rfl) (by kernel_rfl) (fun _ _ _ h => h) (v := .agg #[.int .i64 T1, .int .i64 T2]) (.inl ⟨rfl, fun w' h' => by obtain ⟨h1, h2, h3, h4, h5, h6⟩ := h'; go_simp⟩) hS ?_
              simp only [Act.put, List.setIfInBounds_toArray, List.set_cons_zero, List.set_cons_succ]
              refine wpAnyH_takeD 115 (i := 18) rfl rfl (by kernel_rfl) (by kernel_rfl) (by kernel_rfl) (fun _ _ _ h => h) (v := .bool false) (.inl ⟨rfl, fun w' h' => by go_simp⟩) hS ?_
              simp only [Act.put, List.setIfInBounds_toArray, List.set_cons_zero, List.set_cons_succ]
              refine wpAnyH_takeD 116 (i := 19) rfl rfl (by kernel_rfl) (by kernel_rfl) (by kernel_rfl) (fun _ _ _ h => h) (v := .bool false) (.inl ⟨rfl, fun w' h' => by go_simp⟩) hS ?_
              simp only [Act.put, List.setIfInBounds_toArray, List.set_cons_zero, List.set_cons_succ]
              refine wpAnyH_done (by kernel_rfl) ?_ _
              clear hS p0 p1 p2 p3 e0 e1
              go_wp2_with fail
              go_roundw
              case rel => exact ⟨k + 1, by omega, by go_num, Lib.hid (HX.out.below (Below.drew (Below.refl _ _))), Lib.hid (HM.out.below (Below.drew (Below.refl _ _))), Lib.hid (Below.drew HW.out), HB⟩
              case measure => simp [intOf]; omega
            · go_wp2_with fail
              go_ret
              exact ⟨rfl, HBw.out ▸ HW.out⟩
end Go.Proofs.Ytmnnaemcjmiplaa
