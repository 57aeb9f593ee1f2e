/- walk of scrivkeep.ShopSafe. -/
import Derived.Test.YtmnnaemcjmiplaaMShopSafe1
import Derived.Test.YtmnnaemcjmiplaaK34
import Derived.Test.YtmnnaemcjmiplaaK36
import Derived.Test.YtmnnaemcjmiplaaK16
import Derived.Test.YtmnnaemcjmiplaaK32
import Derived.Test.YtmnnaemcjmiplaaK3
namespace Go.Proofs.Ytmnnaemcjmiplaa
open Go.ChangeShapes Go.WideShapes Go.RowKit
set_option linter.unusedVariables false
set_option linter.unusedSimpArgs false
set_option maxRecDepth 100000
set_option maxHeartbeats 4000000

theorem run_eq_slots (d : Nat) (xs ys : Array Value) (w : World) : (Op.equalIn (d + 1) 42 (.agg xs) (.agg ys)).run Try.prog w = (Op.eqItems d 41 2 xs ys [0, 1]).run Try.prog w := by
  have hi : (Try.prog.info? 41).isSome = true := by kernel_rfl
  obtain ⟨i, hi⟩ := Option.isSome_iff_exists.1 hi
  have hc : Try.prog.cellsOf 41 = 2 := by kernel_rfl
  rw [run_equalIn_array w d xs ys Try.underlying42 hi, hc]
  rfl
attribute [local go_sem] run_eq_slots Op.eqItems
def saS : Sh := addS shN (1, 1, [(2, 0, ⟨#[97]⟩)])
theorem fill_aS : fillS shN [(1, 1, [(2, 0, ⟨#[97]⟩)])] = saS := by simp only [fillS]; rw [if_pos fill_a]; rfl
theorem within_big (k : Int) (n : Nat) (w : World) (h1 : 0 < n) (h2 : (n : Int) ≤ 9223372036854775807) :
    Calls Try.prog 22 #[.int .i64 k, .int .i64 n] w fun e w' => e = .returned (.int .i64 (wi k n)) ∧ w = w' := by
  go_enter Try.func22, Try.ntmps22
  go_wp2_with fail
  go_ret
  refine ⟨?_, rfl⟩
  have h0 : 0 ≤ IntKind.u64.wrap k := by
    simp only [IntKind.wrap, IntKind.signed, IntKind.bits]
    exact Int.emod_nonneg _ (by decide)
  obtain ⟨x, hx⟩ := Int.eq_ofNat_of_zero_le h0
  have hlt : x % n < n := Nat.mod_lt _ h1
  have e : wrap64 ((IntKind.u64.wrap k).tmod n) = (wi k n : Int) := by
    unfold wi
    rw [hx, Int.toNat_natCast, show (x : Int).tmod n = ((x % n : Nat) : Int) from rfl]
    exact IntWalk.wrap64_in _ ⟨by omega, by omega⟩
  show Ending.returned (.int .i64 (wrap64 ((IntKind.u64.wrap k).tmod n))) = _
  rw [e]
theorem crash_aS : crashS saS.d0 0 = crashS shN.d0 0 := by
  have h0 : saS.d0 = (dN ++ frB (1, 1, [(2, 0, ⟨#[97]⟩)]), (dN.size : Int)) := (Sh1.new.add fill_a).2
  rw [h0]
  show crashS (dN ++ frB (1, 1, [(2, 0, ⟨#[97]⟩)]), (dN.size : Int)) 0 = crashS (dN, (dN.size : Int)) 0
  obtain ⟨F, hF⟩ : ∃ F, frB (1, 1, [(2, 0, ⟨#[97]⟩)]) = F := ⟨_, rfl⟩
  rw [hF]
  have e1 : (dN ++ F).size = dN.size + F.size := ByteArray.size_append ..
  unfold crashS
  simp only
  rw [show ((dN.size : Int) + max 0 (min 0 (((dN ++ F).size : Int) - (dN.size : Int)))) = (dN.size : Int) by omega, show ((dN.size : Int) + max 0 (min 0 ((dN.size : Int) - (dN.size : Int)))) = (dN.size : Int) by omega, Int.toNat_natCast]
  congr 1
  refine bs_ext ?_
  rw [cut_list, cut_list, bs_append, List.take_append_of_le_length (by rw [bs_len]; exact Nat.le_refl _)]
theorem crash_aS1 : crashS saS.d1 0 = crashS shN.d1 0 := by
  have h1 : saS.d1 = dzero := (Sh1.new.add fill_a).1.e1
  rw [h1]
  rfl
theorem opened_aS (q : Nat) (B : Nat) (w : World) (h : ShB w B q saS none 1) :
    Calls Try.prog 18 #[.pointer (some ⟨q, 0, none⟩), .int .i64 0, .int .i64 0] w fun e w' => ∃ q2 X g2, e = .returned (.pointer (some ⟨q2, 0, none⟩)) ∧ ShB w' w.heap.size q2 X none g2 ∧ X.log.base + (X.log.revs.length : Int) = 0 ∧ Below w.heap.size w w' := by
  obtain ⟨fs0, rest0, fs1, rest1, a, l, e1, e2, e3, e4, e5, e6, e7, e8, e9, e10, ⟨g', b', t', e11⟩, e12, e13, e14, e15⟩ := open_same ShI.new rfl rfl 0 0
  obtain ⟨b, tN, hG⟩ := h
  have z0 := hG.inv.sz 0 (by omega)
  have z1 := hG.inv.sz 1 (by omega)
  have y0 := ShI.new.sz 0 (by omega)
  have y1 := ShI.new.sz 1 (by omega)
  have hc := opened_G q saS none B 1 0 0 w ⟨b, tN, hG⟩ (dchk_sz z0 z1) (crashS shN.d0 0).1 (crashS shN.d0 0).2 (crashS shN.d1 0).1 (crashS shN.d1 0).2 crash_aS crash_aS1 fs0 fs1 rest0 rest1 (dchk_sz (crash_sz y0 0) (crash_sz y1 0)) e1 e2 e3 e4 e5 e6 e7 e8 a l e9 g' b' t' e11
  refine hc.mono ?_
  rintro e w' ⟨q2, rfl, hS, hb⟩
  refine ⟨q2, _, g', rfl, hS, ?_, hb⟩
  show l.base + (l.revs.length : Int) = 0
  rw [e14, e15]
  rfl
/-- Add, in letters -/
theorem sadd_S (q : Nat) (s : Sh) (m : Option Mv) (B g : Nat) (a c : Int) (d : List Pt) (A : Option Addr) (n cc : Nat) (w : World) (h : ShB w B q s m g) (hB : B ≤ w.heap.size) (hd : RdP w w.heap.size A n cc d) :
    Calls Try.prog 21 #[.pointer (some ⟨q, 0, none⟩), .agg #[.int .i64 a, .int .i64 c, .slice A n cc]] w fun e w' => ∃ NN EE : Int, ∃ s', e = .returned (.tuple #[.int .i64 NN, .int .i64 EE]) ∧ ShB w' B q s' m g ∧ s'.old = s.old ∧ Below B w w' := by
  refine (sadd_B q s m B g a c d A n cc w h hB hd).mono ?_
  rintro e w' ⟨rfl, h1, h2⟩
  refine ⟨_, _, _, rfl, h1, ?_, h2⟩
  unfold addG
  split
  · split <;> rfl
  · rfl
theorem sstep_S (q : Nat) (s : Sh) (m : Option Mv) (B g : Nat) (w : World) (h : ShB w B q s m g) (hB : B ≤ w.heap.size) (hj : OneX m g) :
    Calls Try.prog 26 #[.pointer (some ⟨q, 0, none⟩)] w fun e w' => ∃ b s' m' g', e = .returned (.bool b) ∧ ShB w' B q s' m' g' ∧ OneX m' g' ∧ Below B w w' := by
  by_cases hgo : m ≠ none ∨ s.old = true
  · refine (sstep_B q s m B g w h hB (by have := hj.2; omega) hgo).mono ?_
    rintro e w' ⟨rfl, s', m', g', hm, hb, hs⟩
    exact ⟨true, s', m', g', rfl, hm, hj.step hs, hb⟩
  · have hm : m = none := by
      cases m with
      | none => rfl
      | some v => exact absurd (.inl (by simp)) hgo
    subst hm
    have ho : s.old = false := by
      cases hx : s.old with
      | false => rfl
      | true => exact absurd (.inr hx) hgo
    refine (sstepno_B q s B g w h ho).mono ?_
    rintro e w' ⟨rfl, hb⟩
    exact ⟨false, s, none, g, rfl, h.below hb, hj, hb.mono hB⟩
/-- the texts that are there behind a crash -/
theorem OpenR.txt_ {s x : Sh} {k j : Nat} (h : OpenR s x k j) (i : Nat) (hi : i ≤ j) : txt x.log.text x.log.revs i = txt s.log.text s.log.revs (k + i) := by
  rw [h.text, h.revs, txt_take _ _ _ _ hi, txt_drop]
theorem OpenR.len_ {s x : Sh} {k j : Nat} (h : OpenR s x k j) : x.log.revs.length = j := by
  rw [h.revs, List.length_take, List.length_drop]
  have := h.kj
  omega
theorem walk_ShopSafe (v : Value) (l : List Rv) (i0 : Int) (wi0 : (Lit.int .i64 i0).wf = true) (i1 : Int) (wi1 : (Lit.int .i64 i1).wf = true) (i2 : Int) (wi2 : (Lit.int .i64 i2).wf = true) (v2 : Value) (l2 : List Rv) (ka : Int) (wka : (Lit.int .i64 ka).wf = true) (kb : Int) (wkb : (Lit.int .i64 kb).wf = true) (w : World) (h : IsRevs w v l) (h2 : IsRevs w v2 l2) :
    Calls Try.prog 3 #[v, .int .i64 i0, .int .i64 i1, .int .i64 i2, v2, .int .i64 ka, .int .i64 kb] w fun e w' => e = .returned (.bool true) ∧ Below w.heap.size w w' := by
  obtain ⟨A, n, c, rfl, hrd⟩ := h
  obtain ⟨A2, n2, c2, rfl, hrd2⟩ := h2
  obtain ⟨B, hB⟩ : ∃ B, w.heap.size = B := ⟨_, rfl⟩
  rw [hB] at hrd hrd2
  have HL := Lib.hid hrd
  have HM2 := Lib.hid hrd2
  clear hrd hrd2
  have HBw := Lib.hid hB
  have HB : Hid (B ≤ w.heap.size) := Lib.hid (by omega)
  have HW : Hid (Below B w w) := Lib.hid (Below.refl _ _)
  clear hB
  go_enter Try.func3, Try.ntmps3
  have hc_ := first_any ⟨#[97]⟩ (by decide) w
  have Hc_ := Lib.hid hc_
  clear hc_
  go_wp2_with fail
  refine Hc_.out.mono ?_
  rintro e w1 ⟨Af, rfl, hrf, hb1⟩
  clear Hc_
  have HL_ := Lib.hid (RdR.below HL.out (hb1.mono HB.out))
  clear HL
  have HL := HL_
  clear HL_
  have HM2_ := Lib.hid (RdR.below HM2.out (hb1.mono HB.out))
  clear HM2
  have HM2 := HM2_
  clear HM2_
  have HW_ := Lib.hid (HW.out.trans (hb1.mono HB.out))
  clear HW
  have HW := HW_
  clear HW_
  have HB_ : Hid (B ≤ w1.heap.size) := Lib.hid (Nat.le_trans HB.out hb1.size)
  clear HB
  have HB := HB_
  clear HB_ hb1
  have hal := (Below.refl w1.heap.size w1).alloc (Nat.le_refl _) (.cells #[.int .i64 1, .int .i64 1, .slice Af 1 1] 27)
  have hfi := filled_B [(1, 1, [(2, 0, ⟨#[97]⟩)])] (some ⟨w1.heap.size, 0, none⟩) 1 1 (w1.alloc (.cells #[.int .i64 1, .int .i64 1, .slice Af 1 1] 27)) (RdR.built1 w1 1 1 Af 1 1 [(2, 0, ⟨#[97]⟩)] hrf)
  rw [fill_aS] at hfi
  clear hrf
  have HL_ := Lib.hid (RdR.below HL.out (hal.mono HB.out))
  clear HL
  have HL := HL_
  clear HL_
  have HM2_ := Lib.hid (RdR.below HM2.out (hal.mono HB.out))
  clear HM2
  have HM2 := HM2_
  clear HM2_
  have HW_ := Lib.hid (HW.out.trans (hal.mono HB.out))
  clear HW
  have HW := HW_
  clear HW_
  have HB_ : Hid (B ≤ (w1.alloc (.cells #[.int .i64 1, .int .i64 1, .slice Af 1 1] 27)).heap.size) := Lib.hid (Nat.le_trans HB.out hal.size)
  clear HB
  have HB := HB_
  clear HB_ hal
  have hc_ := hfi
  have Hc_ := Lib.hid hc_
  clear hc_
  go_wp2_with fail
  refine Hc_.out.mono ?_
  rintro e w2 ⟨q0, rfl, hm, hb2⟩
  clear Hc_
  have HL_ := Lib.hid (RdR.below HL.out (hb2.mono HB.out))
  clear HL
  have HL := HL_
  clear HL_
  have HM2_ := Lib.hid (RdR.below HM2.out (hb2.mono HB.out))
  clear HM2
  have HM2 := HM2_
  clear HM2_
  have HW_ := Lib.hid (HW.out.trans (hb2.mono HB.out))
  clear HW
  have HW := HW_
  clear HW_
  have HB_ : Hid (B ≤ w2.heap.size) := Lib.hid (Nat.le_trans HB.out hb2.size)
  clear HB
  have HB := HB_
  clear HB_ hb2
  clear hfi
  have hm := hm.base (Nat.zero_le _)
  have H0 := Lib.hid hm
  clear hm
  have hz : saS.safe = 0 := rfl
  have hc_ := ssafe_B q0 saS none 0 1 w2 H0.out
  rw [hz] at hc_
  clear hz
  have Hc_ := Lib.hid hc_
  clear hc_
  go_wp2_with fail
  refine Hc_.out.mono ?_
  rintro e w3 ⟨rfl, hb3⟩
  clear Hc_
  have HL_ := Lib.hid (RdR.below HL.out (hb3.mono HB.out))
  clear HL
  have HL := HL_
  clear HL_
  have HM2_ := Lib.hid (RdR.below HM2.out (hb3.mono HB.out))
  clear HM2
  have HM2 := HM2_
  clear HM2_
  have H0_ := Lib.hid (H0.out.below hb3)
  clear H0
  have H0 := H0_
  clear H0_
  have HW_ := Lib.hid (HW.out.trans (hb3.mono HB.out))
  clear HW
  have HW := HW_
  clear HW_
  have HB_ : Hid (B ≤ w3.heap.size) := Lib.hid (Nat.le_trans HB.out hb3.size)
  clear HB
  have HB := HB_
  clear HB_ hb3
  have hc_ := opened_aS q0 0 w3 H0.out
  have Hc_ := Lib.hid hc_
  clear hc_
  go_wp2_with fail
  refine Hc_.out.mono ?_
  rintro e w4 ⟨q2, X, g2, rfl, hm, hX, hb4⟩
  clear Hc_
  have HL_ := Lib.hid (RdR.below HL.out (hb4.mono HB.out))
  clear HL
  have HL := HL_
  clear HL_
  have HM2_ := Lib.hid (RdR.below HM2.out (hb4.mono HB.out))
  clear HM2
  have HM2 := HM2_
  clear HM2_
  have H0_ := Lib.hid (H0.out.below hb4)
  clear H0
  have H0 := H0_
  clear H0_
  have HW_ := Lib.hid (HW.out.trans (hb4.mono HB.out))
  clear HW
  have HW := HW_
  clear HW_
  have HB_ : Hid (B ≤ w4.heap.size) := Lib.hid (Nat.le_trans HB.out hb4.size)
  clear HB
  have HB := HB_
  clear HB_ hb4
  clear H0
  have hm := hm.base (Nat.zero_le _)
  have HX := Lib.hid hX
  clear hX
  have H1 := Lib.hid hm
  clear hm
  have hc_ := shead_B q2 X none 0 g2 w4 H1.out
  rw [HX.out] at hc_
  have Hc_ := Lib.hid hc_
  clear hc_
  go_wp2_with fail
  refine Hc_.out.mono ?_
  rintro e w5 ⟨rfl, hb5⟩
  clear Hc_
  have HL_ := Lib.hid (RdR.below HL.out (hb5.mono HB.out))
  clear HL
  have HL := HL_
  clear HL_
  have HM2_ := Lib.hid (RdR.below HM2.out (hb5.mono HB.out))
  clear HM2
  have HM2 := HM2_
  clear HM2_
  have H1_ := Lib.hid (H1.out.below hb5)
  clear H1
  have H1 := H1_
  clear H1_
  have HW_ := Lib.hid (HW.out.trans (hb5.mono HB.out))
  clear HW
  have HW := HW_
  clear HW_
  have HB_ : Hid (B ≤ w5.heap.size) := Lib.hid (Nat.le_trans HB.out hb5.size)
  clear HB
  have HB := HB_
  clear HB_ hb5
  clear H1
  clear HX
  have HBo := HB
  have hc_ := snew_B w5
  have Hc_ := Lib.hid hc_
  clear hc_
  go_wp2_with fail
  refine Hc_.out.mono ?_
  rintro e w6 ⟨q, rfl, hm, hb6⟩
  clear Hc_
  have HL_ := Lib.hid (RdR.below HL.out (hb6.mono HB.out))
  clear HL
  have HL := HL_
  clear HL_
  have HM2_ := Lib.hid (RdR.below HM2.out (hb6.mono HB.out))
  clear HM2
  have HM2 := HM2_
  clear HM2_
  have HW_ := Lib.hid (HW.out.trans (hb6.mono HB.out))
  clear HW
  have HW := HW_
  clear HW_
  have HB_ : Hid (B ≤ w6.heap.size) := Lib.hid (Nat.le_trans HB.out hb6.size)
  clear HB
  have HB := HB_
  clear HB_ hb6
  have hm := hm.base HBo.out
  have ho0 : shN.old = false := rfl
  obtain ⟨s0, hs0⟩ : ∃ s0, shN = s0 := ⟨_, rfl⟩
  rw [hs0] at hm ho0
  have HO := Lib.hid ho0
  clear hs0 ho0 HBo
  have HM := Lib.hid hm
  clear hm
  have hnl := HL.out.caps
  have hn0 : (0 : Int) ≤ (n : Int) := by omega
  have hnb : n ≤ 9223372036854775807 := by have := hnl; omega
  clear hnl
  go_upto_region 9 with (fail)
  go_loopw [17, 18, 49] (fun x17 x18 iv wr => ∃ (j : Nat) (s : Sh), j ≤ n ∧ iv = .int .i64 j ∧ Hid (ShB wr B q s none 1) ∧ Hid (s.old = false) ∧ Hid (RdR wr B A n c l) ∧ Hid (RdR wr B A2 n2 c2 l2) ∧ Hid (Below B w wr) ∧ Hid (B ≤ wr.heap.size)) (fun _ _ iv _ => n - (intOf iv).toNat)
  case atStart => exact ⟨0, s0, by omega, rfl, HM, HO, HL, HM2, HW, HB⟩
  case round =>
    clear HM HO HL HM2 HW HB
    obtain ⟨j, s, hj, rfl, HM, HO, HL, HM2, HW, HB⟩ := hrel
    by_cases hlt : j < n
    · skip
      obtain ⟨b, o, A1, n1, c1, rfl, hbl, d0, d1, d2, hrd⟩ := HL.out.at_ j hlt
      obtain ⟨f, hf⟩ : ∃ f, l[j]'(by have := HL.out.1; omega) = f := ⟨_, rfl⟩
      rw [hf] at d0 d1 hrd
      obtain ⟨ra, rb, d⟩ := f
      simp only at d0 d1 d2 hrd
      have hj0 : (0 : Int) ≤ (j : Int) := by omega
      have hjn : (j : Int) < (n : Int) := by omega
      have hbw : b < wr.heap.size := Nat.lt_of_lt_of_le hbl HB.out
      have HRd := Lib.hid (hrd.more HB.out)
      clear hf hrd
      go_upto_region 11 with (fail)
      have kz := Blk.new wr 27 #[.int .i64 ra, .int .i64 rb, .slice A1 n1 c1]
      have hal := (Below.refl wr.heap.size wr).alloc (Nat.le_refl _) (.cells #[.int .i64 ra, .int .i64 rb, .slice A1 n1 c1] 27)
      have HRd2 := Lib.hid (RdP.step HRd.out hal)
      obtain ⟨U, hU⟩ : ∃ U, wr.alloc (.cells #[.int .i64 ra, .int .i64 rb, .slice A1 n1 c1] 27) = U := ⟨_, rfl⟩
      rw [hU] at kz hal HRd2 ⊢
      obtain ⟨z, hz⟩ : ∃ z, wr.heap.size = z := ⟨_, rfl⟩
      rw [hz] at kz ⊢
      have Hrow := Lib.hid (rev_row kz rfl)
      clear hU hz kz d0 d1 d2 hbl hbw HRd
      have HM_ := Lib.hid (HM.out.below hal)
      clear HM
      have HM := HM_
      clear HM_
      have HL_ := Lib.hid (RdR.below HL.out (hal.mono HB.out))
      clear HL
      have HL := HL_
      clear HL_
      have HM2_ := Lib.hid (RdR.below HM2.out (hal.mono HB.out))
      clear HM2
      have HM2 := HM2_
      clear HM2_
      have HW_ := Lib.hid (HW.out.trans (hal.mono HB.out))
      clear HW
      have HW := HW_
      clear HW_
      have HB_ : Hid (B ≤ U.heap.size) := Lib.hid (Nat.le_trans HB.out hal.size)
      clear HB
      have HB := HB_
      clear HB_ hal
      have hc_ := sadd_S q s none B 1 ra rb d A1 n1 c1 U HM.out HB.out HRd2.out
      have Hc_ := Lib.hid hc_
      clear hc_
      go_wp2_with (first | (refine wpList_load_blk rfl _ (.tmp 18) rfl z rfl _ Hrow.out ?_))
      refine Hc_.out.mono ?_
      rintro e v1 ⟨NN, EE, s1, rfl, hm, ho1, hb⟩
      clear Hc_ Hrow HRd2
      have HL_ := Lib.hid (RdR.below HL.out hb)
      clear HL
      have HL := HL_
      clear HL_
      have HM2_ := Lib.hid (RdR.below HM2.out hb)
      clear HM2
      have HM2 := HM2_
      clear HM2_
      have HW_ := Lib.hid (HW.out.trans hb)
      clear HW
      have HW := HW_
      clear HW_
      have HB_ : Hid (B ≤ v1.heap.size) := Lib.hid (Nat.le_trans HB.out hb.size)
      clear HB
      have HB := HB_
      clear HB_ hb
      clear HM
      have HM := Lib.hid hm
      have HO1 : Hid (s1.old = false) := Lib.hid (by rw [ho1]; exact HO.out)
      clear hm ho1 HO
      have hc_ := within_big i0 n v1 (by omega) (by omega)
      obtain ⟨wv, hwv⟩ : ∃ wv, wi i0 n = wv := ⟨_, rfl⟩
      rw [hwv] at hc_
      have Hc_ := Lib.hid hc_
      clear hc_ hwv
      go_wp2_with fail
      refine Hc_.out.mono ?_
      rintro e w' ⟨rfl, rfl⟩
      clear Hc_
      by_cases hwj : j = wv
      · skip
        subst hwj
        have hc_ := ssync_B q s1 none B 1 v1 HM.out HB.out
        have Hc_ := Lib.hid hc_
        clear hc_
        go_wp2_with fail
        refine Hc_.out.mono ?_
        rintro e w7 ⟨rfl, hm, hb⟩
        clear Hc_
        have HL_ := Lib.hid (RdR.below HL.out hb)
        clear HL
        have HL := HL_
        clear HL_
        have HM2_ := Lib.hid (RdR.below HM2.out hb)
        clear HM2
        have HM2 := HM2_
        clear HM2_
        have HW_ := Lib.hid (HW.out.trans hb)
        clear HW
        have HW := HW_
        clear HW_
        have HB_ : Hid (B ≤ w7.heap.size) := Lib.hid (Nat.le_trans HB.out hb.size)
        clear HB
        have HB := HB_
        clear HB_ hb
        clear HM
        have HM := Lib.hid hm
        clear hm
        go_wp2_with fail
        go_roundw
        case rel => exact ⟨j + 1, _, by omega, by go_num, HM, HO1, HL, HM2, HW, HB⟩
        case measure => simp [intOf]; omega
      · have hne : ((j : Int) == (wv : Int)) = false := by simpa using (show ¬ (j : Int) = (wv : Int) by omega)
        go_wp2_with fail
        go_roundw
        case rel => exact ⟨j + 1, _, by omega, by go_num, HM, HO1, HL, HM2, HW, HB⟩
        case measure => simp [intOf]; omega
    · skip
      obtain rfl : j = n := by omega
      clear HL hlt hj
      have hln := HM.out.hg.len
      have hb0_ := HM.out.hg.base0
      have hb1_ := HM.out.hg.base1
      obtain ⟨N, hN⟩ : ∃ N, s.log.revs.length = N := ⟨_, rfl⟩
      obtain ⟨Ba, hBa⟩ : ∃ Ba, s.log.base = Ba := ⟨_, rfl⟩
      rw [hN] at hln
      rw [hBa] at hb0_ hb1_
      have HN := Lib.hid hN
      have HBa := Lib.hid hBa
      have hN1 : N ≤ 64 := hln
      have hN0 : (0 : Int) ≤ (N : Int) := by omega
      obtain ⟨Bn, rfl⟩ := Int.eq_ofNat_of_zero_le hb0_
      clear hN hBa hln hb0_
      obtain ⟨BN, hBN⟩ : ∃ BN : Nat, Bn + N = BN := ⟨_, rfl⟩
      have HHd : Hid (s.log.base + (s.log.revs.length : Int) = (BN : Int)) := Lib.hid (by rw [HBa.out, HN.out]; omega)
      have hBN1 : (BN : Int) ≤ 2147483747 := by omega
      have hsub : IntKind.i64.wrap ((BN : Int) - (Bn : Int)) = (N : Int) := by rw [show (BN : Int) - (Bn : Int) = (N : Int) by omega]; exact IntWalk.i64_in _ (by omega)
      have hB0 : (0 : Int) ≤ (Bn : Int) := by omega
      clear hBN
      have hc_ := sbase_B q s none B 1 wr HM.out
      rw [HBa.out] at hc_
      have Hc_ := Lib.hid hc_
      clear hc_
      go_wp2_with fail
      refine Hc_.out.mono ?_
      rintro e w7 ⟨rfl, hb7⟩
      clear Hc_
      have HM_ := Lib.hid (HM.out.below hb7)
      clear HM
      have HM := HM_
      clear HM_
      have HM2_ := Lib.hid (RdR.below HM2.out (hb7.mono HB.out))
      clear HM2
      have HM2 := HM2_
      clear HM2_
      have HW_ := Lib.hid (HW.out.trans (hb7.mono HB.out))
      clear HW
      have HW := HW_
      clear HW_
      have HB_ : Hid (B ≤ w7.heap.size) := Lib.hid (Nat.le_trans HB.out hb7.size)
      clear HB
      have HB := HB_
      clear HB_ hb7
      have hc_ := shead_B q s none B 1 w7 HM.out
      rw [HHd.out] at hc_
      have Hc_ := Lib.hid hc_
      clear hc_
      go_wp2_with fail
      refine Hc_.out.mono ?_
      rintro e w8 ⟨rfl, hb8⟩
      clear Hc_
      have HM_ := Lib.hid (HM.out.below hb8)
      clear HM
      have HM := HM_
      clear HM_
      have HM2_ := Lib.hid (RdR.below HM2.out (hb8.mono HB.out))
      clear HM2
      have HM2 := HM2_
      clear HM2_
      have HW_ := Lib.hid (HW.out.trans (hb8.mono HB.out))
      clear HW
      have HW := HW_
      clear HW_
      have HB_ : Hid (B ≤ w8.heap.size) := Lib.hid (Nat.le_trans HB.out hb8.size)
      clear HB
      have HB := HB_
      clear HB_ hb8
      have hc_ := sbase_B q s none B 1 w8 HM.out
      rw [HBa.out] at hc_
      have Hc_ := Lib.hid hc_
      clear hc_
      go_wp2_with fail
      refine Hc_.out.mono ?_
      rintro e w9 ⟨rfl, hb9⟩
      clear Hc_
      have HM_ := Lib.hid (HM.out.below hb9)
      clear HM
      have HM := HM_
      clear HM_
      have HM2_ := Lib.hid (RdR.below HM2.out (hb9.mono HB.out))
      clear HM2
      have HM2 := HM2_
      clear HM2_
      have HW_ := Lib.hid (HW.out.trans (hb9.mono HB.out))
      clear HW
      have HW := HW_
      clear HW_
      have HB_ : Hid (B ≤ w9.heap.size) := Lib.hid (Nat.le_trans HB.out hb9.size)
      clear HB
      have HB := HB_
      clear HB_ hb9
      have hc_ := within_any i1 (N + 1) w9 (by omega) (by omega)
      have hf1 := wi_lt i1 (N + 1) (by omega)
      obtain ⟨fl, hfl⟩ : ∃ fl, wi i1 (N + 1) = fl := ⟨_, rfl⟩
      rw [hfl] at hc_ hf1
      rw [show ((N + 1 : Nat) : Int) = (N : Int) + 1 by omega] at hc_
      have hf2 : fl ≤ N := by omega
      have Hc_ := Lib.hid hc_
      clear hc_ hf1 hfl
      go_wp2_with fail
      refine Hc_.out.mono ?_
      rintro e w' ⟨rfl, rfl⟩
      clear Hc_
      have hf0 : (0 : Int) ≤ (fl : Int) := by omega
      have hadd : IntKind.i64.wrap ((Bn : Int) + (fl : Int)) = (Bn : Int) + (fl : Int) := IntWalk.i64_in _ (by omega)
      have hc_ := skeep_B q s B 1 ((Bn : Int) + (fl : Int)) fl w9 HM.out HB.out HO.out (by rw [HBa.out]) (by rw [HN.out]; exact hf2)
      have Hc_ := Lib.hid hc_
      clear hc_
      go_wp2_with fail
      refine Hc_.out.mono ?_
      rintro e w10 ⟨rfl, hm, hb⟩
      clear Hc_
      have HM2_ := Lib.hid (RdR.below HM2.out hb)
      clear HM2
      have HM2 := HM2_
      clear HM2_
      have HW_ := Lib.hid (HW.out.trans hb)
      clear HW
      have HW := HW_
      clear HW_
      have HB_ : Hid (B ≤ w10.heap.size) := Lib.hid (Nat.le_trans HB.out hb.size)
      clear HB
      have HB := HB_
      clear HB_ hb
      clear HM
      have HM := Lib.hid hm
      clear hm
      have HJ : Hid (OneX (some ((Bn : Int) + (fl : Int), -1, false)) 1) := Lib.hid ⟨fun _ => rfl, by decide⟩
      clear HBa HHd HN HO hsub hadd hBN1 hB0 hf2 hb1_ hN1 hN0
      have hc_ := within_any i2 12 w10 (by omega) (by omega)
      have hf1 := wi_lt i2 12 (by omega)
      obtain ⟨M, hM⟩ : ∃ M, wi i2 12 = M := ⟨_, rfl⟩
      rw [hM] at hc_ hf1
      rw [show ((12 : Nat) : Int) = 12 by rfl] at hc_
      have Hc_ := Lib.hid hc_
      clear hc_ hM
      go_wp2_with fail
      refine Hc_.out.mono ?_
      rintro e w' ⟨rfl, rfl⟩
      clear Hc_
      have hnl := HM2.out.caps
      have hn20 : (0 : Int) ≤ (n2 : Int) := by omega
      have hnb2 : n2 ≤ 9223372036854775807 := by have := hnl; omega
      clear hnl
      go_upto_region 18 with (fail)
      go_loopw [19, 82] (fun x19 iv wr => ∃ (j : Nat) (s : Sh) (m : Option Mv) (g : Nat), j ≤ M ∧ iv = .int .i64 j ∧ Hid (ShB wr B q s m g) ∧ Hid (OneX m g) ∧ Hid (RdR wr B A2 n2 c2 l2) ∧ Hid (Below B w wr) ∧ Hid (B ≤ wr.heap.size)) (fun _ iv _ => M - (intOf iv).toNat)
      case atStart => exact ⟨0, s, _, 1, by omega, rfl, HM, HJ, HM2, HW, HB⟩
      case round =>
        clear HM HJ HM2 HW HB
        obtain ⟨j, s, m, g, hj, rfl, HM, HJ, HM2, HW, HB⟩ := hrel
        by_cases hlt : j < M
        · skip
          have hj0 : (0 : Int) ≤ (j : Int) := by omega
          have hjM : (j : Int) < (M : Int) := by omega
          have hc_ := sstep_S q s m B g wr HM.out HB.out HJ.out
          have Hc_ := Lib.hid hc_
          clear hc_
          go_wp2_with fail
          refine Hc_.out.mono ?_
          rintro e w11 ⟨b', s', m', g', rfl, hm, hjj, hb⟩
          clear Hc_
          have HM2_ := Lib.hid (RdR.below HM2.out hb)
          clear HM2
          have HM2 := HM2_
          clear HM2_
          have HW_ := Lib.hid (HW.out.trans hb)
          clear HW
          have HW := HW_
          clear HW_
          have HB_ : Hid (B ≤ w11.heap.size) := Lib.hid (Nat.le_trans HB.out hb.size)
          clear HB
          have HB := HB_
          clear HB_ hb
          clear HM
          have HM := Lib.hid hm
          clear hm
          have HJ' := Lib.hid hjj
          clear hjj HJ
          by_cases hm2 : j < n2
          · skip
            obtain ⟨b, o, A1, n1, c1, rfl, hbl, d0, d1, d2, hrd⟩ := HM2.out.at_ j hm2
            obtain ⟨f, hf⟩ : ∃ f, l2[j]'(by have := HM2.out.1; omega) = f := ⟨_, rfl⟩
            rw [hf] at d0 d1 hrd
            obtain ⟨ra, rb, d⟩ := f
            simp only at d0 d1 d2 hrd
            have hjn : (j : Int) < (n2 : Int) := by omega
            have hbw : b < w11.heap.size := Nat.lt_of_lt_of_le hbl HB.out
            have HRd := Lib.hid (hrd.more HB.out)
            clear hf hrd
            have hc_ := sadd_S q s' m' B g' ra rb d A1 n1 c1 w11 HM.out HB.out HRd.out
            have Hc_ := Lib.hid hc_
            clear hc_
            go_wp2_with fail
            refine Hc_.out.mono ?_
            rintro e v2 ⟨NN, EE, s2, rfl, hm, ho1, hb⟩
            clear Hc_ HRd d0 d1 d2 hbl hbw ho1
            have HM2_ := Lib.hid (RdR.below HM2.out hb)
            clear HM2
            have HM2 := HM2_
            clear HM2_
            have HW_ := Lib.hid (HW.out.trans hb)
            clear HW
            have HW := HW_
            clear HW_
            have HB_ : Hid (B ≤ v2.heap.size) := Lib.hid (Nat.le_trans HB.out hb.size)
            clear HB
            have HB := HB_
            clear HB_ hb
            clear HM
            have HM := Lib.hid hm
            clear hm
            go_wp2_with fail
            go_roundw
            case rel => exact ⟨j + 1, s2, m', g', by omega, by go_num, HM, HJ', HM2, HW, HB⟩
            case measure => simp [intOf]; omega
          · have hjn : decide ((j : Int) < (n2 : Int)) = false := decide_eq_false (by omega)
            go_wp2_with fail
            go_roundw
            case rel => exact ⟨j + 1, s', m', g', by omega, by go_num, HM, HJ', HM2, HW, HB⟩
            case measure => simp [intOf]; omega
        · skip
          obtain rfl : j = M := by omega
          clear HM2 hlt hj hf1 hn20 hnb2 hf0
          have HMo := HM
          have hc_ := opened_B q s m B g ka kb wr HM.out (by have := HJ.out.2; omega)
          have Hc_ := Lib.hid hc_
          clear hc_
          go_wp2_with fail
          refine Hc_.out.mono ?_
          rintro e w11 ⟨q3, X, g3, rfl, hm, hor, hfu, hb11⟩
          clear Hc_
          have HM_ := Lib.hid (HM.out.below hb11)
          clear HM
          have HM := HM_
          clear HM_
          have HW_ := Lib.hid (HW.out.trans (hb11.mono HB.out))
          clear HW
          have HW := HW_
          clear HW_
          have HB_ : Hid (B ≤ w11.heap.size) := Lib.hid (Nat.le_trans HB.out hb11.size)
          clear HB
          have HB := HB_
          clear HB_ hb11
          have hm := hm.base (Nat.zero_le _)
          obtain ⟨k, j3, hor⟩ := hor
          have hb0_ := HMo.out.hg.base0
          have hb1_ := HMo.out.hg.base1
          have hln := HMo.out.hg.len
          have hkj := hor.kj
          have hlow := hor.low
          have hlenx := hor.len_
          obtain ⟨Ba, hBa⟩ : ∃ Ba, s.log.base = Ba := ⟨_, rfl⟩
          rw [hBa] at hb0_ hb1_ hlow
          obtain ⟨Bn, rfl⟩ := Int.eq_ofNat_of_zero_le hb0_
          obtain ⟨N, hN⟩ : ∃ N, s.log.revs.length = N := ⟨_, rfl⟩
          rw [hN] at hln hkj
          have hbx : X.log.base = ((Bn + k : Nat) : Int) := by rw [hor.base, hBa]; omega
          have hhx : X.log.base + (X.log.revs.length : Int) = ((Bn + k + j3 : Nat) : Int) := by rw [hbx, hlenx]; omega
          have hhs : s.log.base + (s.log.revs.length : Int) = ((Bn + N : Nat) : Int) := by rw [hBa, hN]; omega
          have hsx : X.safe = ((Bn + k + j3 : Nat) : Int) := by rw [hor.safe, hhx]
          obtain ⟨SF_, hSF⟩ : ∃ x, s.safe = x := ⟨_, rfl⟩
          rw [hSF] at hlow
          obtain ⟨P1, hP1⟩ : ∃ P1, Bn + k = P1 := ⟨_, rfl⟩
          obtain ⟨P2, hP2⟩ : ∃ P2, Bn + k + j3 = P2 := ⟨_, rfl⟩
          obtain ⟨P3, hP3⟩ : ∃ P3, Bn + N = P3 := ⟨_, rfl⟩
          rw [hP1] at hbx
          rw [hP2] at hhx hsx
          rw [hP3] at hhs
          have hq1 : decide ((P2 : Int) < SF_) = false := decide_eq_false (by omega)
          have hq2 : P2 ≤ P3 := by omega
          have hmx : max (P1 : Int) (Bn : Int) = (P1 : Int) := by omega
          have hP4 : P2 ≤ 3000000000 := by omega
          have HBa := Lib.hid hBa
          have HNN := Lib.hid hN
          have HBX := Lib.hid hbx
          have HHX := Lib.hid hhx
          have HHS := Lib.hid hhs
          have HSX := Lib.hid hsx
          have HSF := Lib.hid hSF
          have HR := Lib.hid hor
          have HFU := Lib.hid hfu
          have HLX := Lib.hid hlenx
          have HP1 := Lib.hid hP1
          have HP2 := Lib.hid hP2
          have HP3 := Lib.hid hP3
          have HKJ := Lib.hid hkj
          have HMX := Lib.hid hmx
          clear hb0_ hb1_ hln hkj hlow hlenx hBa hN hbx hhx hhs hsx hSF hor hfu hP1 hP2 hP3 hmx HMo HJ
          have HX := Lib.hid hm
          clear hm
          have hc_ := shead_B q3 X none 0 g3 w11 HX.out
          rw [HHX.out] at hc_
          have Hc_ := Lib.hid hc_
          clear hc_
          go_wp2_with fail
          refine Hc_.out.mono ?_
          rintro e w12 ⟨rfl, hb12⟩
          clear Hc_
          have HM_ := Lib.hid (HM.out.below hb12)
          clear HM
          have HM := HM_
          clear HM_
          have HX_ := Lib.hid (HX.out.below hb12)
          clear HX
          have HX := HX_
          clear HX_
          have HW_ := Lib.hid (HW.out.trans (hb12.mono HB.out))
          clear HW
          have HW := HW_
          clear HW_
          have HB_ : Hid (B ≤ w12.heap.size) := Lib.hid (Nat.le_trans HB.out hb12.size)
          clear HB
          have HB := HB_
          clear HB_ hb12
          have hc_ := ssafe_B q s m B g w12 HM.out
          rw [HSF.out] at hc_
          have Hc_ := Lib.hid hc_
          clear hc_
          go_wp2_with fail
          refine Hc_.out.mono ?_
          rintro e w13 ⟨rfl, hb13⟩
          clear Hc_
          have HM_ := Lib.hid (HM.out.below hb13)
          clear HM
          have HM := HM_
          clear HM_
          have HX_ := Lib.hid (HX.out.below hb13)
          clear HX
          have HX := HX_
          clear HX_
          have HW_ := Lib.hid (HW.out.trans (hb13.mono HB.out))
          clear HW
          have HW := HW_
          clear HW_
          have HB_ : Hid (B ≤ w13.heap.size) := Lib.hid (Nat.le_trans HB.out hb13.size)
          clear HB
          have HB := HB_
          clear HB_ hb13
          have hc_ := shead_B q3 X none 0 g3 w13 HX.out
          rw [HHX.out] at hc_
          have Hc_ := Lib.hid hc_
          clear hc_
          go_wp2_with fail
          refine Hc_.out.mono ?_
          rintro e w14 ⟨rfl, hb14⟩
          clear Hc_
          have HM_ := Lib.hid (HM.out.below hb14)
          clear HM
          have HM := HM_
          clear HM_
          have HX_ := Lib.hid (HX.out.below hb14)
          clear HX
          have HX := HX_
          clear HX_
          have HW_ := Lib.hid (HW.out.trans (hb14.mono HB.out))
          clear HW
          have HW := HW_
          clear HW_
          have HB_ : Hid (B ≤ w14.heap.size) := Lib.hid (Nat.le_trans HB.out hb14.size)
          clear HB
          have HB := HB_
          clear HB_ hb14
          have hc_ := shead_B q s m B g w14 HM.out
          rw [HHS.out] at hc_
          have Hc_ := Lib.hid hc_
          clear hc_
          go_wp2_with fail
          refine Hc_.out.mono ?_
          rintro e w15 ⟨rfl, hb15⟩
          clear Hc_
          have HM_ := Lib.hid (HM.out.below hb15)
          clear HM
          have HM := HM_
          clear HM_
          have HX_ := Lib.hid (HX.out.below hb15)
          clear HX
          have HX := HX_
          clear HX_
          have HW_ := Lib.hid (HW.out.trans (hb15.mono HB.out))
          clear HW
          have HW := HW_
          clear HW_
          have HB_ : Hid (B ≤ w15.heap.size) := Lib.hid (Nat.le_trans HB.out hb15.size)
          clear HB
          have HB := HB_
          clear HB_ hb15
          have hc_ := ssafe_B q3 X none 0 g3 w15 HX.out
          rw [HSX.out] at hc_
          have Hc_ := Lib.hid hc_
          clear hc_
          go_wp2_with fail
          refine Hc_.out.mono ?_
          rintro e w16 ⟨rfl, hb16⟩
          clear Hc_
          have HM_ := Lib.hid (HM.out.below hb16)
          clear HM
          have HM := HM_
          clear HM_
          have HX_ := Lib.hid (HX.out.below hb16)
          clear HX
          have HX := HX_
          clear HX_
          have HW_ := Lib.hid (HW.out.trans (hb16.mono HB.out))
          clear HW
          have HW := HW_
          clear HW_
          have HB_ : Hid (B ≤ w16.heap.size) := Lib.hid (Nat.le_trans HB.out hb16.size)
          clear HB
          have HB := HB_
          clear HB_ hb16
          have hc_ := shead_B q3 X none 0 g3 w16 HX.out
          rw [HHX.out] at hc_
          have Hc_ := Lib.hid hc_
          clear hc_
          go_wp2_with fail
          refine Hc_.out.mono ?_
          rintro e w17 ⟨rfl, hb17⟩
          clear Hc_
          have HM_ := Lib.hid (HM.out.below hb17)
          clear HM
          have HM := HM_
          clear HM_
          have HX_ := Lib.hid (HX.out.below hb17)
          clear HX
          have HX := HX_
          clear HX_
          have HW_ := Lib.hid (HW.out.trans (hb17.mono HB.out))
          clear HW
          have HW := HW_
          clear HW_
          have HB_ : Hid (B ≤ w17.heap.size) := Lib.hid (Nat.le_trans HB.out hb17.size)
          clear HB
          have HB := HB_
          clear HB_ hb17
          have hc_ := sbase_B q3 X none 0 g3 w17 HX.out
          rw [HBX.out] at hc_
          have Hc_ := Lib.hid hc_
          clear hc_
          go_wp2_with fail
          refine Hc_.out.mono ?_
          rintro e w18 ⟨rfl, hb18⟩
          clear Hc_
          have HM_ := Lib.hid (HM.out.below hb18)
          clear HM
          have HM := HM_
          clear HM_
          have HX_ := Lib.hid (HX.out.below hb18)
          clear HX
          have HX := HX_
          clear HX_
          have HW_ := Lib.hid (HW.out.trans (hb18.mono HB.out))
          clear HW
          have HW := HW_
          clear HW_
          have HB_ : Hid (B ≤ w18.heap.size) := Lib.hid (Nat.le_trans HB.out hb18.size)
          clear HB
          have HB := HB_
          clear HB_ hb18
          have hc_ := sbase_B q s m B g w18 HM.out
          rw [HBa.out] at hc_
          have Hc_ := Lib.hid hc_
          clear hc_
          go_wp2_with fail
          refine Hc_.out.mono ?_
          rintro e w19 ⟨rfl, hb19⟩
          clear Hc_
          have HM_ := Lib.hid (HM.out.below hb19)
          clear HM
          have HM := HM_
          clear HM_
          have HX_ := Lib.hid (HX.out.below hb19)
          clear HX
          have HX := HX_
          clear HX_
          have HW_ := Lib.hid (HW.out.trans (hb19.mono HB.out))
          clear HW
          have HW := HW_
          clear HW_
          have HB_ : Hid (B ≤ w19.heap.size) := Lib.hid (Nat.le_trans HB.out hb19.size)
          clear HB
          have HB := HB_
          clear HB_ hb19
          go_upto_region 28 with (fail)
          have hP12 : (P1 : Int) ≤ (P2 : Int) := by have := HP1.out; have := HP2.out; omega
          go_loopw [21, 22, 23, 24, 25] (fun iv x22 x23 x24 x25 wr => ∃ (i : Nat), i ≤ P2 + 1 ∧ P1 ≤ i ∧ iv = .int .i64 i ∧ Hid (ShB wr 0 q3 X none g3) ∧ Hid (ShB wr B q s m g) ∧ Hid (Below B w wr) ∧ Hid (B ≤ wr.heap.size)) (fun iv _ _ _ _ _ => P2 + 1 - (intOf iv).toNat)
          case atStart => exact ⟨P1, by omega, by omega, by rw [HMX.out], HX, HM, HW, HB⟩
          case round =>
            clear HX HM HW HB
            obtain ⟨i, hi1, hi2, rfl, HX, HM, HW, HB⟩ := hrel
            by_cases hlt : i ≤ P2
            · skip
              have hc_ := shead_B q3 X none 0 g3 wr HX.out
              rw [HHX.out] at hc_
              have Hc_ := Lib.hid hc_
              clear hc_
              go_wp2_with fail
              refine Hc_.out.mono ?_
              rintro e w20 ⟨rfl, hb20⟩
              clear Hc_
              have HX_ := Lib.hid (HX.out.below hb20)
              clear HX
              have HX := HX_
              clear HX_
              have HM_ := Lib.hid (HM.out.below hb20)
              clear HM
              have HM := HM_
              clear HM_
              have HW_ := Lib.hid (HW.out.trans (hb20.mono HB.out))
              clear HW
              have HW := HW_
              clear HW_
              have HB_ : Hid (B ≤ w20.heap.size) := Lib.hid (Nat.le_trans HB.out hb20.size)
              clear HB
              have HB := HB_
              clear HB_ hb20
              have hi0 : (0 : Int) ≤ (i : Int) := by omega
              have hiP : (i : Int) ≤ (P2 : Int) := by omega
              obtain ⟨r, hr⟩ : ∃ r, i = P1 + r := ⟨i - P1, by omega⟩
              have hrj : r ≤ j3 := by have := HP1.out; have := HP2.out; omega
              have htt := HR.out.txt_ r hrj
              obtain ⟨TT, hTT⟩ : ∃ TT, txt s.log.text s.log.revs (k + r) = TT := ⟨_, rfl⟩
              rw [hTT] at htt
              have HT1 := Lib.hid htt
              have HT2 := Lib.hid hTT
              have Hr := Lib.hid hr
              have Hrj := Lib.hid hrj
              clear htt hTT hr hrj
              have hc_ := stext_B q3 X none 0 g3 (i : Int) r w20 HX.out (by rw [HBX.out, Hr.out]; omega) (by rw [HLX.out]; exact Hrj.out)
              rw [HT1.out] at hc_
              have Hc_ := Lib.hid hc_
              clear hc_
              go_wp2_with fail
              refine Hc_.out.mono ?_
              rintro e w21 ⟨rfl, hb21⟩
              clear Hc_
              have HX_ := Lib.hid (HX.out.below hb21)
              clear HX
              have HX := HX_
              clear HX_
              have HM_ := Lib.hid (HM.out.below hb21)
              clear HM
              have HM := HM_
              clear HM_
              have HW_ := Lib.hid (HW.out.trans (hb21.mono HB.out))
              clear HW
              have HW := HW_
              clear HW_
              have HB_ : Hid (B ≤ w21.heap.size) := Lib.hid (Nat.le_trans HB.out hb21.size)
              clear HB
              have HB := HB_
              clear HB_ hb21
              have hc_ := stext_B q s m B g (i : Int) (k + r) w21 HM.out (by rw [HBa.out, Hr.out]; have := HP1.out; omega) (by rw [HNN.out]; have := HKJ.out; have := Hrj.out; omega)
              rw [HT2.out] at hc_
              have Hc_ := Lib.hid hc_
              clear hc_
              go_wp2_with fail
              refine Hc_.out.mono ?_
              rintro e w22 ⟨rfl, hb22⟩
              clear Hc_
              have HX_ := Lib.hid (HX.out.below hb22)
              clear HX
              have HX := HX_
              clear HX_
              have HM_ := Lib.hid (HM.out.below hb22)
              clear HM
              have HM := HM_
              clear HM_
              have HW_ := Lib.hid (HW.out.trans (hb22.mono HB.out))
              clear HW
              have HW := HW_
              clear HW_
              have HB_ : Hid (B ≤ w22.heap.size) := Lib.hid (Nat.le_trans HB.out hb22.size)
              clear HB
              have HB := HB_
              clear HB_ hb22
              go_wp2_with fail
              go_roundw
              case rel => exact ⟨i + 1, by omega, by omega, by go_num, HX, HM, HW, HB⟩
              case measure => simp [intOf]; omega
            · skip
              have hi0 : (0 : Int) ≤ (i : Int) := by omega
              have hiP : decide ((i : Int) ≤ (P2 : Int)) = false := decide_eq_false (by omega)
              have hiQ : ¬ (i : Int) ≤ (P2 : Int) := by omega
              have hc_ := shead_B q3 X none 0 g3 wr HX.out
              rw [HHX.out] at hc_
              have Hc_ := Lib.hid hc_
              clear hc_
              go_wp2_with fail
              refine Hc_.out.mono ?_
              rintro e w20 ⟨rfl, hb20⟩
              clear Hc_
              have HX_ := Lib.hid (HX.out.below hb20)
              clear HX
              have HX := HX_
              clear HX_
              have HW_ := Lib.hid (HW.out.trans (hb20.mono HB.out))
              clear HW
              have HW := HW_
              clear HW_
              have HB_ : Hid (B ≤ w20.heap.size) := Lib.hid (Nat.le_trans HB.out hb20.size)
              clear HB
              have HB := HB_
              clear HB_ hb20
              clear HM hi1 hi2
              have hc_ := opened_same q3 X 0 g3 kb ka w20 HX.out HR.out.old HFU.out
              have Hc_ := Lib.hid hc_
              clear hc_
              go_wp2_with fail
              refine Hc_.out.mono ?_
              rintro e w21 ⟨q4, Y, g4, rfl, hm, hd0, hd1, hbY, hrY, hb21⟩
              clear Hc_
              have HX_ := Lib.hid (HX.out.below hb21)
              clear HX
              have HX := HX_
              clear HX_
              have HW_ := Lib.hid (HW.out.trans (hb21.mono HB.out))
              clear HW
              have HW := HW_
              clear HW_
              have HB_ : Hid (B ≤ w21.heap.size) := Lib.hid (Nat.le_trans HB.out hb21.size)
              clear HB
              have HB := HB_
              clear HB_ hb21
              have hm := hm.base (Nat.zero_le _)
              obtain ⟨⟨D0, D1⟩, hDD⟩ : ∃ D, X.d0 = D := ⟨_, rfl⟩
              obtain ⟨⟨D2, D3⟩, hDE⟩ : ∃ D, X.d1 = D := ⟨_, rfl⟩
              rw [hDD] at hd0
              rw [hDE] at hd1
              have hYb : Y.log.base = (P1 : Int) := by rw [hbY]; exact HBX.out
              have hYh : Y.log.base + (Y.log.revs.length : Int) = (P2 : Int) := by rw [hbY, hrY]; exact HHX.out
              have HD0 := Lib.hid hd0
              have HD1 := Lib.hid hd1
              have HD2 := Lib.hid hDD
              have HD3 := Lib.hid hDE
              have HYB := Lib.hid hYb
              have HYH := Lib.hid hYh
              clear hd0 hd1 hDD hDE hYb hYh hbY hrY
              have HY := Lib.hid hm
              clear hm
              have hc_ := sdisk_B q4 Y none 0 g4 w21 HY.out
              rw [HD0.out, HD1.out] at hc_
              unfold dvl at hc_
              simp only at hc_
              have Hc_ := Lib.hid hc_
              clear hc_
              go_wp2_with fail
              refine Hc_.out.mono ?_
              rintro e w22 ⟨rfl, hb22⟩
              clear Hc_
              have HX_ := Lib.hid (HX.out.below hb22)
              clear HX
              have HX := HX_
              clear HX_
              have HY_ := Lib.hid (HY.out.below hb22)
              clear HY
              have HY := HY_
              clear HY_
              have HW_ := Lib.hid (HW.out.trans (hb22.mono HB.out))
              clear HW
              have HW := HW_
              clear HW_
              have HB_ : Hid (B ≤ w22.heap.size) := Lib.hid (Nat.le_trans HB.out hb22.size)
              clear HB
              have HB := HB_
              clear HB_ hb22
              have hc_ := sdisk_B q3 X none 0 g3 w22 HX.out
              rw [HD2.out, HD3.out] at hc_
              unfold dvl at hc_
              simp only at hc_
              have Hc_ := Lib.hid hc_
              clear hc_
              go_wp2_with fail
              refine Hc_.out.mono ?_
              rintro e w23 ⟨rfl, hb23⟩
              clear Hc_
              have HX_ := Lib.hid (HX.out.below hb23)
              clear HX
              have HX := HX_
              clear HX_
              have HY_ := Lib.hid (HY.out.below hb23)
              clear HY
              have HY := HY_
              clear HY_
              have HW_ := Lib.hid (HW.out.trans (hb23.mono HB.out))
              clear HW
              have HW := HW_
              clear HW_
              have HB_ : Hid (B ≤ w23.heap.size) := Lib.hid (Nat.le_trans HB.out hb23.size)
              clear HB
              have HB := HB_
              clear HB_ hb23
              have hc_ := shead_B q4 Y none 0 g4 w23 HY.out
              rw [HYH.out] at hc_
              have Hc_ := Lib.hid hc_
              clear hc_
              go_wp2_with fail
              refine Hc_.out.mono ?_
              rintro e w24 ⟨rfl, hb24⟩
              clear Hc_
              have HX_ := Lib.hid (HX.out.below hb24)
              clear HX
              have HX := HX_
              clear HX_
              have HY_ := Lib.hid (HY.out.below hb24)
              clear HY
              have HY := HY_
              clear HY_
              have HW_ := Lib.hid (HW.out.trans (hb24.mono HB.out))
              clear HW
              have HW := HW_
              clear HW_
              have HB_ : Hid (B ≤ w24.heap.size) := Lib.hid (Nat.le_trans HB.out hb24.size)
              clear HB
              have HB := HB_
              clear HB_ hb24
              have hc_ := shead_B q3 X none 0 g3 w24 HX.out
              rw [HHX.out] at hc_
              have Hc_ := Lib.hid hc_
              clear hc_
              go_wp2_with fail
              refine Hc_.out.mono ?_
              rintro e w25 ⟨rfl, hb25⟩
              clear Hc_
              have HX_ := Lib.hid (HX.out.below hb25)
              clear HX
              have HX := HX_
              clear HX_
              have HY_ := Lib.hid (HY.out.below hb25)
              clear HY
              have HY := HY_
              clear HY_
              have HW_ := Lib.hid (HW.out.trans (hb25.mono HB.out))
              clear HW
              have HW := HW_
              clear HW_
              have HB_ : Hid (B ≤ w25.heap.size) := Lib.hid (Nat.le_trans HB.out hb25.size)
              clear HB
              have HB := HB_
              clear HB_ hb25
              have hc_ := sbase_B q4 Y none 0 g4 w25 HY.out
              rw [HYB.out] at hc_
              have Hc_ := Lib.hid hc_
              clear hc_
              go_wp2_with fail
              refine Hc_.out.mono ?_
              rintro e w26 ⟨rfl, hb26⟩
              clear Hc_
              have HX_ := Lib.hid (HX.out.below hb26)
              clear HX
              have HX := HX_
              clear HX_
              have HY_ := Lib.hid (HY.out.below hb26)
              clear HY
              have HY := HY_
              clear HY_
              have HW_ := Lib.hid (HW.out.trans (hb26.mono HB.out))
              clear HW
              have HW := HW_
              clear HW_
              have HB_ : Hid (B ≤ w26.heap.size) := Lib.hid (Nat.le_trans HB.out hb26.size)
              clear HB
              have HB := HB_
              clear HB_ hb26
              have hc_ := sbase_B q3 X none 0 g3 w26 HX.out
              rw [HBX.out] at hc_
              have Hc_ := Lib.hid hc_
              clear hc_
              go_wp2_with fail
              refine Hc_.out.mono ?_
              rintro e w27 ⟨rfl, hb27⟩
              clear Hc_
              have HX_ := Lib.hid (HX.out.below hb27)
              clear HX
              have HX := HX_
              clear HX_
              have HY_ := Lib.hid (HY.out.below hb27)
              clear HY
              have HY := HY_
              clear HY_
              have HW_ := Lib.hid (HW.out.trans (hb27.mono HB.out))
              clear HW
              have HW := HW_
              clear HW_
              have HB_ : Hid (B ≤ w27.heap.size) := Lib.hid (Nat.le_trans HB.out hb27.size)
              clear HB
              have HB := HB_
              clear HB_ hb27
              go_wp2_with fail
              go_ret
              exact ⟨rfl, HBw.out ▸ HW.out⟩
end Go.Proofs.Ytmnnaemcjmiplaa
