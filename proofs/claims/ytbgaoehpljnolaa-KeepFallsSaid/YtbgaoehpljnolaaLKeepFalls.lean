/- KeepFalls: the walk. What is no longer kept never comes back. Written by gen_falls.py. -/
import Derived.Test.YtbgaoehpljnolaaKeepMin
import Derived.Test.YtbgaoehpljnolaaOpenKeep
import Derived.Test.YtbgaoehpljnolaaWithin
namespace Go.Proofs.Ytbgaoehpljnolaa
open Go.ChangeShapes Go.WideShapes Go.RowKit
set_option linter.unusedVariables false
set_option linter.unusedSimpArgs false
set_option maxRecDepth 100000
set_option maxHeartbeats 4000000

theorem falls_err (last every : Int) (p : List Int) (A : Option Addr) (n c : Nat) (head : Int) (w : World) (h : RdI w w.heap.size A n c p) (hk : kchk last every p ≠ 0) :
    Calls Try.prog 4 #[pol last every A n c, .int .i64 head] w fun e w' => e = .returned (.bool true) ∧ Below w.heap.size w w' := by
  have hbw0 : Below w.heap.size w w := Below.refl _ _
  have H := Lib.hid h
  have Hk := Lib.hid hk
  have hne : ((kchk last every p) != 0) = true := by simpa using hk
  clear h hk
  unfold pol
  go_enter Try.func4, Try.ntmps4
  have hbw1 := hbw0.alloc hbw0.size (.cells #[.int .i64 last, .int .i64 every, .slice A n c] 31)
  have kd1 := Blk.new w 31 #[.int .i64 last, .int .i64 every, .slice A n c]
  go_wp2_with fail
  refine (keep_good 1 2 [] 3 none 0 0 0 _ ⟨rfl, Rd.nil _ _ _⟩ (Nat.zero_le _) (by decide) (by decide)).mono ?_
  rintro e1 w2 ⟨⟨v1, rfl, hown1⟩, hb2⟩
  have hbw2 := hbw1.trans (hb2.mono hbw1.size)
  have kd2 := kd1.below hb2 kd1.lt
  clear hb2
  rw [show kL 1 2 [] ((3 : Nat) : Int) (3 + 1) = [0, 2, 3] from by decide] at hown1
  obtain ⟨A1, c1, rfl, hrd1⟩ := hown1.rd
  have Hrd1 := Lib.hid hrd1
  clear hown1 hrd1
  have cd2_0 := kd2.cell 0
  have cd2_1 := kd2.cell 1
  have cd2_2 := kd2.cell 2
  have ld2 := kd2.lt
  go_wp2_with fail
  clear cd2_0 cd2_1 cd2_2
  have hbw3 := hbw2.alloc hbw2.size (.cells #[.int .i64 0, .int .i64 2, .int .i64 3] 3)
  have lt3_d_s := kd2.lt
  have kd3 := kd2.alloc (.cells #[.int .i64 0, .int .i64 2, .int .i64 3] 3)
  have ks3 := Blk.new w2 3 #[.int .i64 0, .int .i64 2, .int .i64 3]
  have Hr3 := Lib.hid (RdI.built w2 #[.int .i64 0, .int .i64 2, .int .i64 3] [0, 2, 3] 3 rfl rfl (by decide))
  refine (equal_any [0, 2, 3] [0, 2, 3] A1 _ 3 3 c1 3 _ _ _ (Hrd1.out.alloc (Nat.le_refl _) _) Hr3.out rfl).mono ?_
  rintro e w4 ⟨rfl, hb4⟩
  have hbw4 := hbw3.trans (hb4.mono hbw3.size)
  have kd4 := kd3.below hb4 kd3.lt
  clear hb4
  clear Hr3 Hrd1
  have cd4_0 := kd4.cell 0
  have cd4_1 := kd4.cell 1
  have cd4_2 := kd4.cell 2
  have ld4 := kd4.lt
  go_wp2_with fail
  refine (within_any head 640 _ (by decide) (by decide)).mono ?_
  rintro e1 w9 ⟨rfl, rfl⟩
  have hH := wi_lt head 640 (by decide)
  generalize wi head 640 = K at *
  have hK1 : (K : Int) ≤ 639 := by omega
  have hK0 : (0 : Int) ≤ (K : Int) := by omega
  clear hH
  go_wp2_with fail
  clear cd4_0 cd4_1 cd4_2
  refine (keep_err last every p _ A n c w.heap.size _ (H.out.below hbw4) hbw4.size Hk.out).mono ?_
  rintro e w5 ⟨rfl, hb5⟩
  have hbw5 := hbw4.trans (hb5.mono hbw4.size)
  have kd5 := kd4.below hb5 kd4.lt
  clear hb5
  have cd5_0 := kd5.cell 0
  have cd5_1 := kd5.cell 1
  have cd5_2 := kd5.cell 2
  have ld5 := kd5.lt
  go_wp2_with fail
  clear cd5_0 cd5_1 cd5_2
  refine (keep_err last every p _ A n c w.heap.size _ (H.out.below hbw5) hbw5.size Hk.out).mono ?_
  rintro e w6 ⟨rfl, hb6⟩
  have hbw6 := hbw5.trans (hb6.mono hbw5.size)
  have kd6 := kd5.below hb6 kd5.lt
  clear hb6
  have cd6_0 := kd6.cell 0
  have cd6_1 := kd6.cell 1
  have cd6_2 := kd6.cell 2
  have ld6 := kd6.lt
  go_wp2_with fail
  clear cd6_0 cd6_1 cd6_2
  refine (floor_err last every p _ A n c w.heap.size _ (H.out.below hbw6) hbw6.size Hk.out).mono ?_
  rintro e w7 ⟨rfl, hb7⟩
  have hbw7 := hbw6.trans (hb7.mono hbw6.size)
  have kd7 := kd6.below hb7 kd6.lt
  clear hb7
  have cd7_0 := kd7.cell 0
  have cd7_1 := kd7.cell 1
  have cd7_2 := kd7.cell 2
  have ld7 := kd7.lt
  go_wp2_with fail
  clear cd7_0 cd7_1 cd7_2
  refine (floor_err last every p _ A n c w.heap.size _ (H.out.below hbw7) hbw7.size Hk.out).mono ?_
  rintro e w8 ⟨rfl, hb8⟩
  have hbw8 := hbw7.trans (hb8.mono hbw7.size)
  have kd8 := kd7.below hb8 kd7.lt
  clear hb8
  go_wp2_with fail
  go_ret
  exact ⟨rfl, hbw8⟩
theorem falls_good (last every : Int) (p : List Int) (A : Option Addr) (n c : Nat) (head : Int) (w : World) (h : RdI w w.heap.size A n c p) (hk : kchk last every p = 0) :
    Calls Try.prog 4 #[pol last every A n c, .int .i64 head] w fun e w' => e = .returned (.bool true) ∧ Below w.heap.size w w' := by
  have hbw0 : Below w.heap.size w w := Below.refl _ _
  have H := Lib.hid h
  have Hk := Lib.hid hk
  have Hl := Lib.hid (kchk_zero _ _ _ hk).1
  clear h hk
  unfold pol
  go_enter Try.func4, Try.ntmps4
  have hbw1 := hbw0.alloc hbw0.size (.cells #[.int .i64 last, .int .i64 every, .slice A n c] 31)
  have kd1 := Blk.new w 31 #[.int .i64 last, .int .i64 every, .slice A n c]
  go_wp2_with fail
  refine (keep_good 1 2 [] 3 none 0 0 0 _ ⟨rfl, Rd.nil _ _ _⟩ (Nat.zero_le _) (by decide) (by decide)).mono ?_
  rintro e1 w2 ⟨⟨v1, rfl, hown1⟩, hb2⟩
  have hbw2 := hbw1.trans (hb2.mono hbw1.size)
  have kd2 := kd1.below hb2 kd1.lt
  clear hb2
  rw [show kL 1 2 [] ((3 : Nat) : Int) (3 + 1) = [0, 2, 3] from by decide] at hown1
  obtain ⟨A1, c1, rfl, hrd1⟩ := hown1.rd
  have Hrd1 := Lib.hid hrd1
  clear hown1 hrd1
  have cd2_0 := kd2.cell 0
  have cd2_1 := kd2.cell 1
  have cd2_2 := kd2.cell 2
  have ld2 := kd2.lt
  go_wp2_with fail
  clear cd2_0 cd2_1 cd2_2
  have hbw3 := hbw2.alloc hbw2.size (.cells #[.int .i64 0, .int .i64 2, .int .i64 3] 3)
  have lt3_d_s := kd2.lt
  have kd3 := kd2.alloc (.cells #[.int .i64 0, .int .i64 2, .int .i64 3] 3)
  have ks3 := Blk.new w2 3 #[.int .i64 0, .int .i64 2, .int .i64 3]
  have Hr3 := Lib.hid (RdI.built w2 #[.int .i64 0, .int .i64 2, .int .i64 3] [0, 2, 3] 3 rfl rfl (by decide))
  refine (equal_any [0, 2, 3] [0, 2, 3] A1 _ 3 3 c1 3 _ _ _ (Hrd1.out.alloc (Nat.le_refl _) _) Hr3.out rfl).mono ?_
  rintro e w4 ⟨rfl, hb4⟩
  have hbw4 := hbw3.trans (hb4.mono hbw3.size)
  have kd4 := kd3.below hb4 kd3.lt
  clear hb4
  clear Hr3 Hrd1
  have cd4_0 := kd4.cell 0
  have cd4_1 := kd4.cell 1
  have cd4_2 := kd4.cell 2
  have ld4 := kd4.lt
  go_wp2_with fail
  refine (within_any head 640 _ (by decide) (by decide)).mono ?_
  rintro e1 w9 ⟨rfl, rfl⟩
  have hH := wi_lt head 640 (by decide)
  generalize wi head 640 = K at *
  have hK1 : (K : Int) ≤ 639 := by omega
  have hK0 : (0 : Int) ≤ (K : Int) := by omega
  clear hH
  go_wp2_with fail
  clear cd4_0 cd4_1 cd4_2
  have hcast : ((K + 1 : Nat) : Int) = (K : Int) + 1 := by omega
  have Hcast := Lib.hid hcast
  clear hcast
  have hcall0 := keep_good last every p K A n c w.heap.size w4 (H.out.below hbw4) hbw4.size Hk.out (by omega)
  unfold pol at hcall0
  refine (hcall0).mono ?_
  rintro e1 w5 ⟨⟨va0, rfl, hown0⟩, hb5⟩
  have hbw5 := hbw4.trans (hb5.mono hbw4.size)
  have kd5 := kd4.below hb5 kd4.lt
  clear hb5
  clear hcall0
  obtain ⟨A0, c0, rfl, hrd0⟩ := hown0.rd
  have Hrd0 := Lib.hid hrd0
  clear hown0 hrd0
  have chA5 : Below w5.heap.size w5 w5 := Below.refl _ _
  have Hrds0 := Hrd0
  clear Hrd0
  have cd5_0 := kd5.cell 0
  have cd5_1 := kd5.cell 1
  have cd5_2 := kd5.cell 2
  have ld5 := kd5.lt
  go_wp2_with fail
  clear cd5_0 cd5_1 cd5_2
  have hcall1 := keep_good last every p (K + 1) A n c w.heap.size w5 (H.out.below hbw5) hbw5.size Hk.out (by omega)
  rw [Hcast.out] at hcall1
  unfold pol at hcall1
  refine (hcall1).mono ?_
  rintro e1 w6 ⟨⟨va1, rfl, hown1⟩, hb6⟩
  have hbw6 := hbw5.trans (hb6.mono hbw5.size)
  have chA6 := chA5.trans (hb6.mono chA5.size)
  have kd6 := kd5.below hb6 kd5.lt
  clear hb6
  clear hcall1
  obtain ⟨A1, c1, rfl, hrd1⟩ := hown1.rd
  have Hrd1 := Lib.hid hrd1
  clear hown1 hrd1
  have chB6 : Below w6.heap.size w6 w6 := Below.refl _ _
  have cd6_0 := kd6.cell 0
  have cd6_1 := kd6.cell 1
  have cd6_2 := kd6.cell 2
  have ld6 := kd6.lt
  go_wp2_with fail
  clear cd6_0 cd6_1 cd6_2
  have hcall2 := floor_good last every p K A n c w.heap.size w6 (H.out.below hbw6) hbw6.size Hk.out (by omega)
  unfold pol at hcall2
  refine (hcall2).mono ?_
  rintro e w7 ⟨rfl, hb7⟩
  have hbw7 := hbw6.trans (hb7.mono hbw6.size)
  have chA7 := chA6.trans (hb7.mono chA6.size)
  have chB7 := chB6.trans (hb7.mono chB6.size)
  have kd7 := kd6.below hb7 kd6.lt
  clear hb7
  clear hcall2
  have cd7_0 := kd7.cell 0
  have cd7_1 := kd7.cell 1
  have cd7_2 := kd7.cell 2
  have ld7 := kd7.lt
  go_wp2_with fail
  clear cd7_0 cd7_1 cd7_2
  have hcall3 := floor_good last every p (K + 1) A n c w.heap.size w7 (H.out.below hbw7) hbw7.size Hk.out (by omega)
  rw [Hcast.out] at hcall3
  unfold pol at hcall3
  refine (hcall3).mono ?_
  rintro e w8 ⟨rfl, hb8⟩
  have hbw8 := hbw7.trans (hb8.mono hbw7.size)
  have chA8 := chA7.trans (hb8.mono chA7.size)
  have chB8 := chB7.trans (hb8.mono chB7.size)
  have kd8 := kd7.below hb8 kd7.lt
  clear hb8
  clear hcall3
  have hL0 := kL_mem last every p K (K + 1)
  have Hmem0 := Lib.hid hL0
  have hL1 := kL_mem last every p ((K + 1 : Nat) : Int) (K + 1 + 1)
  rw [Hcast.out] at hL1
  have Hmem1 := Lib.hid hL1
  have Hup := Lib.hid (up_kL last every p ((K : Int) + 1) (K + 1 + 1))
  have hlast := kL_last last every p (K + 1) Hl.out
  rw [Hcast.out] at hlast
  have Hlast := Lib.hid hlast
  have Hmono := Lib.hid (kF_mono last every p K Hl.out)
  have Hget := Lib.hid (kF_get last every p K)
  have Hle := Lib.hid (kF_le last every p K)
  have Hpos := Lib.hid (kL_pos last every p K Hl.out)
  clear hL0 hL1 hlast
  generalize kF last every p K = x at *
  generalize kF last every p (K + 1) = y at *
  generalize kL last every p (K : Int) (K + 1) = La at *
  generalize hLbe : kL last every p ((K : Int) + 1) (K + 1 + 1) = Lb at *
  clear hLbe
  generalize kL last every p ((K : Int) + 1) (K + 1) = Lc at *
  have hxy : x ≤ y := Hmono.out
  obtain ⟨ma, hma⟩ : ∃ m, m = La.length := ⟨_, rfl⟩
  obtain ⟨mb, hmb⟩ : ∃ m, m = Lb.length := ⟨_, rfl⟩
  rw [← hma] at Hrds0
  rw [← hmb] at Hrd1
  rw [← hma, ← hmb]
  have Hma := Lib.hid hma
  have Hmb := Lib.hid hmb
  have hmb1 : (1 : Int) ≤ (mb : Int) := by rw [hmb, Hlast.out, List.length_append, List.length_singleton]; omega
  have hma1 : 0 < ma := by rw [hma]; exact Hpos.out
  clear hma hmb
  have hrA := Hrds0.out.below chA8
  have hrB := Hrd1.out.below chB8
  have HrA := Lib.hid hrA
  have HrB := Lib.hid hrB
  clear hrA hrB Hrds0 Hrd1
  have hmbl := HrB.out.le
  go_wp2_with fail
  go_loop [15, 16, 86] (fun _ _ i => ∃ j : Nat, j ≤ mb ∧ i = .int .i64 j) (fun _ _ i => mb - (intOf i).toNat)
  case atStart => exact ⟨0, by omega, rfl⟩
  case round =>
    obtain ⟨j, hj, rfl⟩ := hrel
    by_cases hlt : j < mb
    · obtain ⟨b, o, rfl, hbb, hc⟩ := HrB.out.at_ j hlt
      have hjl : j < Lb.length := by have := Hmb.out; omega
      have hin : Hid (Lb[j] ∈ Lb) := Lib.hid (List.getElem_mem hjl)
      have hprev : Hid (∀ h : 0 < j, Lb[j - 1] < Lb[j]) := Lib.hid fun h => by
        have := up_at Lb (j - 1) Hup.out (by omega)
        simpa [Nat.sub_add_cancel h] using this
      have hcp : Hid (0 < j → ∀ b o, (some ⟨b, o, none⟩ : Option Addr) = some ⟨b, o, none⟩ → True) := Lib.hid fun _ _ _ _ => trivial
      have hk0 : (0 : Int) ≤ (j : Int) := by omega
      have hkn : (j : Int) < (mb : Int) := by omega
      obtain ⟨z, hz⟩ : ∃ z, z = Lb[j] := ⟨_, rfl⟩
      rw [← hz] at hc hin hprev
      clear hz
      have hz0 := ((Hmem1.out z).1 hin.out).1
      have hzm : Hid (z ≤ (K : Int) → decide (z ∈ La) = true) := Lib.hid fun hle => by
        rw [decide_eq_true_iff, Hmem0.out]
        exact ⟨hz0, by omega, kB_fall ((Hmem1.out z).1 hin.out).2.2⟩
      by_cases hj0 : 0 < j
      · obtain ⟨b2, o2, e2, _, hc2⟩ := HrB.out.at_ (j - 1) (by omega)
        obtain ⟨rfl, rfl⟩ : b2 = b ∧ o2 = o := by injection e2 with e2; injection e2 with e1 e2; exact ⟨e1.symm, e2.symm⟩
        have hzz := hprev.out hj0
        generalize Lb[j - 1] = z2 at *
        have hjp : (0 : Int) < (j : Int) := by omega
        have hjd : decide (0 < j) = true := by simpa using hj0
        clear e2 hprev
        by_cases hle : z ≤ (K : Int)
        · go_wp2_with fail
          refine (contains_any La z A0 ma c0 _ _ HrA.out true (hzm.out hle)).mono ?_
          rintro e2 w2 ⟨rfl, rfl⟩
          go_wp2_with fail
          go_round
          case rel => exact ⟨j + 1, by omega, by go_num⟩
          case measure => simp [intOf]; omega
        · have hled : decide (z ≤ (K : Int)) = false := by simpa using hle
          go_wp2_with fail
          go_round
          case rel => exact ⟨j + 1, by omega, by go_num⟩
          case measure => simp [intOf]; omega
      · obtain rfl : j = 0 := by omega
        clear hprev
        rw [Nat.add_zero] at hc
        by_cases hle : z ≤ (K : Int)
        · go_wp2_with fail
          refine (contains_any La z A0 ma c0 _ _ HrA.out true (hzm.out hle)).mono ?_
          rintro e2 w2 ⟨rfl, rfl⟩
          go_wp2_with fail
          go_round
          case rel => exact ⟨1, by omega, rfl⟩
          case measure => simp [intOf]; omega
        · have hled : decide (z ≤ (K : Int)) = false := by simpa using hle
          go_wp2_with fail
          go_round
          case rel => exact ⟨1, by omega, rfl⟩
          case measure => simp [intOf]; omega
    · obtain rfl : j = mb := by omega
      have hcK : Hid (decide ((K : Int) ∈ La) = true) := Lib.hid (by rw [decide_eq_true_iff, Hmem0.out]; exact ⟨by omega, by omega, kB_last (by have := Hl.out; omega)⟩)
      obtain ⟨b, o, rfl, hbb, hc⟩ := HrB.out.at_ (j - 1) (by omega)
      have hlv : Lb[j - 1]'(by have := Hmb.out; omega) = (K : Int) + 1 := by
        have h1 := Hlast.out
        have h2 := Hmb.out
        subst h1
        rw [List.length_append, List.length_singleton] at h2
        rw [List.getElem_append_right (by omega)]
        simp [show j - 1 - Lc.length = 0 by omega]
      rw [hlv] at hc
      clear hlv
      have hj1 : (0 : Int) < (j : Int) := by omega
      have hj2 : decide (0 < j) = true := by simp; omega
      go_wp2_with fail
      refine (contains_any La K A0 ma c0 _ _ HrA.out true hcK.out).mono ?_
      rintro e2 w2 ⟨rfl, rfl⟩
      go_wp2_with fail
      refine (min_any La x A0 ma c0 _ _ HrA.out hma1 (fun h => Hget.out h) (fun y hy => Hle.out y hy)).mono ?_
      rintro e2 w2 ⟨rfl, rfl⟩
      go_wp2_with fail
      go_ret
      exact ⟨rfl, hbw8⟩
theorem walk_KeepFalls (v : Value) (x : Int × Int × List Int) (head : Int) (wh : (Lit.int .i64 head).wf = true) (w : World) (hx : IsPolicy w v x) :
    Calls Try.prog 4 #[v, .int .i64 head] w fun e w' => e = .returned (.bool true) ∧ Below w.heap.size w w' := by
  obtain ⟨last, every, p⟩ := x
  obtain ⟨A, n, c, rfl, h⟩ := hx
  by_cases hk : kchk last every p = 0
  · exact falls_good last every p A n c head w h hk
  · exact falls_err last every p A n c head w h hk
end Go.Proofs.Ytbgaoehpljnolaa
