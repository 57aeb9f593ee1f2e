/- DiskSafe: the walk. A crash takes nothing that is safe. Written by gen_disksafe.py. -/
import Derived.Test.YtdaiemhepaakfaaDiskMore
import Derived.Test.YtdaiemhepaakfaaDiskCrash
import Derived.Test.YtdaiemhepaakfaaOpenDisk
import Derived.ChangeKeysEq
namespace Go.Proofs.Ytdaiemhepaakfaa
open Go.ChangeShapes Go.WideShapes Go.RowKit
set_option linter.unusedVariables false
set_option linter.unusedSimpArgs false
set_option maxRecDepth 100000
set_option maxHeartbeats 4000000
theorem run_eq_slots (d : Nat) (xs ys : Array Value) (w : World) : (Op.equalIn (d + 1) 54 (.agg xs) (.agg ys)).run Try.prog w = (Op.eqItems d 53 2 xs ys [0, 1]).run Try.prog w := by
  have hi : (Try.prog.info? 53).isSome = true := by kernel_rfl
  obtain ⟨i, hi⟩ := Option.isSome_iff_exists.1 hi
  have hc : Try.prog.cellsOf 53 = 2 := by kernel_rfl
  rw [run_equalIn_array w d xs ys Try.underlying54 hi, hc]
  rfl
attribute [local go_sem] run_eq_slots Op.eqItems
theorem crash_form (a : ByteArray) (sa k : Int) (h0 : 0 ≤ sa) (h1 : sa ≤ (a.size : Int)) : ∃ n : Nat, sa ≤ (n : Int) ∧ (n : Int) ≤ (a.size : Int) ∧ crashS (a, sa) k = (a.extract 0 n, (n : Int)) := by
  refine ⟨(sa + max 0 (min k ((a.size : Int) - sa))).toNat, by omega, by omega, ?_⟩
  unfold crashS
  simp only
  rw [Int.toNat_of_nonneg (by omega)]
theorem ext_size (a : ByteArray) (n : Nat) (h : (n : Int) ≤ (a.size : Int)) : (a.extract 0 n).size = n := by rw [← bs_len, bs_extract, List.length_drop, List.length_take, bs_len]; omega
theorem crash_again (a : ByteArray) (n : Nat) (k : Int) (h : (n : Int) ≤ (a.size : Int)) : crashS (a.extract 0 n, (n : Int)) k = (a.extract 0 n, (n : Int)) := by
  have hs := ext_size a n h
  have e : (n : Int) + max 0 (min k (((a.extract 0 n).size : Int) - (n : Int))) = (n : Int) := by omega
  unfold crashS
  simp only
  rw [e, Int.toNat_natCast]
  have : (a.extract 0 n).extract 0 n = a.extract 0 n := by
    apply bs_ext
    rw [bs_extract, List.drop_zero, List.take_of_length_le (by rw [bs_len]; omega)]
  rw [this]
theorem crash_whole (a : ByteArray) (k : Int) : crashS (a, (a.size : Int)) k = (a, (a.size : Int)) := by
  have e : (a.size : Int) + max 0 (min k ((a.size : Int) - (a.size : Int))) = (a.size : Int) := by omega
  unfold crashS
  simp only
  rw [e, Int.toNat_natCast]
  have : a.extract 0 a.size = a := by
    apply bs_ext
    rw [bs_extract, List.drop_zero, List.take_of_length_le (by rw [bs_len]; exact Nat.le_refl _)]
  rw [this]
theorem chk_of (x y : Slt) (h1 : (x.1.size : Int) ≤ 1048576) (h2 : (y.1.size : Int) ≤ 1048576) (h3 : 0 ≤ x.2) (h4 : x.2 ≤ (x.1.size : Int)) (h5 : 0 ≤ y.2) (h6 : y.2 ≤ (y.1.size : Int)) : dchk x y = 0 := by
  have hx : sbad x = 0 := by unfold sbad; rw [if_neg (by omega), if_neg (by omega)]
  have hy : sbad y = 0 := by unfold sbad; rw [if_neg (by omega), if_neg (by omega)]
  unfold dchk
  rw [hx, hy]
  simp
theorem look_of (x y : Slt) (i : Int) (hi : i = 0 ∨ i = 1) (h : dchk x y = 0) : dlook x y i = 0 := by
  unfold dlook
  rw [h]
  simp
  omega

theorem safe_look (a b : ByteArray) (sa sb : Int) (i : Int) (s : ByteArray) (hs : s.size ≤ 140737488351232) (ka kb : Int) (h : dlook (a, sa) (b, sb) i ≠ 0) (w : World) :
    Calls Try.prog 11 #[dvl (a, sa) (b, sb), .int .i64 i, .string s, .int .i64 ka, .int .i64 kb] w fun e w' => e = .returned (.bool true) ∧ Below w.heap.size w w' := by
  have hbw0 : Below w.heap.size w w := Below.refl _ _
  unfold dvl
  simp only
  go_enter Try.func11, Try.ntmps11
  have hbw1 := hbw0.alloc hbw0.size (.cells #[.string a, .int .i64 sa, .string b, .int .i64 sb] 56)
  have kd1 := Blk.new w 56 #[.string a, .int .i64 sa, .string b, .int .i64 sb]
  go_wp2_with fail
  refine (dappend_good dzero dzero 1 ⟨#[97, 98]⟩ (by decide) _ (by decide)).mono ?_
  rintro e w2 ⟨rfl, hb2⟩
  have hbw2 := hbw1.trans (hb2.mono hbw1.size)
  have kd2 := kd1.below hb2 kd1.lt
  clear hb2
  rw [show dapp dzero dzero 1 ⟨#[97, 98]⟩ = (dzero, (⟨#[97, 98]⟩, 0), 0) from by decide]
  unfold dres dvl dzero
  simp only
  have cd2_0 := kd2.cell 0
  have cd2_1 := kd2.cell 1
  have cd2_2 := kd2.cell 2
  have cd2_3 := kd2.cell 3
  have ld2 := kd2.lt
  go_wp2_with fail
  clear cd2_0 cd2_1 cd2_2 cd2_3
  have hbw3 := hbw2.alloc hbw2.size (.cells #[.string ⟨#[]⟩, .int .i64 0, .string ⟨#[97, 98]⟩, .int .i64 0] 56)
  have lt3_d_x0 := kd2.lt
  have kd3 := kd2.alloc (.cells #[.string ⟨#[]⟩, .int .i64 0, .string ⟨#[97, 98]⟩, .int .i64 0] 56)
  have kx03 := Blk.new w2 56 #[.string ⟨#[]⟩, .int .i64 0, .string ⟨#[97, 98]⟩, .int .i64 0]
  have hne : ((dlook (a, sa) (b, sb) i) != 0) = true := by simpa using h
  refine (dappend_look (a, sa) (b, sb) i s _ h).mono ?_
  rintro e w4 ⟨rfl, hb4⟩
  have hbw4 := hbw3.trans (hb4.mono hbw3.size)
  have kd4 := kd3.below hb4 kd3.lt
  have kx04 := kx03.below hb4 kx03.lt
  clear hb4
  unfold dres dvl dzero
  simp only
  go_wp2_with fail
  go_ret
  exact ⟨rfl, hbw4.alloc hbw4.size _⟩
theorem safe_large0 (a b : ByteArray) (sa sb : Int) (s : ByteArray) (hs : s.size ≤ 140737488351232) (ka kb : Int) (h : dlook (a, sa) (b, sb) 0 = 0) (ha : 1048576 < a.size + s.size) (w : World) :
    Calls Try.prog 11 #[dvl (a, sa) (b, sb), .int .i64 0, .string s, .int .i64 ka, .int .i64 kb] w fun e w' => e = .returned (.bool true) ∧ Below w.heap.size w w' := by
  have hbw0 : Below w.heap.size w w := Below.refl _ _
  have hav : Hid (dapp (a, sa) (b, sb) 0 s = (dzero, dzero, 2)) := by unfold dapp; rw [if_pos rfl]; rw [if_pos (by simp only; omega)]; exact Lib.hid rfl
  unfold dvl
  simp only
  go_enter Try.func11, Try.ntmps11
  have hbw1 := hbw0.alloc hbw0.size (.cells #[.string a, .int .i64 sa, .string b, .int .i64 sb] 56)
  have kd1 := Blk.new w 56 #[.string a, .int .i64 sa, .string b, .int .i64 sb]
  go_wp2_with fail
  refine (dappend_good dzero dzero 1 ⟨#[97, 98]⟩ (by decide) _ (by decide)).mono ?_
  rintro e w2 ⟨rfl, hb2⟩
  have hbw2 := hbw1.trans (hb2.mono hbw1.size)
  have kd2 := kd1.below hb2 kd1.lt
  clear hb2
  rw [show dapp dzero dzero 1 ⟨#[97, 98]⟩ = (dzero, (⟨#[97, 98]⟩, 0), 0) from by decide]
  unfold dres dvl dzero
  simp only
  have cd2_0 := kd2.cell 0
  have cd2_1 := kd2.cell 1
  have cd2_2 := kd2.cell 2
  have cd2_3 := kd2.cell 3
  have ld2 := kd2.lt
  go_wp2_with fail
  clear cd2_0 cd2_1 cd2_2 cd2_3
  have hbw3 := hbw2.alloc hbw2.size (.cells #[.string ⟨#[]⟩, .int .i64 0, .string ⟨#[97, 98]⟩, .int .i64 0] 56)
  have lt3_d_x0 := kd2.lt
  have kd3 := kd2.alloc (.cells #[.string ⟨#[]⟩, .int .i64 0, .string ⟨#[97, 98]⟩, .int .i64 0] 56)
  have kx03 := Blk.new w2 56 #[.string ⟨#[]⟩, .int .i64 0, .string ⟨#[97, 98]⟩, .int .i64 0]
  refine (dappend_good (a, sa) (b, sb) 0 s (by omega) _ h).mono ?_
  rintro e w4 ⟨rfl, hb4⟩
  have hbw4 := hbw3.trans (hb4.mono hbw3.size)
  have kd4 := kd3.below hb4 kd3.lt
  have kx04 := kx03.below hb4 kx03.lt
  clear hb4
  rw [hav.out]
  unfold dres dvl dzero
  simp only
  go_wp2_with fail
  go_ret
  exact ⟨rfl, hbw4.alloc hbw4.size _⟩
theorem safe_large1 (a b : ByteArray) (sa sb : Int) (s : ByteArray) (hs : s.size ≤ 140737488351232) (ka kb : Int) (h : dlook (a, sa) (b, sb) 1 = 0) (ha : 1048576 < b.size + s.size) (w : World) :
    Calls Try.prog 11 #[dvl (a, sa) (b, sb), .int .i64 1, .string s, .int .i64 ka, .int .i64 kb] w fun e w' => e = .returned (.bool true) ∧ Below w.heap.size w w' := by
  have hbw0 : Below w.heap.size w w := Below.refl _ _
  have hav : Hid (dapp (a, sa) (b, sb) 1 s = (dzero, dzero, 2)) := by unfold dapp; rw [if_neg (by decide)]; rw [if_pos (by simp only; omega)]; exact Lib.hid rfl
  unfold dvl
  simp only
  go_enter Try.func11, Try.ntmps11
  have hbw1 := hbw0.alloc hbw0.size (.cells #[.string a, .int .i64 sa, .string b, .int .i64 sb] 56)
  have kd1 := Blk.new w 56 #[.string a, .int .i64 sa, .string b, .int .i64 sb]
  go_wp2_with fail
  refine (dappend_good dzero dzero 1 ⟨#[97, 98]⟩ (by decide) _ (by decide)).mono ?_
  rintro e w2 ⟨rfl, hb2⟩
  have hbw2 := hbw1.trans (hb2.mono hbw1.size)
  have kd2 := kd1.below hb2 kd1.lt
  clear hb2
  rw [show dapp dzero dzero 1 ⟨#[97, 98]⟩ = (dzero, (⟨#[97, 98]⟩, 0), 0) from by decide]
  unfold dres dvl dzero
  simp only
  have cd2_0 := kd2.cell 0
  have cd2_1 := kd2.cell 1
  have cd2_2 := kd2.cell 2
  have cd2_3 := kd2.cell 3
  have ld2 := kd2.lt
  go_wp2_with fail
  clear cd2_0 cd2_1 cd2_2 cd2_3
  have hbw3 := hbw2.alloc hbw2.size (.cells #[.string ⟨#[]⟩, .int .i64 0, .string ⟨#[97, 98]⟩, .int .i64 0] 56)
  have lt3_d_x0 := kd2.lt
  have kd3 := kd2.alloc (.cells #[.string ⟨#[]⟩, .int .i64 0, .string ⟨#[97, 98]⟩, .int .i64 0] 56)
  have kx03 := Blk.new w2 56 #[.string ⟨#[]⟩, .int .i64 0, .string ⟨#[97, 98]⟩, .int .i64 0]
  refine (dappend_good (a, sa) (b, sb) 1 s (by omega) _ h).mono ?_
  rintro e w4 ⟨rfl, hb4⟩
  have hbw4 := hbw3.trans (hb4.mono hbw3.size)
  have kd4 := kd3.below hb4 kd3.lt
  have kx04 := kx03.below hb4 kx03.lt
  clear hb4
  rw [hav.out]
  unfold dres dvl dzero
  simp only
  go_wp2_with fail
  go_ret
  exact ⟨rfl, hbw4.alloc hbw4.size _⟩
theorem safe_good0 (a b : ByteArray) (sa sb : Int) (s : ByteArray) (hs : s.size ≤ 140737488351232) (ka kb : Int) (h : dlook (a, sa) (b, sb) 0 = 0) (ha : ¬ 1048576 < a.size + s.size) (w : World) :
    Calls Try.prog 11 #[dvl (a, sa) (b, sb), .int .i64 0, .string s, .int .i64 ka, .int .i64 kb] w fun e w' => e = .returned (.bool true) ∧ Below w.heap.size w w' := by
  have hbw0 : Below w.heap.size w w := Below.refl _ _
  have hz := dlook_zero _ _ _ h
  simp only at hz
  obtain ⟨_, hsa, hsb, ha0, ha1, hb0, hb1'⟩ := hz
  obtain ⟨A, hA⟩ : ∃ A, A = a ++ s := ⟨_, rfl⟩
  have hsA : (A.size : Int) ≤ 1048576 ∧ (a.size : Int) ≤ (A.size : Int) := by rw [hA, ByteArray.size_append]; omega
  have hav : Hid (dapp (a, sa) (b, sb) 0 s = ((A, sa), (b, sb), 0)) := by unfold dapp; rw [if_pos rfl]; rw [if_neg (by simp only; omega), hA]; exact Lib.hid rfl
  clear hA
  have hck := chk_of (A, sa) (b, sb) (by simp only; omega) (by simp only; omega) ha0 (by simp only; omega) hb0 (by simp only; omega)
  obtain ⟨m, hm1, hm2, hm3⟩ := crash_form A sa ka ha0 (by omega)
  obtain ⟨n, hn1, hn2, hn3⟩ := crash_form b sb kb hb0 (by omega)
  have hm4 := crash_again A m kb hm2
  have hn4 := crash_again b n ka hn2
  have hlm := ext_size A m hm2
  have hln := ext_size b n hn2
  have hck2 := chk_of (A.extract 0 m, (m : Int)) (b.extract 0 n, (n : Int)) (by simp only; omega) (by simp only; omega) (by simp only; omega) (by simp only; omega) (by simp only; omega) (by simp only; omega)
  have Hck := Lib.hid hck
  clear hck
  have Hm3 := Lib.hid hm3
  clear hm3
  have Hn3 := Lib.hid hn3
  clear hn3
  have Hm4 := Lib.hid hm4
  clear hm4
  have Hn4 := Lib.hid hn4
  clear hn4
  have Hlm := Lib.hid hlm
  clear hlm
  have Hln := Lib.hid hln
  clear hln
  have Hck2 := Lib.hid hck2
  clear hck2
  unfold dvl
  simp only
  go_enter Try.func11, Try.ntmps11
  have hbw1 := hbw0.alloc hbw0.size (.cells #[.string a, .int .i64 sa, .string b, .int .i64 sb] 56)
  have kd1 := Blk.new w 56 #[.string a, .int .i64 sa, .string b, .int .i64 sb]
  go_wp2_with fail
  refine (dappend_good dzero dzero 1 ⟨#[97, 98]⟩ (by decide) _ (by decide)).mono ?_
  rintro e w2 ⟨rfl, hb2⟩
  have hbw2 := hbw1.trans (hb2.mono hbw1.size)
  have kd2 := kd1.below hb2 kd1.lt
  clear hb2
  rw [show dapp dzero dzero 1 ⟨#[97, 98]⟩ = (dzero, (⟨#[97, 98]⟩, 0), 0) from by decide]
  unfold dres dvl dzero
  simp only
  have cd2_0 := kd2.cell 0
  have cd2_1 := kd2.cell 1
  have cd2_2 := kd2.cell 2
  have cd2_3 := kd2.cell 3
  have ld2 := kd2.lt
  go_wp2_with fail
  clear cd2_0 cd2_1 cd2_2 cd2_3
  have hbw3 := hbw2.alloc hbw2.size (.cells #[.string ⟨#[]⟩, .int .i64 0, .string ⟨#[97, 98]⟩, .int .i64 0] 56)
  have lt3_d_x0 := kd2.lt
  have kd3 := kd2.alloc (.cells #[.string ⟨#[]⟩, .int .i64 0, .string ⟨#[97, 98]⟩, .int .i64 0] 56)
  have kx03 := Blk.new w2 56 #[.string ⟨#[]⟩, .int .i64 0, .string ⟨#[97, 98]⟩, .int .i64 0]
  refine (dappend_good (a, sa) (b, sb) 0 s (by omega) _ h).mono ?_
  rintro e w4 ⟨rfl, hb4⟩
  have hbw4 := hbw3.trans (hb4.mono hbw3.size)
  have kd4 := kd3.below hb4 kd3.lt
  have kx04 := kx03.below hb4 kx03.lt
  clear hb4
  rw [hav.out]
  unfold dres dvl
  simp only
  go_wp2_with fail
  have hbw5 := hbw4.alloc hbw4.size (.cells #[.string A, .int .i64 sa, .string b, .int .i64 sb] 56)
  have lt5_d_x := kd4.lt
  have lt5_x0_x := kx04.lt
  have kd5 := kd4.alloc (.cells #[.string A, .int .i64 sa, .string b, .int .i64 sb] 56)
  have kx05 := kx04.alloc (.cells #[.string A, .int .i64 sa, .string b, .int .i64 sb] 56)
  have kx5 := Blk.new w4 56 #[.string A, .int .i64 sa, .string b, .int .i64 sb]
  refine (dcrash_good (A, sa) (b, sb) ka kb _ Hck.out).mono ?_
  rintro e w6 ⟨rfl, hb6⟩
  have hbw6 := hbw5.trans (hb6.mono hbw5.size)
  have kd6 := kd5.below hb6 kd5.lt
  have kx06 := kx05.below hb6 kx05.lt
  have kx6 := kx5.below hb6 kx5.lt
  clear hb6
  rw [Hm3.out, Hn3.out]
  unfold dres dvl
  simp only
  have cx6_0 := kx6.cell 0
  have cx6_1 := kx6.cell 1
  have cx6_2 := kx6.cell 2
  have cx6_3 := kx6.cell 3
  have lx6 := kx6.lt
  go_wp2_with fail
  clear cx6_0 cx6_1 cx6_2 cx6_3
  have hbw7 := hbw6.alloc hbw6.size (.cells #[.string (A.extract 0 m), .int .i64 (m : Int), .string (b.extract 0 n), .int .i64 (n : Int)] 56)
  have lt7_d_c := kd6.lt
  have lt7_x0_c := kx06.lt
  have lt7_x_c := kx6.lt
  have kd7 := kd6.alloc (.cells #[.string (A.extract 0 m), .int .i64 (m : Int), .string (b.extract 0 n), .int .i64 (n : Int)] 56)
  have kx07 := kx06.alloc (.cells #[.string (A.extract 0 m), .int .i64 (m : Int), .string (b.extract 0 n), .int .i64 (n : Int)] 56)
  have kx7 := kx6.alloc (.cells #[.string (A.extract 0 m), .int .i64 (m : Int), .string (b.extract 0 n), .int .i64 (n : Int)] 56)
  have kc7 := Blk.new w6 56 #[.string (A.extract 0 m), .int .i64 (m : Int), .string (b.extract 0 n), .int .i64 (n : Int)]
  refine (dcrash_good (A.extract 0 m, (m : Int)) (b.extract 0 n, (n : Int)) kb ka _ Hck2.out).mono ?_
  rintro e w8 ⟨rfl, hb8⟩
  have hbw8 := hbw7.trans (hb8.mono hbw7.size)
  have kd8 := kd7.below hb8 kd7.lt
  have kx08 := kx07.below hb8 kx07.lt
  have kx8 := kx7.below hb8 kx7.lt
  have kc8 := kc7.below hb8 kc7.lt
  clear hb8
  rw [Hm4.out, Hn4.out]
  unfold dres dvl
  simp only
  have cx8_0 := kx8.cell 0
  have cx8_1 := kx8.cell 1
  have cx8_2 := kx8.cell 2
  have cx8_3 := kx8.cell 3
  have cc8_0 := kc8.cell 0
  have cc8_1 := kc8.cell 1
  have cc8_2 := kc8.cell 2
  have cc8_3 := kc8.cell 3
  have lx8 := kx8.lt
  have lc8 := kc8.lt
  go_wp2_with fail
  have i0 := slot_at0 (A.extract 0 m) (b.extract 0 n) (m : Int) (n : Int)
  have i1 := slot_at1 (A.extract 0 m) (b.extract 0 n) (m : Int) (n : Int)
  refine wp_loop_rounds 3 ?_
  rw [rounds_succ]
  have hlm2 := Hlm.out
  have hln2 := Hln.out
  have p0 : (0 : Int) ≤ (m : Int) := by omega
  have p1 : (0 : Int) ≤ (n : Int) := by omega
  have u0 : decide (A.size < m) = false := by simp; omega
  have u1 : decide (b.size < n) = false := by simp; omega
  go_wp2_with fail
  go_quiet (fail)
  go_wp2_with fail
  clear cx8_0 cx8_1 cx8_2 cx8_3 cc8_0 cc8_1 cc8_2 cc8_3
  have hbw9 := hbw8.alloc hbw8.size (.cells #[.string (A.extract 0 m), .int .i64 (m : Int), .string (b.extract 0 n), .int .i64 (n : Int)] 56)
  have lt9_d_z := kd8.lt
  have lt9_x0_z := kx08.lt
  have lt9_x_z := kx8.lt
  have lt9_c_z := kc8.lt
  have kd9 := kd8.alloc (.cells #[.string (A.extract 0 m), .int .i64 (m : Int), .string (b.extract 0 n), .int .i64 (n : Int)] 56)
  have kx09 := kx08.alloc (.cells #[.string (A.extract 0 m), .int .i64 (m : Int), .string (b.extract 0 n), .int .i64 (n : Int)] 56)
  have kx9 := kx8.alloc (.cells #[.string (A.extract 0 m), .int .i64 (m : Int), .string (b.extract 0 n), .int .i64 (n : Int)] 56)
  have kc9 := kc8.alloc (.cells #[.string (A.extract 0 m), .int .i64 (m : Int), .string (b.extract 0 n), .int .i64 (n : Int)] 56)
  have kz9 := Blk.new w8 56 #[.string (A.extract 0 m), .int .i64 (m : Int), .string (b.extract 0 n), .int .i64 (n : Int)]
  have hbw10 := hbw9.alloc hbw9.size (.cells #[.string (A.extract 0 m), .int .i64 (m : Int)] 53)
  have lt10_d_y := kd9.lt
  have lt10_x0_y := kx09.lt
  have lt10_x_y := kx9.lt
  have lt10_c_y := kc9.lt
  have lt10_z_y := kz9.lt
  have kd10 := kd9.alloc (.cells #[.string (A.extract 0 m), .int .i64 (m : Int)] 53)
  have kx010 := kx09.alloc (.cells #[.string (A.extract 0 m), .int .i64 (m : Int)] 53)
  have kx10 := kx9.alloc (.cells #[.string (A.extract 0 m), .int .i64 (m : Int)] 53)
  have kc10 := kc9.alloc (.cells #[.string (A.extract 0 m), .int .i64 (m : Int)] 53)
  have kz10 := kz9.alloc (.cells #[.string (A.extract 0 m), .int .i64 (m : Int)] 53)
  have ky10 := Blk.new (w8.alloc (.cells #[.string (A.extract 0 m), .int .i64 (m : Int), .string (b.extract 0 n), .int .i64 (n : Int)] 56)) 53 #[.string (A.extract 0 m), .int .i64 (m : Int)]
  have hbw11 := below_drewN hbw10 nq
  have kx11 := kx10.drewN nq
  have kc11 := kc10.drewN nq
  generalize hW11 : ((w8.alloc (.cells #[.string (A.extract 0 m), .int .i64 (m : Int), .string (b.extract 0 n), .int .i64 (n : Int)] 56)).alloc (.cells #[.string (A.extract 0 m), .int .i64 (m : Int)] 53)).drewN nq = W1 at *
  clear hW11
  have cx11_0 := kx11.cell 0
  have cx11_1 := kx11.cell 1
  have cx11_2 := kx11.cell 2
  have cx11_3 := kx11.cell 3
  have cc11_0 := kc11.cell 0
  have cc11_1 := kc11.cell 1
  have cc11_2 := kc11.cell 2
  have cc11_3 := kc11.cell 3
  have lx11 := kx11.lt
  have lc11 := kc11.lt
  rw [rounds_succ]
  go_wp2_with fail
  go_quiet (fail)
  go_wp2_with fail
  rw [rounds_succ]
  go_wp2_with fail
  clear cx11_0 cx11_1 cx11_2 cx11_3 cc11_0 cc11_1 cc11_2 cc11_3
  have hbw12 := hbw11.alloc hbw11.size (.cells #[.string (b.extract 0 n), .int .i64 (n : Int)] 53)
  have lt12_x_y := kx11.lt
  have lt12_c_y := kc11.lt
  have kx12 := kx11.alloc (.cells #[.string (b.extract 0 n), .int .i64 (n : Int)] 53)
  have kc12 := kc11.alloc (.cells #[.string (b.extract 0 n), .int .i64 (n : Int)] 53)
  have ky12 := Blk.new W1 53 #[.string (b.extract 0 n), .int .i64 (n : Int)]
  have hbw13 := below_drewN hbw12 nq
  have kx13 := kx12.drewN nq
  have kc13 := kc12.drewN nq
  generalize hW13 : (W1.alloc (.cells #[.string (b.extract 0 n), .int .i64 (n : Int)] 53)).drewN nq = W2 at *
  clear hW13
  refine (dsync_good (A, sa) (b, sb) 0 _ (look_of _ _ _ (by left; rfl) Hck.out)).mono ?_
  rintro e w14 ⟨rfl, hb14⟩
  have hbw14 := hbw13.trans (hb14.mono hbw13.size)
  have kx14 := kx13.below hb14 kx13.lt
  have kc14 := kc13.below hb14 kc13.lt
  clear hb14
  rw [show dsyn (A, sa) (b, sb) 0 = ((A, (A.size : Int)), (b, sb)) from rfl]
  unfold dres dvl
  simp only
  have cx14_0 := kx14.cell 0
  have cx14_1 := kx14.cell 1
  have cx14_2 := kx14.cell 2
  have cx14_3 := kx14.cell 3
  have lx14 := kx14.lt
  have fx14_0 := kx14.frozen 0
  have fx14_1 := kx14.frozen 1
  have fx14_2 := kx14.frozen 2
  have fx14_3 := kx14.frozen 3
  go_wp2_with fail
  clear cx14_0 fx14_0 cx14_1 fx14_1 cx14_2 fx14_2 cx14_3 fx14_3
  have hbw15 : Below w.heap.size w ((((w14.setCell ⟨w4.heap.size, 0, none⟩ (.string A)).setCell ⟨w4.heap.size, 1, none⟩ (.int .i64 (A.size : Int))).setCell ⟨w4.heap.size, 2, none⟩ (.string b)).setCell ⟨w4.heap.size, 3, none⟩ (.int .i64 sb)) := ((((hbw14.setCell (p := ⟨w4.heap.size, 0, none⟩) hbw4.size (.string A)).setCell (p := ⟨w4.heap.size, 1, none⟩) hbw4.size (.int .i64 (A.size : Int))).setCell (p := ⟨w4.heap.size, 2, none⟩) hbw4.size (.string b)).setCell (p := ⟨w4.heap.size, 3, none⟩) hbw4.size (.int .i64 sb))
  have kx15 : Blk ((((w14.setCell ⟨w4.heap.size, 0, none⟩ (.string A)).setCell ⟨w4.heap.size, 1, none⟩ (.int .i64 (A.size : Int))).setCell ⟨w4.heap.size, 2, none⟩ (.string b)).setCell ⟨w4.heap.size, 3, none⟩ (.int .i64 sb)) w4.heap.size 56 #[.string A, .int .i64 (A.size : Int), .string b, .int .i64 sb] := ((((kx14.set_ 0 (.string A)).set_ 1 (.int .i64 (A.size : Int))).set_ 2 (.string b)).set_ 3 (.int .i64 sb))
  have kc15 : Blk ((((w14.setCell ⟨w4.heap.size, 0, none⟩ (.string A)).setCell ⟨w4.heap.size, 1, none⟩ (.int .i64 (A.size : Int))).setCell ⟨w4.heap.size, 2, none⟩ (.string b)).setCell ⟨w4.heap.size, 3, none⟩ (.int .i64 sb)) w6.heap.size 56 #[.string (A.extract 0 m), .int .i64 (m : Int), .string (b.extract 0 n), .int .i64 (n : Int)] := ((((kc14.far (p := ⟨w4.heap.size, 0, none⟩) (Nat.ne_of_gt lt7_x_c) (.string A)).far (p := ⟨w4.heap.size, 1, none⟩) (Nat.ne_of_gt lt7_x_c) (.int .i64 (A.size : Int))).far (p := ⟨w4.heap.size, 2, none⟩) (Nat.ne_of_gt lt7_x_c) (.string b)).far (p := ⟨w4.heap.size, 3, none⟩) (Nat.ne_of_gt lt7_x_c) (.int .i64 sb))
  obtain ⟨q, hq1, hq2, hq3⟩ := crash_form b sb (-1) (by omega) (by omega)
  have Hq3 := Lib.hid hq3
  clear hq3
  refine (dcrash_good (A, (A.size : Int)) (b, sb) (-1) (-1) _ (chk_of _ _ (by simp only; omega) (by simp only; omega) (by simp only; omega) (by simp only; omega) (by simp only; omega) (by simp only; omega))).mono ?_
  rintro e w16 ⟨rfl, hb16⟩
  have hbw16 := hbw15.trans (hb16.mono hbw15.size)
  have kx16 := kx15.below hb16 kx15.lt
  have kc16 := kc15.below hb16 kc15.lt
  clear hb16
  rw [crash_whole, Hq3.out]
  unfold dres dvl
  simp only
  have cx16_0 := kx16.cell 0
  have cx16_1 := kx16.cell 1
  have cx16_2 := kx16.cell 2
  have cx16_3 := kx16.cell 3
  have cc16_0 := kc16.cell 0
  have cc16_1 := kc16.cell 1
  have cc16_2 := kc16.cell 2
  have cc16_3 := kc16.cell 3
  have lx16 := kx16.lt
  have lc16 := kc16.lt
  have fc16_0 := kc16.frozen 0
  have fc16_1 := kc16.frozen 1
  have fc16_2 := kc16.frozen 2
  have fc16_3 := kc16.frozen 3
  have ltxc := lt7_x_c
  go_wp2_with fail
  go_quiet (fail)
  go_wp2_with fail
  go_ret
  have hbw17 : Below w.heap.size w ((((w16.setCell ⟨w6.heap.size, 0, none⟩ (.string A)).setCell ⟨w6.heap.size, 1, none⟩ (.int .i64 (A.size : Int))).setCell ⟨w6.heap.size, 2, none⟩ (.string (b.extract 0 q))).setCell ⟨w6.heap.size, 3, none⟩ (.int .i64 (q : Int))) := ((((hbw16.setCell (p := ⟨w6.heap.size, 0, none⟩) hbw6.size (.string A)).setCell (p := ⟨w6.heap.size, 1, none⟩) hbw6.size (.int .i64 (A.size : Int))).setCell (p := ⟨w6.heap.size, 2, none⟩) hbw6.size (.string (b.extract 0 q))).setCell (p := ⟨w6.heap.size, 3, none⟩) hbw6.size (.int .i64 (q : Int)))
  have kx17 : Blk ((((w16.setCell ⟨w6.heap.size, 0, none⟩ (.string A)).setCell ⟨w6.heap.size, 1, none⟩ (.int .i64 (A.size : Int))).setCell ⟨w6.heap.size, 2, none⟩ (.string (b.extract 0 q))).setCell ⟨w6.heap.size, 3, none⟩ (.int .i64 (q : Int))) w4.heap.size 56 #[.string A, .int .i64 (A.size : Int), .string b, .int .i64 sb] := ((((kx16.far (p := ⟨w6.heap.size, 0, none⟩) (Nat.ne_of_lt lt7_x_c) (.string A)).far (p := ⟨w6.heap.size, 1, none⟩) (Nat.ne_of_lt lt7_x_c) (.int .i64 (A.size : Int))).far (p := ⟨w6.heap.size, 2, none⟩) (Nat.ne_of_lt lt7_x_c) (.string (b.extract 0 q))).far (p := ⟨w6.heap.size, 3, none⟩) (Nat.ne_of_lt lt7_x_c) (.int .i64 (q : Int)))
  have kc17 : Blk ((((w16.setCell ⟨w6.heap.size, 0, none⟩ (.string A)).setCell ⟨w6.heap.size, 1, none⟩ (.int .i64 (A.size : Int))).setCell ⟨w6.heap.size, 2, none⟩ (.string (b.extract 0 q))).setCell ⟨w6.heap.size, 3, none⟩ (.int .i64 (q : Int))) w6.heap.size 56 #[.string A, .int .i64 (A.size : Int), .string (b.extract 0 q), .int .i64 (q : Int)] := ((((kc16.set_ 0 (.string A)).set_ 1 (.int .i64 (A.size : Int))).set_ 2 (.string (b.extract 0 q))).set_ 3 (.int .i64 (q : Int)))
  exact ⟨rfl, below_drewN hbw17 _⟩
theorem safe_good1 (a b : ByteArray) (sa sb : Int) (s : ByteArray) (hs : s.size ≤ 140737488351232) (ka kb : Int) (h : dlook (a, sa) (b, sb) 1 = 0) (ha : ¬ 1048576 < b.size + s.size) (w : World) :
    Calls Try.prog 11 #[dvl (a, sa) (b, sb), .int .i64 1, .string s, .int .i64 ka, .int .i64 kb] w fun e w' => e = .returned (.bool true) ∧ Below w.heap.size w w' := by
  have hbw0 : Below w.heap.size w w := Below.refl _ _
  have hz := dlook_zero _ _ _ h
  simp only at hz
  obtain ⟨_, hsa, hsb, ha0, ha1, hb0, hb1'⟩ := hz
  obtain ⟨A, hA⟩ : ∃ A, A = b ++ s := ⟨_, rfl⟩
  have hsA : (A.size : Int) ≤ 1048576 ∧ (b.size : Int) ≤ (A.size : Int) := by rw [hA, ByteArray.size_append]; omega
  have hav : Hid (dapp (a, sa) (b, sb) 1 s = ((a, sa), (A, sb), 0)) := by unfold dapp; rw [if_neg (by decide)]; rw [if_neg (by simp only; omega), hA]; exact Lib.hid rfl
  clear hA
  have hck := chk_of (a, sa) (A, sb) (by simp only; omega) (by simp only; omega) ha0 (by simp only; omega) hb0 (by simp only; omega)
  obtain ⟨m, hm1, hm2, hm3⟩ := crash_form a sa ka ha0 (by omega)
  obtain ⟨n, hn1, hn2, hn3⟩ := crash_form A sb kb hb0 (by omega)
  have hm4 := crash_again a m kb hm2
  have hn4 := crash_again A n ka hn2
  have hlm := ext_size a m hm2
  have hln := ext_size A n hn2
  have hck2 := chk_of (a.extract 0 m, (m : Int)) (A.extract 0 n, (n : Int)) (by simp only; omega) (by simp only; omega) (by simp only; omega) (by simp only; omega) (by simp only; omega) (by simp only; omega)
  have Hck := Lib.hid hck
  clear hck
  have Hm3 := Lib.hid hm3
  clear hm3
  have Hn3 := Lib.hid hn3
  clear hn3
  have Hm4 := Lib.hid hm4
  clear hm4
  have Hn4 := Lib.hid hn4
  clear hn4
  have Hlm := Lib.hid hlm
  clear hlm
  have Hln := Lib.hid hln
  clear hln
  have Hck2 := Lib.hid hck2
  clear hck2
  unfold dvl
  simp only
  go_enter Try.func11, Try.ntmps11
  have hbw1 := hbw0.alloc hbw0.size (.cells #[.string a, .int .i64 sa, .string b, .int .i64 sb] 56)
  have kd1 := Blk.new w 56 #[.string a, .int .i64 sa, .string b, .int .i64 sb]
  go_wp2_with fail
  refine (dappend_good dzero dzero 1 ⟨#[97, 98]⟩ (by decide) _ (by decide)).mono ?_
  rintro e w2 ⟨rfl, hb2⟩
  have hbw2 := hbw1.trans (hb2.mono hbw1.size)
  have kd2 := kd1.below hb2 kd1.lt
  clear hb2
  rw [show dapp dzero dzero 1 ⟨#[97, 98]⟩ = (dzero, (⟨#[97, 98]⟩, 0), 0) from by decide]
  unfold dres dvl dzero
  simp only
  have cd2_0 := kd2.cell 0
  have cd2_1 := kd2.cell 1
  have cd2_2 := kd2.cell 2
  have cd2_3 := kd2.cell 3
  have ld2 := kd2.lt
  go_wp2_with fail
  clear cd2_0 cd2_1 cd2_2 cd2_3
  have hbw3 := hbw2.alloc hbw2.size (.cells #[.string ⟨#[]⟩, .int .i64 0, .string ⟨#[97, 98]⟩, .int .i64 0] 56)
  have lt3_d_x0 := kd2.lt
  have kd3 := kd2.alloc (.cells #[.string ⟨#[]⟩, .int .i64 0, .string ⟨#[97, 98]⟩, .int .i64 0] 56)
  have kx03 := Blk.new w2 56 #[.string ⟨#[]⟩, .int .i64 0, .string ⟨#[97, 98]⟩, .int .i64 0]
  refine (dappend_good (a, sa) (b, sb) 1 s (by omega) _ h).mono ?_
  rintro e w4 ⟨rfl, hb4⟩
  have hbw4 := hbw3.trans (hb4.mono hbw3.size)
  have kd4 := kd3.below hb4 kd3.lt
  have kx04 := kx03.below hb4 kx03.lt
  clear hb4
  rw [hav.out]
  unfold dres dvl
  simp only
  go_wp2_with fail
  have hbw5 := hbw4.alloc hbw4.size (.cells #[.string a, .int .i64 sa, .string A, .int .i64 sb] 56)
  have lt5_d_x := kd4.lt
  have lt5_x0_x := kx04.lt
  have kd5 := kd4.alloc (.cells #[.string a, .int .i64 sa, .string A, .int .i64 sb] 56)
  have kx05 := kx04.alloc (.cells #[.string a, .int .i64 sa, .string A, .int .i64 sb] 56)
  have kx5 := Blk.new w4 56 #[.string a, .int .i64 sa, .string A, .int .i64 sb]
  refine (dcrash_good (a, sa) (A, sb) ka kb _ Hck.out).mono ?_
  rintro e w6 ⟨rfl, hb6⟩
  have hbw6 := hbw5.trans (hb6.mono hbw5.size)
  have kd6 := kd5.below hb6 kd5.lt
  have kx06 := kx05.below hb6 kx05.lt
  have kx6 := kx5.below hb6 kx5.lt
  clear hb6
  rw [Hm3.out, Hn3.out]
  unfold dres dvl
  simp only
  have cx6_0 := kx6.cell 0
  have cx6_1 := kx6.cell 1
  have cx6_2 := kx6.cell 2
  have cx6_3 := kx6.cell 3
  have lx6 := kx6.lt
  go_wp2_with fail
  clear cx6_0 cx6_1 cx6_2 cx6_3
  have hbw7 := hbw6.alloc hbw6.size (.cells #[.string (a.extract 0 m), .int .i64 (m : Int), .string (A.extract 0 n), .int .i64 (n : Int)] 56)
  have lt7_d_c := kd6.lt
  have lt7_x0_c := kx06.lt
  have lt7_x_c := kx6.lt
  have kd7 := kd6.alloc (.cells #[.string (a.extract 0 m), .int .i64 (m : Int), .string (A.extract 0 n), .int .i64 (n : Int)] 56)
  have kx07 := kx06.alloc (.cells #[.string (a.extract 0 m), .int .i64 (m : Int), .string (A.extract 0 n), .int .i64 (n : Int)] 56)
  have kx7 := kx6.alloc (.cells #[.string (a.extract 0 m), .int .i64 (m : Int), .string (A.extract 0 n), .int .i64 (n : Int)] 56)
  have kc7 := Blk.new w6 56 #[.string (a.extract 0 m), .int .i64 (m : Int), .string (A.extract 0 n), .int .i64 (n : Int)]
  refine (dcrash_good (a.extract 0 m, (m : Int)) (A.extract 0 n, (n : Int)) kb ka _ Hck2.out).mono ?_
  rintro e w8 ⟨rfl, hb8⟩
  have hbw8 := hbw7.trans (hb8.mono hbw7.size)
  have kd8 := kd7.below hb8 kd7.lt
  have kx08 := kx07.below hb8 kx07.lt
  have kx8 := kx7.below hb8 kx7.lt
  have kc8 := kc7.below hb8 kc7.lt
  clear hb8
  rw [Hm4.out, Hn4.out]
  unfold dres dvl
  simp only
  have cx8_0 := kx8.cell 0
  have cx8_1 := kx8.cell 1
  have cx8_2 := kx8.cell 2
  have cx8_3 := kx8.cell 3
  have cc8_0 := kc8.cell 0
  have cc8_1 := kc8.cell 1
  have cc8_2 := kc8.cell 2
  have cc8_3 := kc8.cell 3
  have lx8 := kx8.lt
  have lc8 := kc8.lt
  go_wp2_with fail
  have i0 := slot_at0 (a.extract 0 m) (A.extract 0 n) (m : Int) (n : Int)
  have i1 := slot_at1 (a.extract 0 m) (A.extract 0 n) (m : Int) (n : Int)
  refine wp_loop_rounds 3 ?_
  rw [rounds_succ]
  have hlm2 := Hlm.out
  have hln2 := Hln.out
  have p0 : (0 : Int) ≤ (m : Int) := by omega
  have p1 : (0 : Int) ≤ (n : Int) := by omega
  have u0 : decide (a.size < m) = false := by simp; omega
  have u1 : decide (A.size < n) = false := by simp; omega
  go_wp2_with fail
  go_quiet (fail)
  go_wp2_with fail
  clear cx8_0 cx8_1 cx8_2 cx8_3 cc8_0 cc8_1 cc8_2 cc8_3
  have hbw9 := hbw8.alloc hbw8.size (.cells #[.string (a.extract 0 m), .int .i64 (m : Int), .string (A.extract 0 n), .int .i64 (n : Int)] 56)
  have lt9_d_z := kd8.lt
  have lt9_x0_z := kx08.lt
  have lt9_x_z := kx8.lt
  have lt9_c_z := kc8.lt
  have kd9 := kd8.alloc (.cells #[.string (a.extract 0 m), .int .i64 (m : Int), .string (A.extract 0 n), .int .i64 (n : Int)] 56)
  have kx09 := kx08.alloc (.cells #[.string (a.extract 0 m), .int .i64 (m : Int), .string (A.extract 0 n), .int .i64 (n : Int)] 56)
  have kx9 := kx8.alloc (.cells #[.string (a.extract 0 m), .int .i64 (m : Int), .string (A.extract 0 n), .int .i64 (n : Int)] 56)
  have kc9 := kc8.alloc (.cells #[.string (a.extract 0 m), .int .i64 (m : Int), .string (A.extract 0 n), .int .i64 (n : Int)] 56)
  have kz9 := Blk.new w8 56 #[.string (a.extract 0 m), .int .i64 (m : Int), .string (A.extract 0 n), .int .i64 (n : Int)]
  have hbw10 := hbw9.alloc hbw9.size (.cells #[.string (a.extract 0 m), .int .i64 (m : Int)] 53)
  have lt10_d_y := kd9.lt
  have lt10_x0_y := kx09.lt
  have lt10_x_y := kx9.lt
  have lt10_c_y := kc9.lt
  have lt10_z_y := kz9.lt
  have kd10 := kd9.alloc (.cells #[.string (a.extract 0 m), .int .i64 (m : Int)] 53)
  have kx010 := kx09.alloc (.cells #[.string (a.extract 0 m), .int .i64 (m : Int)] 53)
  have kx10 := kx9.alloc (.cells #[.string (a.extract 0 m), .int .i64 (m : Int)] 53)
  have kc10 := kc9.alloc (.cells #[.string (a.extract 0 m), .int .i64 (m : Int)] 53)
  have kz10 := kz9.alloc (.cells #[.string (a.extract 0 m), .int .i64 (m : Int)] 53)
  have ky10 := Blk.new (w8.alloc (.cells #[.string (a.extract 0 m), .int .i64 (m : Int), .string (A.extract 0 n), .int .i64 (n : Int)] 56)) 53 #[.string (a.extract 0 m), .int .i64 (m : Int)]
  have hbw11 := below_drewN hbw10 nq
  have kx11 := kx10.drewN nq
  have kc11 := kc10.drewN nq
  generalize hW11 : ((w8.alloc (.cells #[.string (a.extract 0 m), .int .i64 (m : Int), .string (A.extract 0 n), .int .i64 (n : Int)] 56)).alloc (.cells #[.string (a.extract 0 m), .int .i64 (m : Int)] 53)).drewN nq = W1 at *
  clear hW11
  have cx11_0 := kx11.cell 0
  have cx11_1 := kx11.cell 1
  have cx11_2 := kx11.cell 2
  have cx11_3 := kx11.cell 3
  have cc11_0 := kc11.cell 0
  have cc11_1 := kc11.cell 1
  have cc11_2 := kc11.cell 2
  have cc11_3 := kc11.cell 3
  have lx11 := kx11.lt
  have lc11 := kc11.lt
  rw [rounds_succ]
  go_wp2_with fail
  go_quiet (fail)
  go_wp2_with fail
  rw [rounds_succ]
  go_wp2_with fail
  clear cx11_0 cx11_1 cx11_2 cx11_3 cc11_0 cc11_1 cc11_2 cc11_3
  have hbw12 := hbw11.alloc hbw11.size (.cells #[.string (A.extract 0 n), .int .i64 (n : Int)] 53)
  have lt12_x_y := kx11.lt
  have lt12_c_y := kc11.lt
  have kx12 := kx11.alloc (.cells #[.string (A.extract 0 n), .int .i64 (n : Int)] 53)
  have kc12 := kc11.alloc (.cells #[.string (A.extract 0 n), .int .i64 (n : Int)] 53)
  have ky12 := Blk.new W1 53 #[.string (A.extract 0 n), .int .i64 (n : Int)]
  have hbw13 := below_drewN hbw12 nq
  have kx13 := kx12.drewN nq
  have kc13 := kc12.drewN nq
  generalize hW13 : (W1.alloc (.cells #[.string (A.extract 0 n), .int .i64 (n : Int)] 53)).drewN nq = W2 at *
  clear hW13
  refine (dsync_good (a, sa) (A, sb) 1 _ (look_of _ _ _ (by right; rfl) Hck.out)).mono ?_
  rintro e w14 ⟨rfl, hb14⟩
  have hbw14 := hbw13.trans (hb14.mono hbw13.size)
  have kx14 := kx13.below hb14 kx13.lt
  have kc14 := kc13.below hb14 kc13.lt
  clear hb14
  rw [show dsyn (a, sa) (A, sb) 1 = ((a, sa), (A, (A.size : Int))) from rfl]
  unfold dres dvl
  simp only
  have cx14_0 := kx14.cell 0
  have cx14_1 := kx14.cell 1
  have cx14_2 := kx14.cell 2
  have cx14_3 := kx14.cell 3
  have lx14 := kx14.lt
  have fx14_0 := kx14.frozen 0
  have fx14_1 := kx14.frozen 1
  have fx14_2 := kx14.frozen 2
  have fx14_3 := kx14.frozen 3
  go_wp2_with fail
  clear cx14_0 fx14_0 cx14_1 fx14_1 cx14_2 fx14_2 cx14_3 fx14_3
  have hbw15 : Below w.heap.size w ((((w14.setCell ⟨w4.heap.size, 0, none⟩ (.string a)).setCell ⟨w4.heap.size, 1, none⟩ (.int .i64 sa)).setCell ⟨w4.heap.size, 2, none⟩ (.string A)).setCell ⟨w4.heap.size, 3, none⟩ (.int .i64 (A.size : Int))) := ((((hbw14.setCell (p := ⟨w4.heap.size, 0, none⟩) hbw4.size (.string a)).setCell (p := ⟨w4.heap.size, 1, none⟩) hbw4.size (.int .i64 sa)).setCell (p := ⟨w4.heap.size, 2, none⟩) hbw4.size (.string A)).setCell (p := ⟨w4.heap.size, 3, none⟩) hbw4.size (.int .i64 (A.size : Int)))
  have kx15 : Blk ((((w14.setCell ⟨w4.heap.size, 0, none⟩ (.string a)).setCell ⟨w4.heap.size, 1, none⟩ (.int .i64 sa)).setCell ⟨w4.heap.size, 2, none⟩ (.string A)).setCell ⟨w4.heap.size, 3, none⟩ (.int .i64 (A.size : Int))) w4.heap.size 56 #[.string a, .int .i64 sa, .string A, .int .i64 (A.size : Int)] := ((((kx14.set_ 0 (.string a)).set_ 1 (.int .i64 sa)).set_ 2 (.string A)).set_ 3 (.int .i64 (A.size : Int)))
  have kc15 : Blk ((((w14.setCell ⟨w4.heap.size, 0, none⟩ (.string a)).setCell ⟨w4.heap.size, 1, none⟩ (.int .i64 sa)).setCell ⟨w4.heap.size, 2, none⟩ (.string A)).setCell ⟨w4.heap.size, 3, none⟩ (.int .i64 (A.size : Int))) w6.heap.size 56 #[.string (a.extract 0 m), .int .i64 (m : Int), .string (A.extract 0 n), .int .i64 (n : Int)] := ((((kc14.far (p := ⟨w4.heap.size, 0, none⟩) (Nat.ne_of_gt lt7_x_c) (.string a)).far (p := ⟨w4.heap.size, 1, none⟩) (Nat.ne_of_gt lt7_x_c) (.int .i64 sa)).far (p := ⟨w4.heap.size, 2, none⟩) (Nat.ne_of_gt lt7_x_c) (.string A)).far (p := ⟨w4.heap.size, 3, none⟩) (Nat.ne_of_gt lt7_x_c) (.int .i64 (A.size : Int)))
  obtain ⟨q, hq1, hq2, hq3⟩ := crash_form a sa (-1) (by omega) (by omega)
  have Hq3 := Lib.hid hq3
  clear hq3
  refine (dcrash_good (a, sa) (A, (A.size : Int)) (-1) (-1) _ (chk_of _ _ (by simp only; omega) (by simp only; omega) (by simp only; omega) (by simp only; omega) (by simp only; omega) (by simp only; omega))).mono ?_
  rintro e w16 ⟨rfl, hb16⟩
  have hbw16 := hbw15.trans (hb16.mono hbw15.size)
  have kx16 := kx15.below hb16 kx15.lt
  have kc16 := kc15.below hb16 kc15.lt
  clear hb16
  rw [crash_whole, Hq3.out]
  unfold dres dvl
  simp only
  have cx16_0 := kx16.cell 0
  have cx16_1 := kx16.cell 1
  have cx16_2 := kx16.cell 2
  have cx16_3 := kx16.cell 3
  have cc16_0 := kc16.cell 0
  have cc16_1 := kc16.cell 1
  have cc16_2 := kc16.cell 2
  have cc16_3 := kc16.cell 3
  have lx16 := kx16.lt
  have lc16 := kc16.lt
  have fc16_0 := kc16.frozen 0
  have fc16_1 := kc16.frozen 1
  have fc16_2 := kc16.frozen 2
  have fc16_3 := kc16.frozen 3
  have ltxc := lt7_x_c
  go_wp2_with fail
  go_quiet (fail)
  go_wp2_with fail
  go_ret
  have hbw17 : Below w.heap.size w ((((w16.setCell ⟨w6.heap.size, 0, none⟩ (.string (a.extract 0 q))).setCell ⟨w6.heap.size, 1, none⟩ (.int .i64 (q : Int))).setCell ⟨w6.heap.size, 2, none⟩ (.string A)).setCell ⟨w6.heap.size, 3, none⟩ (.int .i64 (A.size : Int))) := ((((hbw16.setCell (p := ⟨w6.heap.size, 0, none⟩) hbw6.size (.string (a.extract 0 q))).setCell (p := ⟨w6.heap.size, 1, none⟩) hbw6.size (.int .i64 (q : Int))).setCell (p := ⟨w6.heap.size, 2, none⟩) hbw6.size (.string A)).setCell (p := ⟨w6.heap.size, 3, none⟩) hbw6.size (.int .i64 (A.size : Int)))
  have kx17 : Blk ((((w16.setCell ⟨w6.heap.size, 0, none⟩ (.string (a.extract 0 q))).setCell ⟨w6.heap.size, 1, none⟩ (.int .i64 (q : Int))).setCell ⟨w6.heap.size, 2, none⟩ (.string A)).setCell ⟨w6.heap.size, 3, none⟩ (.int .i64 (A.size : Int))) w4.heap.size 56 #[.string a, .int .i64 sa, .string A, .int .i64 (A.size : Int)] := ((((kx16.far (p := ⟨w6.heap.size, 0, none⟩) (Nat.ne_of_lt lt7_x_c) (.string (a.extract 0 q))).far (p := ⟨w6.heap.size, 1, none⟩) (Nat.ne_of_lt lt7_x_c) (.int .i64 (q : Int))).far (p := ⟨w6.heap.size, 2, none⟩) (Nat.ne_of_lt lt7_x_c) (.string A)).far (p := ⟨w6.heap.size, 3, none⟩) (Nat.ne_of_lt lt7_x_c) (.int .i64 (A.size : Int)))
  have kc17 : Blk ((((w16.setCell ⟨w6.heap.size, 0, none⟩ (.string (a.extract 0 q))).setCell ⟨w6.heap.size, 1, none⟩ (.int .i64 (q : Int))).setCell ⟨w6.heap.size, 2, none⟩ (.string A)).setCell ⟨w6.heap.size, 3, none⟩ (.int .i64 (A.size : Int))) w6.heap.size 56 #[.string (a.extract 0 q), .int .i64 (q : Int), .string A, .int .i64 (A.size : Int)] := ((((kc16.set_ 0 (.string (a.extract 0 q))).set_ 1 (.int .i64 (q : Int))).set_ 2 (.string A)).set_ 3 (.int .i64 (A.size : Int)))
  exact ⟨rfl, below_drewN hbw17 _⟩
theorem walk_DiskSafe (v : Value) (d : Slt × Slt) (hd : IsDisk v d) (i : Int) (wi' : (Lit.int .i64 i).wf = true) (s : ByteArray) (hs : s.size ≤ 140737488351232) (ka : Int) (wa : (Lit.int .i64 ka).wf = true) (kb : Int) (wb : (Lit.int .i64 kb).wf = true) (w : World) :
    Calls Try.prog 11 #[v, .int .i64 i, .string s, .int .i64 ka, .int .i64 kb] w fun e w' => e = .returned (.bool true) ∧ Below w.heap.size w w' := by
  obtain ⟨⟨a, sa⟩, ⟨b, sb⟩⟩ := d
  obtain ⟨rfl, hda, hdb⟩ := hd
  by_cases h : dlook (a, sa) (b, sb) i = 0
  · rcases (dlook_zero _ _ _ h).1 with rfl | rfl
    · by_cases ha : 1048576 < a.size + s.size
      · exact safe_large0 a b sa sb s hs ka kb h ha w
      · exact safe_good0 a b sa sb s hs ka kb h ha w
    · by_cases ha : 1048576 < b.size + s.size
      · exact safe_large1 a b sa sb s hs ka kb h ha w
      · exact safe_good1 a b sa sb s hs ka kb h ha w
  · exact safe_look a b sa sb i s hs ka kb h w
end Go.Proofs.Ytdaiemhepaakfaa
