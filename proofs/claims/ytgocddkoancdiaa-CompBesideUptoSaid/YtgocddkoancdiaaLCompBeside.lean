/- CompBeside: the walk. What is done beside each other, one after the other. -/
import Derived.Test.YtgocddkoancdiaaConcat
import Derived.Test.YtgocddkoancdiaaComp
import Derived.Test.YtgocddkoancdiaaBesideLaw
import Derived.Test.YtgocddkoancdiaaSame
import Derived.Test.YtgocddkoancdiaaOpenPartsU
namespace Go.Proofs.Ytgocddkoancdiaa
open Go.ChangeShapes Go.WideShapes Go.RowKit
set_option linter.unusedVariables false
set_option linter.unusedSimpArgs false
set_option maxRecDepth 100000
set_option maxHeartbeats 4000000


theorem compL_len (a b : List Pt) : ((compL a b).length : Int) ≤ 1048576 := by
  by_cases h : compE a b = 0
  · have := (chk_parts (comp_chk h).2.2.2.2).1; omega
  · rw [comp_err h]; decide

theorem compBeside_e1 (a b c d : List Pt) (A1 A2 A3 A4 : Option Addr) (n1 n2 n3 n4 k1 k2 k3 k4 : Nat) (w : World) (ha : RdP w w.heap.size A1 n1 k1 a) (hb : RdP w w.heap.size A2 n2 k2 b) (hc : RdP w w.heap.size A3 n3 k3 c) (hd : RdP w w.heap.size A4 n4 k4 d) (ha1 : (n1 : Int) ≤ 1048576) (hb1 : (n2 : Int) ≤ 1048576) (hc1 : (n3 : Int) ≤ 1048576) (hd1 : (n4 : Int) ≤ 1048576) (h1 : compE a b ≠ 0) :
    Calls Try.prog 12 #[.slice A1 n1 k1, .slice A2 n2 k2, .slice A3 n3 k3, .slice A4 n4 k4] w fun e w' => e = .returned (.bool true) ∧ Below w.heap.size w w' := by
  have hbw0 : Below w.heap.size w w := Below.refl _ _
  have Ha := Lib.hid ha
  clear ha
  have Hb := Lib.hid hb
  clear hb
  have Hc := Lib.hid hc
  clear hc
  have Hd := Lib.hid hd
  clear hd
  have hne : (compE a b != 0) = true := by simpa using h1
  have Hh1 := Lib.hid h1
  clear h1
  have hab := compL_len a b
  have hcd := compL_len c d
  go_enter Try.func12, Try.ntmps12
  go_wp2_with fail
  have hc := put_any ⟨#[97]⟩ (by decide) w
  refine (hc).mono ?_
  rintro e w1 ⟨Ap, rfl, hrp, hb1⟩
  have hbw1 := hbw0.trans (hb1.mono hbw0.size)
  have Ha1 := Lib.hid (RdP.step Ha.out hb1)
  clear Ha
  have Ha := Ha1
  clear Ha1
  have Hb1 := Lib.hid (RdP.step Hb.out hb1)
  clear Hb
  have Hb := Hb1
  clear Hb1
  have Hc1 := Lib.hid (RdP.step Hc.out hb1)
  clear Hc
  have Hc := Hc1
  clear Hc1
  have Hd1 := Lib.hid (RdP.step Hd.out hb1)
  clear Hd
  have Hd := Hd1
  clear Hd1
  clear hb1
  clear hc
  have Hp := Lib.hid hrp
  clear hrp
  go_wp2_with fail
  have hrq := RdP.builtS w1 #[.int .i64 3, .int .i64 1, .string ⟨#[]⟩] [(3, 1, emp)] 1 rfl rfl (by decide) (by decide)
  have hbw2 := hbw1.alloc hbw1.size (.cells #[.int .i64 3, .int .i64 1, .string ⟨#[]⟩] 28)
  have Ha2 := Lib.hid (RdP.stepA Ha.out (.cells #[.int .i64 3, .int .i64 1, .string ⟨#[]⟩] 28))
  clear Ha
  have Ha := Ha2
  clear Ha2
  have Hb2 := Lib.hid (RdP.stepA Hb.out (.cells #[.int .i64 3, .int .i64 1, .string ⟨#[]⟩] 28))
  clear Hb
  have Hb := Hb2
  clear Hb2
  have Hc2 := Lib.hid (RdP.stepA Hc.out (.cells #[.int .i64 3, .int .i64 1, .string ⟨#[]⟩] 28))
  clear Hc
  have Hc := Hc2
  clear Hc2
  have Hd2 := Lib.hid (RdP.stepA Hd.out (.cells #[.int .i64 3, .int .i64 1, .string ⟨#[]⟩] 28))
  clear Hd
  have Hd := Hd2
  clear Hd2
  have Hp2 := Lib.hid (RdP.stepA Hp.out (.cells #[.int .i64 3, .int .i64 1, .string ⟨#[]⟩] 28))
  clear Hp
  have Hp := Hp2
  clear Hp2
  have Hq := Lib.hid hrq
  clear hrq
  have hc := comp_rd [(2, 0, ⟨#[97]⟩)] [(3, 1, emp)] Ap (some ⟨w1.heap.size, 0, none⟩) 1 1 1 1 _ Hp.out Hq.out
  rw [show compE [(2, 0, ⟨#[97]⟩)] [(3, 1, emp)] = 0 from by decide] at hc
  rw [show compL [(2, 0, ⟨#[97]⟩)] [(3, 1, emp)] = [] from by decide] at hc
  refine (hc).mono ?_
  rintro e w3 ⟨Ar, cr, rfl, hrr, hb3⟩
  have hbw3 := hbw2.trans (hb3.mono hbw2.size)
  have Ha3 := Lib.hid (RdP.step Ha.out hb3)
  clear Ha
  have Ha := Ha3
  clear Ha3
  have Hb3 := Lib.hid (RdP.step Hb.out hb3)
  clear Hb
  have Hb := Hb3
  clear Hb3
  have Hc3 := Lib.hid (RdP.step Hc.out hb3)
  clear Hc
  have Hc := Hc3
  clear Hc3
  have Hd3 := Lib.hid (RdP.step Hd.out hb3)
  clear Hd
  have Hd := Hd3
  clear Hd3
  have Hp3 := Lib.hid (RdP.step Hp.out hb3)
  clear Hp
  have Hp := Hp3
  clear Hp3
  have Hq3 := Lib.hid (RdP.step Hq.out hb3)
  clear Hq
  have Hq := Hq3
  clear Hq3
  clear hb3
  clear hc
  have Hr := Lib.hid hrr
  clear hrr
  go_wp2_with fail
  clear Hp
  clear Hq
  clear Hr
  have hc := put_any ⟨#[97]⟩ (by decide) w3
  refine (hc).mono ?_
  rintro e w4 ⟨Ap, rfl, hrp, hb4⟩
  have hbw4 := hbw3.trans (hb4.mono hbw3.size)
  have Ha4 := Lib.hid (RdP.step Ha.out hb4)
  clear Ha
  have Ha := Ha4
  clear Ha4
  have Hb4 := Lib.hid (RdP.step Hb.out hb4)
  clear Hb
  have Hb := Hb4
  clear Hb4
  have Hc4 := Lib.hid (RdP.step Hc.out hb4)
  clear Hc
  have Hc := Hc4
  clear Hc4
  have Hd4 := Lib.hid (RdP.step Hd.out hb4)
  clear Hd
  have Hd := Hd4
  clear Hd4
  clear hb4
  clear hc
  have Hp := Lib.hid hrp
  clear hrp
  go_wp2_with fail
  have hc := put_any ⟨#[97]⟩ (by decide) w4
  refine (hc).mono ?_
  rintro e w5 ⟨Aq, rfl, hrq, hb5⟩
  have hbw5 := hbw4.trans (hb5.mono hbw4.size)
  have Ha5 := Lib.hid (RdP.step Ha.out hb5)
  clear Ha
  have Ha := Ha5
  clear Ha5
  have Hb5 := Lib.hid (RdP.step Hb.out hb5)
  clear Hb
  have Hb := Hb5
  clear Hb5
  have Hc5 := Lib.hid (RdP.step Hc.out hb5)
  clear Hc
  have Hc := Hc5
  clear Hc5
  have Hd5 := Lib.hid (RdP.step Hd.out hb5)
  clear Hd
  have Hd := Hd5
  clear Hd5
  have Hp5 := Lib.hid (RdP.step Hp.out hb5)
  clear Hp
  have Hp := Hp5
  clear Hp5
  clear hb5
  clear hc
  have Hq := Lib.hid hrq
  clear hrq
  go_wp2_with fail
  have hc := comp_rd [(2, 0, ⟨#[97]⟩)] [(2, 0, ⟨#[97]⟩)] Ap Aq 1 1 1 1 _ Hp.out Hq.out
  rw [show compE [(2, 0, ⟨#[97]⟩)] [(2, 0, ⟨#[97]⟩)] = 4 from by decide] at hc
  rw [show compL [(2, 0, ⟨#[97]⟩)] [(2, 0, ⟨#[97]⟩)] = [] from by decide] at hc
  refine (hc).mono ?_
  rintro e w6 ⟨Ar, cr, rfl, hrr, hb6⟩
  have hbw6 := hbw5.trans (hb6.mono hbw5.size)
  have Ha6 := Lib.hid (RdP.step Ha.out hb6)
  clear Ha
  have Ha := Ha6
  clear Ha6
  have Hb6 := Lib.hid (RdP.step Hb.out hb6)
  clear Hb
  have Hb := Hb6
  clear Hb6
  have Hc6 := Lib.hid (RdP.step Hc.out hb6)
  clear Hc
  have Hc := Hc6
  clear Hc6
  have Hd6 := Lib.hid (RdP.step Hd.out hb6)
  clear Hd
  have Hd := Hd6
  clear Hd6
  have Hp6 := Lib.hid (RdP.step Hp.out hb6)
  clear Hp
  have Hp := Hp6
  clear Hp6
  have Hq6 := Lib.hid (RdP.step Hq.out hb6)
  clear Hq
  have Hq := Hq6
  clear Hq6
  clear hb6
  clear hc
  have Hr := Lib.hid hrr
  clear hrr
  go_wp2_with fail
  clear Hp
  clear Hq
  clear Hr
  have hc := comp_rd a b A1 A2 n1 n2 k1 k2 _ Ha.out Hb.out
  refine (hc).mono ?_
  rintro e w7 ⟨Aab, cab, rfl, hrab, hb7⟩
  have hbw7 := hbw6.trans (hb7.mono hbw6.size)
  have Ha7 := Lib.hid (RdP.step Ha.out hb7)
  clear Ha
  have Ha := Ha7
  clear Ha7
  have Hb7 := Lib.hid (RdP.step Hb.out hb7)
  clear Hb
  have Hb := Hb7
  clear Hb7
  have Hc7 := Lib.hid (RdP.step Hc.out hb7)
  clear Hc
  have Hc := Hc7
  clear Hc7
  have Hd7 := Lib.hid (RdP.step Hd.out hb7)
  clear Hd
  have Hd := Hd7
  clear Hd7
  clear hb7
  clear hc
  have Hab := Lib.hid hrab
  clear hrab
  go_wp2_with fail
  have hc := comp_rd c d A3 A4 n3 n4 k3 k4 _ Hc.out Hd.out
  refine (hc).mono ?_
  rintro e w8 ⟨Acd, ccd, rfl, hrcd, hb8⟩
  have hbw8 := hbw7.trans (hb8.mono hbw7.size)
  have Ha8 := Lib.hid (RdP.step Ha.out hb8)
  clear Ha
  have Ha := Ha8
  clear Ha8
  have Hb8 := Lib.hid (RdP.step Hb.out hb8)
  clear Hb
  have Hb := Hb8
  clear Hb8
  have Hc8 := Lib.hid (RdP.step Hc.out hb8)
  clear Hc
  have Hc := Hc8
  clear Hc8
  have Hd8 := Lib.hid (RdP.step Hd.out hb8)
  clear Hd
  have Hd := Hd8
  clear Hd8
  have Hab8 := Lib.hid (RdP.step Hab.out hb8)
  clear Hab
  have Hab := Hab8
  clear Hab8
  clear hb8
  clear hc
  have Hcd := Lib.hid hrcd
  clear hrcd
  go_wp2_with fail
  have hc := beside_any a c A1 A3 n1 n3 k1 k3 _ Ha.out Hc.out (by omega) (by omega)
  refine (hc).mono ?_
  rintro e w9 ⟨Aac, cac, rfl, hrac, hb9⟩
  have hbw9 := hbw8.trans (hb9.mono hbw8.size)
  have Ha9 := Lib.hid (RdP.step Ha.out hb9)
  clear Ha
  have Ha := Ha9
  clear Ha9
  have Hb9 := Lib.hid (RdP.step Hb.out hb9)
  clear Hb
  have Hb := Hb9
  clear Hb9
  have Hc9 := Lib.hid (RdP.step Hc.out hb9)
  clear Hc
  have Hc := Hc9
  clear Hc9
  have Hd9 := Lib.hid (RdP.step Hd.out hb9)
  clear Hd
  have Hd := Hd9
  clear Hd9
  have Hab9 := Lib.hid (RdP.step Hab.out hb9)
  clear Hab
  have Hab := Hab9
  clear Hab9
  have Hcd9 := Lib.hid (RdP.step Hcd.out hb9)
  clear Hcd
  have Hcd := Hcd9
  clear Hcd9
  clear hb9
  clear hc
  have Hac := Lib.hid hrac
  clear hrac
  go_wp2_with fail
  have hc := beside_any b d A2 A4 n2 n4 k2 k4 _ Hb.out Hd.out (by omega) (by omega)
  refine (hc).mono ?_
  rintro e w10 ⟨Abd, cbd, rfl, hrbd, hb10⟩
  have hbw10 := hbw9.trans (hb10.mono hbw9.size)
  have Ha10 := Lib.hid (RdP.step Ha.out hb10)
  clear Ha
  have Ha := Ha10
  clear Ha10
  have Hb10 := Lib.hid (RdP.step Hb.out hb10)
  clear Hb
  have Hb := Hb10
  clear Hb10
  have Hc10 := Lib.hid (RdP.step Hc.out hb10)
  clear Hc
  have Hc := Hc10
  clear Hc10
  have Hd10 := Lib.hid (RdP.step Hd.out hb10)
  clear Hd
  have Hd := Hd10
  clear Hd10
  have Hab10 := Lib.hid (RdP.step Hab.out hb10)
  clear Hab
  have Hab := Hab10
  clear Hab10
  have Hcd10 := Lib.hid (RdP.step Hcd.out hb10)
  clear Hcd
  have Hcd := Hcd10
  clear Hcd10
  have Hac10 := Lib.hid (RdP.step Hac.out hb10)
  clear Hac
  have Hac := Hac10
  clear Hac10
  clear hb10
  clear hc
  have Hbd := Lib.hid hrbd
  clear hrbd
  go_wp2_with fail
  have hc := beside_any (compL a b) (compL c d) Aab Acd ((compL a b).length) ((compL c d).length) cab ccd _ Hab.out Hcd.out (by omega) (by omega)
  refine (hc).mono ?_
  rintro e w11 ⟨Ax, cx, rfl, hrx, hb11⟩
  have hbw11 := hbw10.trans (hb11.mono hbw10.size)
  have Ha11 := Lib.hid (RdP.step Ha.out hb11)
  clear Ha
  have Ha := Ha11
  clear Ha11
  have Hb11 := Lib.hid (RdP.step Hb.out hb11)
  clear Hb
  have Hb := Hb11
  clear Hb11
  have Hc11 := Lib.hid (RdP.step Hc.out hb11)
  clear Hc
  have Hc := Hc11
  clear Hc11
  have Hd11 := Lib.hid (RdP.step Hd.out hb11)
  clear Hd
  have Hd := Hd11
  clear Hd11
  have Hab11 := Lib.hid (RdP.step Hab.out hb11)
  clear Hab
  have Hab := Hab11
  clear Hab11
  have Hcd11 := Lib.hid (RdP.step Hcd.out hb11)
  clear Hcd
  have Hcd := Hcd11
  clear Hcd11
  have Hac11 := Lib.hid (RdP.step Hac.out hb11)
  clear Hac
  have Hac := Hac11
  clear Hac11
  have Hbd11 := Lib.hid (RdP.step Hbd.out hb11)
  clear Hbd
  have Hbd := Hbd11
  clear Hbd11
  clear hb11
  clear hc
  have Hx := Lib.hid hrx
  clear hrx
  go_wp2_with fail
  go_ret
  exact ⟨rfl, hbw11⟩
theorem compBeside_e2 (a b c d : List Pt) (A1 A2 A3 A4 : Option Addr) (n1 n2 n3 n4 k1 k2 k3 k4 : Nat) (w : World) (ha : RdP w w.heap.size A1 n1 k1 a) (hb : RdP w w.heap.size A2 n2 k2 b) (hc : RdP w w.heap.size A3 n3 k3 c) (hd : RdP w w.heap.size A4 n4 k4 d) (ha1 : (n1 : Int) ≤ 1048576) (hb1 : (n2 : Int) ≤ 1048576) (hc1 : (n3 : Int) ≤ 1048576) (hd1 : (n4 : Int) ≤ 1048576) (h1 : compE a b = 0) (h2 : compE c d ≠ 0) :
    Calls Try.prog 12 #[.slice A1 n1 k1, .slice A2 n2 k2, .slice A3 n3 k3, .slice A4 n4 k4] w fun e w' => e = .returned (.bool true) ∧ Below w.heap.size w w' := by
  have hbw0 : Below w.heap.size w w := Below.refl _ _
  have Ha := Lib.hid ha
  clear ha
  have Hb := Lib.hid hb
  clear hb
  have Hc := Lib.hid hc
  clear hc
  have Hd := Lib.hid hd
  clear hd
  have hne : (compE c d != 0) = true := by simpa using h2
  have Hh1 := Lib.hid h1
  clear h1
  have Hh2 := Lib.hid h2
  clear h2
  have hab := compL_len a b
  have hcd := compL_len c d
  go_enter Try.func12, Try.ntmps12
  go_wp2_with fail
  have hc := put_any ⟨#[97]⟩ (by decide) w
  refine (hc).mono ?_
  rintro e w1 ⟨Ap, rfl, hrp, hb1⟩
  have hbw1 := hbw0.trans (hb1.mono hbw0.size)
  have Ha1 := Lib.hid (RdP.step Ha.out hb1)
  clear Ha
  have Ha := Ha1
  clear Ha1
  have Hb1 := Lib.hid (RdP.step Hb.out hb1)
  clear Hb
  have Hb := Hb1
  clear Hb1
  have Hc1 := Lib.hid (RdP.step Hc.out hb1)
  clear Hc
  have Hc := Hc1
  clear Hc1
  have Hd1 := Lib.hid (RdP.step Hd.out hb1)
  clear Hd
  have Hd := Hd1
  clear Hd1
  clear hb1
  clear hc
  have Hp := Lib.hid hrp
  clear hrp
  go_wp2_with fail
  have hrq := RdP.builtS w1 #[.int .i64 3, .int .i64 1, .string ⟨#[]⟩] [(3, 1, emp)] 1 rfl rfl (by decide) (by decide)
  have hbw2 := hbw1.alloc hbw1.size (.cells #[.int .i64 3, .int .i64 1, .string ⟨#[]⟩] 28)
  have Ha2 := Lib.hid (RdP.stepA Ha.out (.cells #[.int .i64 3, .int .i64 1, .string ⟨#[]⟩] 28))
  clear Ha
  have Ha := Ha2
  clear Ha2
  have Hb2 := Lib.hid (RdP.stepA Hb.out (.cells #[.int .i64 3, .int .i64 1, .string ⟨#[]⟩] 28))
  clear Hb
  have Hb := Hb2
  clear Hb2
  have Hc2 := Lib.hid (RdP.stepA Hc.out (.cells #[.int .i64 3, .int .i64 1, .string ⟨#[]⟩] 28))
  clear Hc
  have Hc := Hc2
  clear Hc2
  have Hd2 := Lib.hid (RdP.stepA Hd.out (.cells #[.int .i64 3, .int .i64 1, .string ⟨#[]⟩] 28))
  clear Hd
  have Hd := Hd2
  clear Hd2
  have Hp2 := Lib.hid (RdP.stepA Hp.out (.cells #[.int .i64 3, .int .i64 1, .string ⟨#[]⟩] 28))
  clear Hp
  have Hp := Hp2
  clear Hp2
  have Hq := Lib.hid hrq
  clear hrq
  have hc := comp_rd [(2, 0, ⟨#[97]⟩)] [(3, 1, emp)] Ap (some ⟨w1.heap.size, 0, none⟩) 1 1 1 1 _ Hp.out Hq.out
  rw [show compE [(2, 0, ⟨#[97]⟩)] [(3, 1, emp)] = 0 from by decide] at hc
  rw [show compL [(2, 0, ⟨#[97]⟩)] [(3, 1, emp)] = [] from by decide] at hc
  refine (hc).mono ?_
  rintro e w3 ⟨Ar, cr, rfl, hrr, hb3⟩
  have hbw3 := hbw2.trans (hb3.mono hbw2.size)
  have Ha3 := Lib.hid (RdP.step Ha.out hb3)
  clear Ha
  have Ha := Ha3
  clear Ha3
  have Hb3 := Lib.hid (RdP.step Hb.out hb3)
  clear Hb
  have Hb := Hb3
  clear Hb3
  have Hc3 := Lib.hid (RdP.step Hc.out hb3)
  clear Hc
  have Hc := Hc3
  clear Hc3
  have Hd3 := Lib.hid (RdP.step Hd.out hb3)
  clear Hd
  have Hd := Hd3
  clear Hd3
  have Hp3 := Lib.hid (RdP.step Hp.out hb3)
  clear Hp
  have Hp := Hp3
  clear Hp3
  have Hq3 := Lib.hid (RdP.step Hq.out hb3)
  clear Hq
  have Hq := Hq3
  clear Hq3
  clear hb3
  clear hc
  have Hr := Lib.hid hrr
  clear hrr
  go_wp2_with fail
  clear Hp
  clear Hq
  clear Hr
  have hc := put_any ⟨#[97]⟩ (by decide) w3
  refine (hc).mono ?_
  rintro e w4 ⟨Ap, rfl, hrp, hb4⟩
  have hbw4 := hbw3.trans (hb4.mono hbw3.size)
  have Ha4 := Lib.hid (RdP.step Ha.out hb4)
  clear Ha
  have Ha := Ha4
  clear Ha4
  have Hb4 := Lib.hid (RdP.step Hb.out hb4)
  clear Hb
  have Hb := Hb4
  clear Hb4
  have Hc4 := Lib.hid (RdP.step Hc.out hb4)
  clear Hc
  have Hc := Hc4
  clear Hc4
  have Hd4 := Lib.hid (RdP.step Hd.out hb4)
  clear Hd
  have Hd := Hd4
  clear Hd4
  clear hb4
  clear hc
  have Hp := Lib.hid hrp
  clear hrp
  go_wp2_with fail
  have hc := put_any ⟨#[97]⟩ (by decide) w4
  refine (hc).mono ?_
  rintro e w5 ⟨Aq, rfl, hrq, hb5⟩
  have hbw5 := hbw4.trans (hb5.mono hbw4.size)
  have Ha5 := Lib.hid (RdP.step Ha.out hb5)
  clear Ha
  have Ha := Ha5
  clear Ha5
  have Hb5 := Lib.hid (RdP.step Hb.out hb5)
  clear Hb
  have Hb := Hb5
  clear Hb5
  have Hc5 := Lib.hid (RdP.step Hc.out hb5)
  clear Hc
  have Hc := Hc5
  clear Hc5
  have Hd5 := Lib.hid (RdP.step Hd.out hb5)
  clear Hd
  have Hd := Hd5
  clear Hd5
  have Hp5 := Lib.hid (RdP.step Hp.out hb5)
  clear Hp
  have Hp := Hp5
  clear Hp5
  clear hb5
  clear hc
  have Hq := Lib.hid hrq
  clear hrq
  go_wp2_with fail
  have hc := comp_rd [(2, 0, ⟨#[97]⟩)] [(2, 0, ⟨#[97]⟩)] Ap Aq 1 1 1 1 _ Hp.out Hq.out
  rw [show compE [(2, 0, ⟨#[97]⟩)] [(2, 0, ⟨#[97]⟩)] = 4 from by decide] at hc
  rw [show compL [(2, 0, ⟨#[97]⟩)] [(2, 0, ⟨#[97]⟩)] = [] from by decide] at hc
  refine (hc).mono ?_
  rintro e w6 ⟨Ar, cr, rfl, hrr, hb6⟩
  have hbw6 := hbw5.trans (hb6.mono hbw5.size)
  have Ha6 := Lib.hid (RdP.step Ha.out hb6)
  clear Ha
  have Ha := Ha6
  clear Ha6
  have Hb6 := Lib.hid (RdP.step Hb.out hb6)
  clear Hb
  have Hb := Hb6
  clear Hb6
  have Hc6 := Lib.hid (RdP.step Hc.out hb6)
  clear Hc
  have Hc := Hc6
  clear Hc6
  have Hd6 := Lib.hid (RdP.step Hd.out hb6)
  clear Hd
  have Hd := Hd6
  clear Hd6
  have Hp6 := Lib.hid (RdP.step Hp.out hb6)
  clear Hp
  have Hp := Hp6
  clear Hp6
  have Hq6 := Lib.hid (RdP.step Hq.out hb6)
  clear Hq
  have Hq := Hq6
  clear Hq6
  clear hb6
  clear hc
  have Hr := Lib.hid hrr
  clear hrr
  go_wp2_with fail
  clear Hp
  clear Hq
  clear Hr
  have hc := comp_rd a b A1 A2 n1 n2 k1 k2 _ Ha.out Hb.out
  rw [Hh1.out] at hc
  refine (hc).mono ?_
  rintro e w7 ⟨Aab, cab, rfl, hrab, hb7⟩
  have hbw7 := hbw6.trans (hb7.mono hbw6.size)
  have Ha7 := Lib.hid (RdP.step Ha.out hb7)
  clear Ha
  have Ha := Ha7
  clear Ha7
  have Hb7 := Lib.hid (RdP.step Hb.out hb7)
  clear Hb
  have Hb := Hb7
  clear Hb7
  have Hc7 := Lib.hid (RdP.step Hc.out hb7)
  clear Hc
  have Hc := Hc7
  clear Hc7
  have Hd7 := Lib.hid (RdP.step Hd.out hb7)
  clear Hd
  have Hd := Hd7
  clear Hd7
  clear hb7
  clear hc
  have Hab := Lib.hid hrab
  clear hrab
  go_wp2_with fail
  have hc := comp_rd c d A3 A4 n3 n4 k3 k4 _ Hc.out Hd.out
  refine (hc).mono ?_
  rintro e w8 ⟨Acd, ccd, rfl, hrcd, hb8⟩
  have hbw8 := hbw7.trans (hb8.mono hbw7.size)
  have Ha8 := Lib.hid (RdP.step Ha.out hb8)
  clear Ha
  have Ha := Ha8
  clear Ha8
  have Hb8 := Lib.hid (RdP.step Hb.out hb8)
  clear Hb
  have Hb := Hb8
  clear Hb8
  have Hc8 := Lib.hid (RdP.step Hc.out hb8)
  clear Hc
  have Hc := Hc8
  clear Hc8
  have Hd8 := Lib.hid (RdP.step Hd.out hb8)
  clear Hd
  have Hd := Hd8
  clear Hd8
  have Hab8 := Lib.hid (RdP.step Hab.out hb8)
  clear Hab
  have Hab := Hab8
  clear Hab8
  clear hb8
  clear hc
  have Hcd := Lib.hid hrcd
  clear hrcd
  go_wp2_with fail
  have hc := beside_any a c A1 A3 n1 n3 k1 k3 _ Ha.out Hc.out (by omega) (by omega)
  refine (hc).mono ?_
  rintro e w9 ⟨Aac, cac, rfl, hrac, hb9⟩
  have hbw9 := hbw8.trans (hb9.mono hbw8.size)
  have Ha9 := Lib.hid (RdP.step Ha.out hb9)
  clear Ha
  have Ha := Ha9
  clear Ha9
  have Hb9 := Lib.hid (RdP.step Hb.out hb9)
  clear Hb
  have Hb := Hb9
  clear Hb9
  have Hc9 := Lib.hid (RdP.step Hc.out hb9)
  clear Hc
  have Hc := Hc9
  clear Hc9
  have Hd9 := Lib.hid (RdP.step Hd.out hb9)
  clear Hd
  have Hd := Hd9
  clear Hd9
  have Hab9 := Lib.hid (RdP.step Hab.out hb9)
  clear Hab
  have Hab := Hab9
  clear Hab9
  have Hcd9 := Lib.hid (RdP.step Hcd.out hb9)
  clear Hcd
  have Hcd := Hcd9
  clear Hcd9
  clear hb9
  clear hc
  have Hac := Lib.hid hrac
  clear hrac
  go_wp2_with fail
  have hc := beside_any b d A2 A4 n2 n4 k2 k4 _ Hb.out Hd.out (by omega) (by omega)
  refine (hc).mono ?_
  rintro e w10 ⟨Abd, cbd, rfl, hrbd, hb10⟩
  have hbw10 := hbw9.trans (hb10.mono hbw9.size)
  have Ha10 := Lib.hid (RdP.step Ha.out hb10)
  clear Ha
  have Ha := Ha10
  clear Ha10
  have Hb10 := Lib.hid (RdP.step Hb.out hb10)
  clear Hb
  have Hb := Hb10
  clear Hb10
  have Hc10 := Lib.hid (RdP.step Hc.out hb10)
  clear Hc
  have Hc := Hc10
  clear Hc10
  have Hd10 := Lib.hid (RdP.step Hd.out hb10)
  clear Hd
  have Hd := Hd10
  clear Hd10
  have Hab10 := Lib.hid (RdP.step Hab.out hb10)
  clear Hab
  have Hab := Hab10
  clear Hab10
  have Hcd10 := Lib.hid (RdP.step Hcd.out hb10)
  clear Hcd
  have Hcd := Hcd10
  clear Hcd10
  have Hac10 := Lib.hid (RdP.step Hac.out hb10)
  clear Hac
  have Hac := Hac10
  clear Hac10
  clear hb10
  clear hc
  have Hbd := Lib.hid hrbd
  clear hrbd
  go_wp2_with fail
  have hc := beside_any (compL a b) (compL c d) Aab Acd ((compL a b).length) ((compL c d).length) cab ccd _ Hab.out Hcd.out (by omega) (by omega)
  refine (hc).mono ?_
  rintro e w11 ⟨Ax, cx, rfl, hrx, hb11⟩
  have hbw11 := hbw10.trans (hb11.mono hbw10.size)
  have Ha11 := Lib.hid (RdP.step Ha.out hb11)
  clear Ha
  have Ha := Ha11
  clear Ha11
  have Hb11 := Lib.hid (RdP.step Hb.out hb11)
  clear Hb
  have Hb := Hb11
  clear Hb11
  have Hc11 := Lib.hid (RdP.step Hc.out hb11)
  clear Hc
  have Hc := Hc11
  clear Hc11
  have Hd11 := Lib.hid (RdP.step Hd.out hb11)
  clear Hd
  have Hd := Hd11
  clear Hd11
  have Hab11 := Lib.hid (RdP.step Hab.out hb11)
  clear Hab
  have Hab := Hab11
  clear Hab11
  have Hcd11 := Lib.hid (RdP.step Hcd.out hb11)
  clear Hcd
  have Hcd := Hcd11
  clear Hcd11
  have Hac11 := Lib.hid (RdP.step Hac.out hb11)
  clear Hac
  have Hac := Hac11
  clear Hac11
  have Hbd11 := Lib.hid (RdP.step Hbd.out hb11)
  clear Hbd
  have Hbd := Hbd11
  clear Hbd11
  clear hb11
  clear hc
  have Hx := Lib.hid hrx
  clear hrx
  go_wp2_with fail
  go_ret
  exact ⟨rfl, hbw11⟩
theorem compBeside_e3 (a b c d : List Pt) (A1 A2 A3 A4 : Option Addr) (n1 n2 n3 n4 k1 k2 k3 k4 : Nat) (w : World) (ha : RdP w w.heap.size A1 n1 k1 a) (hb : RdP w w.heap.size A2 n2 k2 b) (hc : RdP w w.heap.size A3 n3 k3 c) (hd : RdP w w.heap.size A4 n4 k4 d) (ha1 : (n1 : Int) ≤ 1048576) (hb1 : (n2 : Int) ≤ 1048576) (hc1 : (n3 : Int) ≤ 1048576) (hd1 : (n4 : Int) ≤ 1048576) (h1 : compE a b = 0) (h2 : compE c d = 0) (h3 : normE (a ++ c) ≠ 0) :
    Calls Try.prog 12 #[.slice A1 n1 k1, .slice A2 n2 k2, .slice A3 n3 k3, .slice A4 n4 k4] w fun e w' => e = .returned (.bool true) ∧ Below w.heap.size w w' := by
  have hbw0 : Below w.heap.size w w := Below.refl _ _
  have Ha := Lib.hid ha
  clear ha
  have Hb := Lib.hid hb
  clear hb
  have Hc := Lib.hid hc
  clear hc
  have Hd := Lib.hid hd
  clear hd
  have hne : (normE (a ++ c) != 0) = true := by simpa using h3
  have Hh1 := Lib.hid h1
  clear h1
  have Hh2 := Lib.hid h2
  clear h2
  have Hh3 := Lib.hid h3
  clear h3
  have hab := compL_len a b
  have hcd := compL_len c d
  go_enter Try.func12, Try.ntmps12
  go_wp2_with fail
  have hc := put_any ⟨#[97]⟩ (by decide) w
  refine (hc).mono ?_
  rintro e w1 ⟨Ap, rfl, hrp, hb1⟩
  have hbw1 := hbw0.trans (hb1.mono hbw0.size)
  have Ha1 := Lib.hid (RdP.step Ha.out hb1)
  clear Ha
  have Ha := Ha1
  clear Ha1
  have Hb1 := Lib.hid (RdP.step Hb.out hb1)
  clear Hb
  have Hb := Hb1
  clear Hb1
  have Hc1 := Lib.hid (RdP.step Hc.out hb1)
  clear Hc
  have Hc := Hc1
  clear Hc1
  have Hd1 := Lib.hid (RdP.step Hd.out hb1)
  clear Hd
  have Hd := Hd1
  clear Hd1
  clear hb1
  clear hc
  have Hp := Lib.hid hrp
  clear hrp
  go_wp2_with fail
  have hrq := RdP.builtS w1 #[.int .i64 3, .int .i64 1, .string ⟨#[]⟩] [(3, 1, emp)] 1 rfl rfl (by decide) (by decide)
  have hbw2 := hbw1.alloc hbw1.size (.cells #[.int .i64 3, .int .i64 1, .string ⟨#[]⟩] 28)
  have Ha2 := Lib.hid (RdP.stepA Ha.out (.cells #[.int .i64 3, .int .i64 1, .string ⟨#[]⟩] 28))
  clear Ha
  have Ha := Ha2
  clear Ha2
  have Hb2 := Lib.hid (RdP.stepA Hb.out (.cells #[.int .i64 3, .int .i64 1, .string ⟨#[]⟩] 28))
  clear Hb
  have Hb := Hb2
  clear Hb2
  have Hc2 := Lib.hid (RdP.stepA Hc.out (.cells #[.int .i64 3, .int .i64 1, .string ⟨#[]⟩] 28))
  clear Hc
  have Hc := Hc2
  clear Hc2
  have Hd2 := Lib.hid (RdP.stepA Hd.out (.cells #[.int .i64 3, .int .i64 1, .string ⟨#[]⟩] 28))
  clear Hd
  have Hd := Hd2
  clear Hd2
  have Hp2 := Lib.hid (RdP.stepA Hp.out (.cells #[.int .i64 3, .int .i64 1, .string ⟨#[]⟩] 28))
  clear Hp
  have Hp := Hp2
  clear Hp2
  have Hq := Lib.hid hrq
  clear hrq
  have hc := comp_rd [(2, 0, ⟨#[97]⟩)] [(3, 1, emp)] Ap (some ⟨w1.heap.size, 0, none⟩) 1 1 1 1 _ Hp.out Hq.out
  rw [show compE [(2, 0, ⟨#[97]⟩)] [(3, 1, emp)] = 0 from by decide] at hc
  rw [show compL [(2, 0, ⟨#[97]⟩)] [(3, 1, emp)] = [] from by decide] at hc
  refine (hc).mono ?_
  rintro e w3 ⟨Ar, cr, rfl, hrr, hb3⟩
  have hbw3 := hbw2.trans (hb3.mono hbw2.size)
  have Ha3 := Lib.hid (RdP.step Ha.out hb3)
  clear Ha
  have Ha := Ha3
  clear Ha3
  have Hb3 := Lib.hid (RdP.step Hb.out hb3)
  clear Hb
  have Hb := Hb3
  clear Hb3
  have Hc3 := Lib.hid (RdP.step Hc.out hb3)
  clear Hc
  have Hc := Hc3
  clear Hc3
  have Hd3 := Lib.hid (RdP.step Hd.out hb3)
  clear Hd
  have Hd := Hd3
  clear Hd3
  have Hp3 := Lib.hid (RdP.step Hp.out hb3)
  clear Hp
  have Hp := Hp3
  clear Hp3
  have Hq3 := Lib.hid (RdP.step Hq.out hb3)
  clear Hq
  have Hq := Hq3
  clear Hq3
  clear hb3
  clear hc
  have Hr := Lib.hid hrr
  clear hrr
  go_wp2_with fail
  clear Hp
  clear Hq
  clear Hr
  have hc := put_any ⟨#[97]⟩ (by decide) w3
  refine (hc).mono ?_
  rintro e w4 ⟨Ap, rfl, hrp, hb4⟩
  have hbw4 := hbw3.trans (hb4.mono hbw3.size)
  have Ha4 := Lib.hid (RdP.step Ha.out hb4)
  clear Ha
  have Ha := Ha4
  clear Ha4
  have Hb4 := Lib.hid (RdP.step Hb.out hb4)
  clear Hb
  have Hb := Hb4
  clear Hb4
  have Hc4 := Lib.hid (RdP.step Hc.out hb4)
  clear Hc
  have Hc := Hc4
  clear Hc4
  have Hd4 := Lib.hid (RdP.step Hd.out hb4)
  clear Hd
  have Hd := Hd4
  clear Hd4
  clear hb4
  clear hc
  have Hp := Lib.hid hrp
  clear hrp
  go_wp2_with fail
  have hc := put_any ⟨#[97]⟩ (by decide) w4
  refine (hc).mono ?_
  rintro e w5 ⟨Aq, rfl, hrq, hb5⟩
  have hbw5 := hbw4.trans (hb5.mono hbw4.size)
  have Ha5 := Lib.hid (RdP.step Ha.out hb5)
  clear Ha
  have Ha := Ha5
  clear Ha5
  have Hb5 := Lib.hid (RdP.step Hb.out hb5)
  clear Hb
  have Hb := Hb5
  clear Hb5
  have Hc5 := Lib.hid (RdP.step Hc.out hb5)
  clear Hc
  have Hc := Hc5
  clear Hc5
  have Hd5 := Lib.hid (RdP.step Hd.out hb5)
  clear Hd
  have Hd := Hd5
  clear Hd5
  have Hp5 := Lib.hid (RdP.step Hp.out hb5)
  clear Hp
  have Hp := Hp5
  clear Hp5
  clear hb5
  clear hc
  have Hq := Lib.hid hrq
  clear hrq
  go_wp2_with fail
  have hc := comp_rd [(2, 0, ⟨#[97]⟩)] [(2, 0, ⟨#[97]⟩)] Ap Aq 1 1 1 1 _ Hp.out Hq.out
  rw [show compE [(2, 0, ⟨#[97]⟩)] [(2, 0, ⟨#[97]⟩)] = 4 from by decide] at hc
  rw [show compL [(2, 0, ⟨#[97]⟩)] [(2, 0, ⟨#[97]⟩)] = [] from by decide] at hc
  refine (hc).mono ?_
  rintro e w6 ⟨Ar, cr, rfl, hrr, hb6⟩
  have hbw6 := hbw5.trans (hb6.mono hbw5.size)
  have Ha6 := Lib.hid (RdP.step Ha.out hb6)
  clear Ha
  have Ha := Ha6
  clear Ha6
  have Hb6 := Lib.hid (RdP.step Hb.out hb6)
  clear Hb
  have Hb := Hb6
  clear Hb6
  have Hc6 := Lib.hid (RdP.step Hc.out hb6)
  clear Hc
  have Hc := Hc6
  clear Hc6
  have Hd6 := Lib.hid (RdP.step Hd.out hb6)
  clear Hd
  have Hd := Hd6
  clear Hd6
  have Hp6 := Lib.hid (RdP.step Hp.out hb6)
  clear Hp
  have Hp := Hp6
  clear Hp6
  have Hq6 := Lib.hid (RdP.step Hq.out hb6)
  clear Hq
  have Hq := Hq6
  clear Hq6
  clear hb6
  clear hc
  have Hr := Lib.hid hrr
  clear hrr
  go_wp2_with fail
  clear Hp
  clear Hq
  clear Hr
  have hc := comp_rd a b A1 A2 n1 n2 k1 k2 _ Ha.out Hb.out
  rw [Hh1.out] at hc
  refine (hc).mono ?_
  rintro e w7 ⟨Aab, cab, rfl, hrab, hb7⟩
  have hbw7 := hbw6.trans (hb7.mono hbw6.size)
  have Ha7 := Lib.hid (RdP.step Ha.out hb7)
  clear Ha
  have Ha := Ha7
  clear Ha7
  have Hb7 := Lib.hid (RdP.step Hb.out hb7)
  clear Hb
  have Hb := Hb7
  clear Hb7
  have Hc7 := Lib.hid (RdP.step Hc.out hb7)
  clear Hc
  have Hc := Hc7
  clear Hc7
  have Hd7 := Lib.hid (RdP.step Hd.out hb7)
  clear Hd
  have Hd := Hd7
  clear Hd7
  clear hb7
  clear hc
  have Hab := Lib.hid hrab
  clear hrab
  go_wp2_with fail
  have hc := comp_rd c d A3 A4 n3 n4 k3 k4 _ Hc.out Hd.out
  rw [Hh2.out] at hc
  refine (hc).mono ?_
  rintro e w8 ⟨Acd, ccd, rfl, hrcd, hb8⟩
  have hbw8 := hbw7.trans (hb8.mono hbw7.size)
  have Ha8 := Lib.hid (RdP.step Ha.out hb8)
  clear Ha
  have Ha := Ha8
  clear Ha8
  have Hb8 := Lib.hid (RdP.step Hb.out hb8)
  clear Hb
  have Hb := Hb8
  clear Hb8
  have Hc8 := Lib.hid (RdP.step Hc.out hb8)
  clear Hc
  have Hc := Hc8
  clear Hc8
  have Hd8 := Lib.hid (RdP.step Hd.out hb8)
  clear Hd
  have Hd := Hd8
  clear Hd8
  have Hab8 := Lib.hid (RdP.step Hab.out hb8)
  clear Hab
  have Hab := Hab8
  clear Hab8
  clear hb8
  clear hc
  have Hcd := Lib.hid hrcd
  clear hrcd
  go_wp2_with fail
  have hc := beside_any a c A1 A3 n1 n3 k1 k3 _ Ha.out Hc.out (by omega) (by omega)
  refine (hc).mono ?_
  rintro e w9 ⟨Aac, cac, rfl, hrac, hb9⟩
  have hbw9 := hbw8.trans (hb9.mono hbw8.size)
  have Ha9 := Lib.hid (RdP.step Ha.out hb9)
  clear Ha
  have Ha := Ha9
  clear Ha9
  have Hb9 := Lib.hid (RdP.step Hb.out hb9)
  clear Hb
  have Hb := Hb9
  clear Hb9
  have Hc9 := Lib.hid (RdP.step Hc.out hb9)
  clear Hc
  have Hc := Hc9
  clear Hc9
  have Hd9 := Lib.hid (RdP.step Hd.out hb9)
  clear Hd
  have Hd := Hd9
  clear Hd9
  have Hab9 := Lib.hid (RdP.step Hab.out hb9)
  clear Hab
  have Hab := Hab9
  clear Hab9
  have Hcd9 := Lib.hid (RdP.step Hcd.out hb9)
  clear Hcd
  have Hcd := Hcd9
  clear Hcd9
  clear hb9
  clear hc
  have Hac := Lib.hid hrac
  clear hrac
  go_wp2_with fail
  have hc := beside_any b d A2 A4 n2 n4 k2 k4 _ Hb.out Hd.out (by omega) (by omega)
  refine (hc).mono ?_
  rintro e w10 ⟨Abd, cbd, rfl, hrbd, hb10⟩
  have hbw10 := hbw9.trans (hb10.mono hbw9.size)
  have Ha10 := Lib.hid (RdP.step Ha.out hb10)
  clear Ha
  have Ha := Ha10
  clear Ha10
  have Hb10 := Lib.hid (RdP.step Hb.out hb10)
  clear Hb
  have Hb := Hb10
  clear Hb10
  have Hc10 := Lib.hid (RdP.step Hc.out hb10)
  clear Hc
  have Hc := Hc10
  clear Hc10
  have Hd10 := Lib.hid (RdP.step Hd.out hb10)
  clear Hd
  have Hd := Hd10
  clear Hd10
  have Hab10 := Lib.hid (RdP.step Hab.out hb10)
  clear Hab
  have Hab := Hab10
  clear Hab10
  have Hcd10 := Lib.hid (RdP.step Hcd.out hb10)
  clear Hcd
  have Hcd := Hcd10
  clear Hcd10
  have Hac10 := Lib.hid (RdP.step Hac.out hb10)
  clear Hac
  have Hac := Hac10
  clear Hac10
  clear hb10
  clear hc
  have Hbd := Lib.hid hrbd
  clear hrbd
  go_wp2_with fail
  have hc := beside_any (compL a b) (compL c d) Aab Acd ((compL a b).length) ((compL c d).length) cab ccd _ Hab.out Hcd.out (by omega) (by omega)
  refine (hc).mono ?_
  rintro e w11 ⟨Ax, cx, rfl, hrx, hb11⟩
  have hbw11 := hbw10.trans (hb11.mono hbw10.size)
  have Ha11 := Lib.hid (RdP.step Ha.out hb11)
  clear Ha
  have Ha := Ha11
  clear Ha11
  have Hb11 := Lib.hid (RdP.step Hb.out hb11)
  clear Hb
  have Hb := Hb11
  clear Hb11
  have Hc11 := Lib.hid (RdP.step Hc.out hb11)
  clear Hc
  have Hc := Hc11
  clear Hc11
  have Hd11 := Lib.hid (RdP.step Hd.out hb11)
  clear Hd
  have Hd := Hd11
  clear Hd11
  have Hab11 := Lib.hid (RdP.step Hab.out hb11)
  clear Hab
  have Hab := Hab11
  clear Hab11
  have Hcd11 := Lib.hid (RdP.step Hcd.out hb11)
  clear Hcd
  have Hcd := Hcd11
  clear Hcd11
  have Hac11 := Lib.hid (RdP.step Hac.out hb11)
  clear Hac
  have Hac := Hac11
  clear Hac11
  have Hbd11 := Lib.hid (RdP.step Hbd.out hb11)
  clear Hbd
  have Hbd := Hbd11
  clear Hbd11
  clear hb11
  clear hc
  have Hx := Lib.hid hrx
  clear hrx
  go_wp2_with fail
  go_ret
  exact ⟨rfl, hbw11⟩
theorem compBeside_e4 (a b c d : List Pt) (A1 A2 A3 A4 : Option Addr) (n1 n2 n3 n4 k1 k2 k3 k4 : Nat) (w : World) (ha : RdP w w.heap.size A1 n1 k1 a) (hb : RdP w w.heap.size A2 n2 k2 b) (hc : RdP w w.heap.size A3 n3 k3 c) (hd : RdP w w.heap.size A4 n4 k4 d) (ha1 : (n1 : Int) ≤ 1048576) (hb1 : (n2 : Int) ≤ 1048576) (hc1 : (n3 : Int) ≤ 1048576) (hd1 : (n4 : Int) ≤ 1048576) (h1 : compE a b = 0) (h2 : compE c d = 0) (h3 : normE (a ++ c) = 0) (h4 : normE (b ++ d) ≠ 0) :
    Calls Try.prog 12 #[.slice A1 n1 k1, .slice A2 n2 k2, .slice A3 n3 k3, .slice A4 n4 k4] w fun e w' => e = .returned (.bool true) ∧ Below w.heap.size w w' := by
  have hbw0 : Below w.heap.size w w := Below.refl _ _
  have Ha := Lib.hid ha
  clear ha
  have Hb := Lib.hid hb
  clear hb
  have Hc := Lib.hid hc
  clear hc
  have Hd := Lib.hid hd
  clear hd
  have hne : (normE (b ++ d) != 0) = true := by simpa using h4
  have Hh1 := Lib.hid h1
  clear h1
  have Hh2 := Lib.hid h2
  clear h2
  have Hh3 := Lib.hid h3
  clear h3
  have Hh4 := Lib.hid h4
  clear h4
  have hab := compL_len a b
  have hcd := compL_len c d
  go_enter Try.func12, Try.ntmps12
  go_wp2_with fail
  have hc := put_any ⟨#[97]⟩ (by decide) w
  refine (hc).mono ?_
  rintro e w1 ⟨Ap, rfl, hrp, hb1⟩
  have hbw1 := hbw0.trans (hb1.mono hbw0.size)
  have Ha1 := Lib.hid (RdP.step Ha.out hb1)
  clear Ha
  have Ha := Ha1
  clear Ha1
  have Hb1 := Lib.hid (RdP.step Hb.out hb1)
  clear Hb
  have Hb := Hb1
  clear Hb1
  have Hc1 := Lib.hid (RdP.step Hc.out hb1)
  clear Hc
  have Hc := Hc1
  clear Hc1
  have Hd1 := Lib.hid (RdP.step Hd.out hb1)
  clear Hd
  have Hd := Hd1
  clear Hd1
  clear hb1
  clear hc
  have Hp := Lib.hid hrp
  clear hrp
  go_wp2_with fail
  have hrq := RdP.builtS w1 #[.int .i64 3, .int .i64 1, .string ⟨#[]⟩] [(3, 1, emp)] 1 rfl rfl (by decide) (by decide)
  have hbw2 := hbw1.alloc hbw1.size (.cells #[.int .i64 3, .int .i64 1, .string ⟨#[]⟩] 28)
  have Ha2 := Lib.hid (RdP.stepA Ha.out (.cells #[.int .i64 3, .int .i64 1, .string ⟨#[]⟩] 28))
  clear Ha
  have Ha := Ha2
  clear Ha2
  have Hb2 := Lib.hid (RdP.stepA Hb.out (.cells #[.int .i64 3, .int .i64 1, .string ⟨#[]⟩] 28))
  clear Hb
  have Hb := Hb2
  clear Hb2
  have Hc2 := Lib.hid (RdP.stepA Hc.out (.cells #[.int .i64 3, .int .i64 1, .string ⟨#[]⟩] 28))
  clear Hc
  have Hc := Hc2
  clear Hc2
  have Hd2 := Lib.hid (RdP.stepA Hd.out (.cells #[.int .i64 3, .int .i64 1, .string ⟨#[]⟩] 28))
  clear Hd
  have Hd := Hd2
  clear Hd2
  have Hp2 := Lib.hid (RdP.stepA Hp.out (.cells #[.int .i64 3, .int .i64 1, .string ⟨#[]⟩] 28))
  clear Hp
  have Hp := Hp2
  clear Hp2
  have Hq := Lib.hid hrq
  clear hrq
  have hc := comp_rd [(2, 0, ⟨#[97]⟩)] [(3, 1, emp)] Ap (some ⟨w1.heap.size, 0, none⟩) 1 1 1 1 _ Hp.out Hq.out
  rw [show compE [(2, 0, ⟨#[97]⟩)] [(3, 1, emp)] = 0 from by decide] at hc
  rw [show compL [(2, 0, ⟨#[97]⟩)] [(3, 1, emp)] = [] from by decide] at hc
  refine (hc).mono ?_
  rintro e w3 ⟨Ar, cr, rfl, hrr, hb3⟩
  have hbw3 := hbw2.trans (hb3.mono hbw2.size)
  have Ha3 := Lib.hid (RdP.step Ha.out hb3)
  clear Ha
  have Ha := Ha3
  clear Ha3
  have Hb3 := Lib.hid (RdP.step Hb.out hb3)
  clear Hb
  have Hb := Hb3
  clear Hb3
  have Hc3 := Lib.hid (RdP.step Hc.out hb3)
  clear Hc
  have Hc := Hc3
  clear Hc3
  have Hd3 := Lib.hid (RdP.step Hd.out hb3)
  clear Hd
  have Hd := Hd3
  clear Hd3
  have Hp3 := Lib.hid (RdP.step Hp.out hb3)
  clear Hp
  have Hp := Hp3
  clear Hp3
  have Hq3 := Lib.hid (RdP.step Hq.out hb3)
  clear Hq
  have Hq := Hq3
  clear Hq3
  clear hb3
  clear hc
  have Hr := Lib.hid hrr
  clear hrr
  go_wp2_with fail
  clear Hp
  clear Hq
  clear Hr
  have hc := put_any ⟨#[97]⟩ (by decide) w3
  refine (hc).mono ?_
  rintro e w4 ⟨Ap, rfl, hrp, hb4⟩
  have hbw4 := hbw3.trans (hb4.mono hbw3.size)
  have Ha4 := Lib.hid (RdP.step Ha.out hb4)
  clear Ha
  have Ha := Ha4
  clear Ha4
  have Hb4 := Lib.hid (RdP.step Hb.out hb4)
  clear Hb
  have Hb := Hb4
  clear Hb4
  have Hc4 := Lib.hid (RdP.step Hc.out hb4)
  clear Hc
  have Hc := Hc4
  clear Hc4
  have Hd4 := Lib.hid (RdP.step Hd.out hb4)
  clear Hd
  have Hd := Hd4
  clear Hd4
  clear hb4
  clear hc
  have Hp := Lib.hid hrp
  clear hrp
  go_wp2_with fail
  have hc := put_any ⟨#[97]⟩ (by decide) w4
  refine (hc).mono ?_
  rintro e w5 ⟨Aq, rfl, hrq, hb5⟩
  have hbw5 := hbw4.trans (hb5.mono hbw4.size)
  have Ha5 := Lib.hid (RdP.step Ha.out hb5)
  clear Ha
  have Ha := Ha5
  clear Ha5
  have Hb5 := Lib.hid (RdP.step Hb.out hb5)
  clear Hb
  have Hb := Hb5
  clear Hb5
  have Hc5 := Lib.hid (RdP.step Hc.out hb5)
  clear Hc
  have Hc := Hc5
  clear Hc5
  have Hd5 := Lib.hid (RdP.step Hd.out hb5)
  clear Hd
  have Hd := Hd5
  clear Hd5
  have Hp5 := Lib.hid (RdP.step Hp.out hb5)
  clear Hp
  have Hp := Hp5
  clear Hp5
  clear hb5
  clear hc
  have Hq := Lib.hid hrq
  clear hrq
  go_wp2_with fail
  have hc := comp_rd [(2, 0, ⟨#[97]⟩)] [(2, 0, ⟨#[97]⟩)] Ap Aq 1 1 1 1 _ Hp.out Hq.out
  rw [show compE [(2, 0, ⟨#[97]⟩)] [(2, 0, ⟨#[97]⟩)] = 4 from by decide] at hc
  rw [show compL [(2, 0, ⟨#[97]⟩)] [(2, 0, ⟨#[97]⟩)] = [] from by decide] at hc
  refine (hc).mono ?_
  rintro e w6 ⟨Ar, cr, rfl, hrr, hb6⟩
  have hbw6 := hbw5.trans (hb6.mono hbw5.size)
  have Ha6 := Lib.hid (RdP.step Ha.out hb6)
  clear Ha
  have Ha := Ha6
  clear Ha6
  have Hb6 := Lib.hid (RdP.step Hb.out hb6)
  clear Hb
  have Hb := Hb6
  clear Hb6
  have Hc6 := Lib.hid (RdP.step Hc.out hb6)
  clear Hc
  have Hc := Hc6
  clear Hc6
  have Hd6 := Lib.hid (RdP.step Hd.out hb6)
  clear Hd
  have Hd := Hd6
  clear Hd6
  have Hp6 := Lib.hid (RdP.step Hp.out hb6)
  clear Hp
  have Hp := Hp6
  clear Hp6
  have Hq6 := Lib.hid (RdP.step Hq.out hb6)
  clear Hq
  have Hq := Hq6
  clear Hq6
  clear hb6
  clear hc
  have Hr := Lib.hid hrr
  clear hrr
  go_wp2_with fail
  clear Hp
  clear Hq
  clear Hr
  have hc := comp_rd a b A1 A2 n1 n2 k1 k2 _ Ha.out Hb.out
  rw [Hh1.out] at hc
  refine (hc).mono ?_
  rintro e w7 ⟨Aab, cab, rfl, hrab, hb7⟩
  have hbw7 := hbw6.trans (hb7.mono hbw6.size)
  have Ha7 := Lib.hid (RdP.step Ha.out hb7)
  clear Ha
  have Ha := Ha7
  clear Ha7
  have Hb7 := Lib.hid (RdP.step Hb.out hb7)
  clear Hb
  have Hb := Hb7
  clear Hb7
  have Hc7 := Lib.hid (RdP.step Hc.out hb7)
  clear Hc
  have Hc := Hc7
  clear Hc7
  have Hd7 := Lib.hid (RdP.step Hd.out hb7)
  clear Hd
  have Hd := Hd7
  clear Hd7
  clear hb7
  clear hc
  have Hab := Lib.hid hrab
  clear hrab
  go_wp2_with fail
  have hc := comp_rd c d A3 A4 n3 n4 k3 k4 _ Hc.out Hd.out
  rw [Hh2.out] at hc
  refine (hc).mono ?_
  rintro e w8 ⟨Acd, ccd, rfl, hrcd, hb8⟩
  have hbw8 := hbw7.trans (hb8.mono hbw7.size)
  have Ha8 := Lib.hid (RdP.step Ha.out hb8)
  clear Ha
  have Ha := Ha8
  clear Ha8
  have Hb8 := Lib.hid (RdP.step Hb.out hb8)
  clear Hb
  have Hb := Hb8
  clear Hb8
  have Hc8 := Lib.hid (RdP.step Hc.out hb8)
  clear Hc
  have Hc := Hc8
  clear Hc8
  have Hd8 := Lib.hid (RdP.step Hd.out hb8)
  clear Hd
  have Hd := Hd8
  clear Hd8
  have Hab8 := Lib.hid (RdP.step Hab.out hb8)
  clear Hab
  have Hab := Hab8
  clear Hab8
  clear hb8
  clear hc
  have Hcd := Lib.hid hrcd
  clear hrcd
  go_wp2_with fail
  have hc := beside_any a c A1 A3 n1 n3 k1 k3 _ Ha.out Hc.out (by omega) (by omega)
  rw [Hh3.out] at hc
  refine (hc).mono ?_
  rintro e w9 ⟨Aac, cac, rfl, hrac, hb9⟩
  have hbw9 := hbw8.trans (hb9.mono hbw8.size)
  have Ha9 := Lib.hid (RdP.step Ha.out hb9)
  clear Ha
  have Ha := Ha9
  clear Ha9
  have Hb9 := Lib.hid (RdP.step Hb.out hb9)
  clear Hb
  have Hb := Hb9
  clear Hb9
  have Hc9 := Lib.hid (RdP.step Hc.out hb9)
  clear Hc
  have Hc := Hc9
  clear Hc9
  have Hd9 := Lib.hid (RdP.step Hd.out hb9)
  clear Hd
  have Hd := Hd9
  clear Hd9
  have Hab9 := Lib.hid (RdP.step Hab.out hb9)
  clear Hab
  have Hab := Hab9
  clear Hab9
  have Hcd9 := Lib.hid (RdP.step Hcd.out hb9)
  clear Hcd
  have Hcd := Hcd9
  clear Hcd9
  clear hb9
  clear hc
  have Hac := Lib.hid hrac
  clear hrac
  go_wp2_with fail
  have hc := beside_any b d A2 A4 n2 n4 k2 k4 _ Hb.out Hd.out (by omega) (by omega)
  refine (hc).mono ?_
  rintro e w10 ⟨Abd, cbd, rfl, hrbd, hb10⟩
  have hbw10 := hbw9.trans (hb10.mono hbw9.size)
  have Ha10 := Lib.hid (RdP.step Ha.out hb10)
  clear Ha
  have Ha := Ha10
  clear Ha10
  have Hb10 := Lib.hid (RdP.step Hb.out hb10)
  clear Hb
  have Hb := Hb10
  clear Hb10
  have Hc10 := Lib.hid (RdP.step Hc.out hb10)
  clear Hc
  have Hc := Hc10
  clear Hc10
  have Hd10 := Lib.hid (RdP.step Hd.out hb10)
  clear Hd
  have Hd := Hd10
  clear Hd10
  have Hab10 := Lib.hid (RdP.step Hab.out hb10)
  clear Hab
  have Hab := Hab10
  clear Hab10
  have Hcd10 := Lib.hid (RdP.step Hcd.out hb10)
  clear Hcd
  have Hcd := Hcd10
  clear Hcd10
  have Hac10 := Lib.hid (RdP.step Hac.out hb10)
  clear Hac
  have Hac := Hac10
  clear Hac10
  clear hb10
  clear hc
  have Hbd := Lib.hid hrbd
  clear hrbd
  go_wp2_with fail
  have hc := beside_any (compL a b) (compL c d) Aab Acd ((compL a b).length) ((compL c d).length) cab ccd _ Hab.out Hcd.out (by omega) (by omega)
  refine (hc).mono ?_
  rintro e w11 ⟨Ax, cx, rfl, hrx, hb11⟩
  have hbw11 := hbw10.trans (hb11.mono hbw10.size)
  have Ha11 := Lib.hid (RdP.step Ha.out hb11)
  clear Ha
  have Ha := Ha11
  clear Ha11
  have Hb11 := Lib.hid (RdP.step Hb.out hb11)
  clear Hb
  have Hb := Hb11
  clear Hb11
  have Hc11 := Lib.hid (RdP.step Hc.out hb11)
  clear Hc
  have Hc := Hc11
  clear Hc11
  have Hd11 := Lib.hid (RdP.step Hd.out hb11)
  clear Hd
  have Hd := Hd11
  clear Hd11
  have Hab11 := Lib.hid (RdP.step Hab.out hb11)
  clear Hab
  have Hab := Hab11
  clear Hab11
  have Hcd11 := Lib.hid (RdP.step Hcd.out hb11)
  clear Hcd
  have Hcd := Hcd11
  clear Hcd11
  have Hac11 := Lib.hid (RdP.step Hac.out hb11)
  clear Hac
  have Hac := Hac11
  clear Hac11
  have Hbd11 := Lib.hid (RdP.step Hbd.out hb11)
  clear Hbd
  have Hbd := Hbd11
  clear Hbd11
  clear hb11
  clear hc
  have Hx := Lib.hid hrx
  clear hrx
  go_wp2_with fail
  go_ret
  exact ⟨rfl, hbw11⟩
theorem compBeside_e5 (a b c d : List Pt) (A1 A2 A3 A4 : Option Addr) (n1 n2 n3 n4 k1 k2 k3 k4 : Nat) (w : World) (ha : RdP w w.heap.size A1 n1 k1 a) (hb : RdP w w.heap.size A2 n2 k2 b) (hc : RdP w w.heap.size A3 n3 k3 c) (hd : RdP w w.heap.size A4 n4 k4 d) (ha1 : (n1 : Int) ≤ 1048576) (hb1 : (n2 : Int) ≤ 1048576) (hc1 : (n3 : Int) ≤ 1048576) (hd1 : (n4 : Int) ≤ 1048576) (h1 : compE a b = 0) (h2 : compE c d = 0) (h3 : normE (a ++ c) = 0) (h4 : normE (b ++ d) = 0) (h5 : normE (compL a b ++ compL c d) ≠ 0) :
    Calls Try.prog 12 #[.slice A1 n1 k1, .slice A2 n2 k2, .slice A3 n3 k3, .slice A4 n4 k4] w fun e w' => e = .returned (.bool true) ∧ Below w.heap.size w w' := by
  have hbw0 : Below w.heap.size w w := Below.refl _ _
  have Ha := Lib.hid ha
  clear ha
  have Hb := Lib.hid hb
  clear hb
  have Hc := Lib.hid hc
  clear hc
  have Hd := Lib.hid hd
  clear hd
  have hne : (normE (compL a b ++ compL c d) != 0) = true := by simpa using h5
  have Hh1 := Lib.hid h1
  clear h1
  have Hh2 := Lib.hid h2
  clear h2
  have Hh3 := Lib.hid h3
  clear h3
  have Hh4 := Lib.hid h4
  clear h4
  have Hh5 := Lib.hid h5
  clear h5
  have hab := compL_len a b
  have hcd := compL_len c d
  go_enter Try.func12, Try.ntmps12
  go_wp2_with fail
  have hc := put_any ⟨#[97]⟩ (by decide) w
  refine (hc).mono ?_
  rintro e w1 ⟨Ap, rfl, hrp, hb1⟩
  have hbw1 := hbw0.trans (hb1.mono hbw0.size)
  have Ha1 := Lib.hid (RdP.step Ha.out hb1)
  clear Ha
  have Ha := Ha1
  clear Ha1
  have Hb1 := Lib.hid (RdP.step Hb.out hb1)
  clear Hb
  have Hb := Hb1
  clear Hb1
  have Hc1 := Lib.hid (RdP.step Hc.out hb1)
  clear Hc
  have Hc := Hc1
  clear Hc1
  have Hd1 := Lib.hid (RdP.step Hd.out hb1)
  clear Hd
  have Hd := Hd1
  clear Hd1
  clear hb1
  clear hc
  have Hp := Lib.hid hrp
  clear hrp
  go_wp2_with fail
  have hrq := RdP.builtS w1 #[.int .i64 3, .int .i64 1, .string ⟨#[]⟩] [(3, 1, emp)] 1 rfl rfl (by decide) (by decide)
  have hbw2 := hbw1.alloc hbw1.size (.cells #[.int .i64 3, .int .i64 1, .string ⟨#[]⟩] 28)
  have Ha2 := Lib.hid (RdP.stepA Ha.out (.cells #[.int .i64 3, .int .i64 1, .string ⟨#[]⟩] 28))
  clear Ha
  have Ha := Ha2
  clear Ha2
  have Hb2 := Lib.hid (RdP.stepA Hb.out (.cells #[.int .i64 3, .int .i64 1, .string ⟨#[]⟩] 28))
  clear Hb
  have Hb := Hb2
  clear Hb2
  have Hc2 := Lib.hid (RdP.stepA Hc.out (.cells #[.int .i64 3, .int .i64 1, .string ⟨#[]⟩] 28))
  clear Hc
  have Hc := Hc2
  clear Hc2
  have Hd2 := Lib.hid (RdP.stepA Hd.out (.cells #[.int .i64 3, .int .i64 1, .string ⟨#[]⟩] 28))
  clear Hd
  have Hd := Hd2
  clear Hd2
  have Hp2 := Lib.hid (RdP.stepA Hp.out (.cells #[.int .i64 3, .int .i64 1, .string ⟨#[]⟩] 28))
  clear Hp
  have Hp := Hp2
  clear Hp2
  have Hq := Lib.hid hrq
  clear hrq
  have hc := comp_rd [(2, 0, ⟨#[97]⟩)] [(3, 1, emp)] Ap (some ⟨w1.heap.size, 0, none⟩) 1 1 1 1 _ Hp.out Hq.out
  rw [show compE [(2, 0, ⟨#[97]⟩)] [(3, 1, emp)] = 0 from by decide] at hc
  rw [show compL [(2, 0, ⟨#[97]⟩)] [(3, 1, emp)] = [] from by decide] at hc
  refine (hc).mono ?_
  rintro e w3 ⟨Ar, cr, rfl, hrr, hb3⟩
  have hbw3 := hbw2.trans (hb3.mono hbw2.size)
  have Ha3 := Lib.hid (RdP.step Ha.out hb3)
  clear Ha
  have Ha := Ha3
  clear Ha3
  have Hb3 := Lib.hid (RdP.step Hb.out hb3)
  clear Hb
  have Hb := Hb3
  clear Hb3
  have Hc3 := Lib.hid (RdP.step Hc.out hb3)
  clear Hc
  have Hc := Hc3
  clear Hc3
  have Hd3 := Lib.hid (RdP.step Hd.out hb3)
  clear Hd
  have Hd := Hd3
  clear Hd3
  have Hp3 := Lib.hid (RdP.step Hp.out hb3)
  clear Hp
  have Hp := Hp3
  clear Hp3
  have Hq3 := Lib.hid (RdP.step Hq.out hb3)
  clear Hq
  have Hq := Hq3
  clear Hq3
  clear hb3
  clear hc
  have Hr := Lib.hid hrr
  clear hrr
  go_wp2_with fail
  clear Hp
  clear Hq
  clear Hr
  have hc := put_any ⟨#[97]⟩ (by decide) w3
  refine (hc).mono ?_
  rintro e w4 ⟨Ap, rfl, hrp, hb4⟩
  have hbw4 := hbw3.trans (hb4.mono hbw3.size)
  have Ha4 := Lib.hid (RdP.step Ha.out hb4)
  clear Ha
  have Ha := Ha4
  clear Ha4
  have Hb4 := Lib.hid (RdP.step Hb.out hb4)
  clear Hb
  have Hb := Hb4
  clear Hb4
  have Hc4 := Lib.hid (RdP.step Hc.out hb4)
  clear Hc
  have Hc := Hc4
  clear Hc4
  have Hd4 := Lib.hid (RdP.step Hd.out hb4)
  clear Hd
  have Hd := Hd4
  clear Hd4
  clear hb4
  clear hc
  have Hp := Lib.hid hrp
  clear hrp
  go_wp2_with fail
  have hc := put_any ⟨#[97]⟩ (by decide) w4
  refine (hc).mono ?_
  rintro e w5 ⟨Aq, rfl, hrq, hb5⟩
  have hbw5 := hbw4.trans (hb5.mono hbw4.size)
  have Ha5 := Lib.hid (RdP.step Ha.out hb5)
  clear Ha
  have Ha := Ha5
  clear Ha5
  have Hb5 := Lib.hid (RdP.step Hb.out hb5)
  clear Hb
  have Hb := Hb5
  clear Hb5
  have Hc5 := Lib.hid (RdP.step Hc.out hb5)
  clear Hc
  have Hc := Hc5
  clear Hc5
  have Hd5 := Lib.hid (RdP.step Hd.out hb5)
  clear Hd
  have Hd := Hd5
  clear Hd5
  have Hp5 := Lib.hid (RdP.step Hp.out hb5)
  clear Hp
  have Hp := Hp5
  clear Hp5
  clear hb5
  clear hc
  have Hq := Lib.hid hrq
  clear hrq
  go_wp2_with fail
  have hc := comp_rd [(2, 0, ⟨#[97]⟩)] [(2, 0, ⟨#[97]⟩)] Ap Aq 1 1 1 1 _ Hp.out Hq.out
  rw [show compE [(2, 0, ⟨#[97]⟩)] [(2, 0, ⟨#[97]⟩)] = 4 from by decide] at hc
  rw [show compL [(2, 0, ⟨#[97]⟩)] [(2, 0, ⟨#[97]⟩)] = [] from by decide] at hc
  refine (hc).mono ?_
  rintro e w6 ⟨Ar, cr, rfl, hrr, hb6⟩
  have hbw6 := hbw5.trans (hb6.mono hbw5.size)
  have Ha6 := Lib.hid (RdP.step Ha.out hb6)
  clear Ha
  have Ha := Ha6
  clear Ha6
  have Hb6 := Lib.hid (RdP.step Hb.out hb6)
  clear Hb
  have Hb := Hb6
  clear Hb6
  have Hc6 := Lib.hid (RdP.step Hc.out hb6)
  clear Hc
  have Hc := Hc6
  clear Hc6
  have Hd6 := Lib.hid (RdP.step Hd.out hb6)
  clear Hd
  have Hd := Hd6
  clear Hd6
  have Hp6 := Lib.hid (RdP.step Hp.out hb6)
  clear Hp
  have Hp := Hp6
  clear Hp6
  have Hq6 := Lib.hid (RdP.step Hq.out hb6)
  clear Hq
  have Hq := Hq6
  clear Hq6
  clear hb6
  clear hc
  have Hr := Lib.hid hrr
  clear hrr
  go_wp2_with fail
  clear Hp
  clear Hq
  clear Hr
  have hc := comp_rd a b A1 A2 n1 n2 k1 k2 _ Ha.out Hb.out
  rw [Hh1.out] at hc
  refine (hc).mono ?_
  rintro e w7 ⟨Aab, cab, rfl, hrab, hb7⟩
  have hbw7 := hbw6.trans (hb7.mono hbw6.size)
  have Ha7 := Lib.hid (RdP.step Ha.out hb7)
  clear Ha
  have Ha := Ha7
  clear Ha7
  have Hb7 := Lib.hid (RdP.step Hb.out hb7)
  clear Hb
  have Hb := Hb7
  clear Hb7
  have Hc7 := Lib.hid (RdP.step Hc.out hb7)
  clear Hc
  have Hc := Hc7
  clear Hc7
  have Hd7 := Lib.hid (RdP.step Hd.out hb7)
  clear Hd
  have Hd := Hd7
  clear Hd7
  clear hb7
  clear hc
  have Hab := Lib.hid hrab
  clear hrab
  go_wp2_with fail
  have hc := comp_rd c d A3 A4 n3 n4 k3 k4 _ Hc.out Hd.out
  rw [Hh2.out] at hc
  refine (hc).mono ?_
  rintro e w8 ⟨Acd, ccd, rfl, hrcd, hb8⟩
  have hbw8 := hbw7.trans (hb8.mono hbw7.size)
  have Ha8 := Lib.hid (RdP.step Ha.out hb8)
  clear Ha
  have Ha := Ha8
  clear Ha8
  have Hb8 := Lib.hid (RdP.step Hb.out hb8)
  clear Hb
  have Hb := Hb8
  clear Hb8
  have Hc8 := Lib.hid (RdP.step Hc.out hb8)
  clear Hc
  have Hc := Hc8
  clear Hc8
  have Hd8 := Lib.hid (RdP.step Hd.out hb8)
  clear Hd
  have Hd := Hd8
  clear Hd8
  have Hab8 := Lib.hid (RdP.step Hab.out hb8)
  clear Hab
  have Hab := Hab8
  clear Hab8
  clear hb8
  clear hc
  have Hcd := Lib.hid hrcd
  clear hrcd
  go_wp2_with fail
  have hc := beside_any a c A1 A3 n1 n3 k1 k3 _ Ha.out Hc.out (by omega) (by omega)
  rw [Hh3.out] at hc
  refine (hc).mono ?_
  rintro e w9 ⟨Aac, cac, rfl, hrac, hb9⟩
  have hbw9 := hbw8.trans (hb9.mono hbw8.size)
  have Ha9 := Lib.hid (RdP.step Ha.out hb9)
  clear Ha
  have Ha := Ha9
  clear Ha9
  have Hb9 := Lib.hid (RdP.step Hb.out hb9)
  clear Hb
  have Hb := Hb9
  clear Hb9
  have Hc9 := Lib.hid (RdP.step Hc.out hb9)
  clear Hc
  have Hc := Hc9
  clear Hc9
  have Hd9 := Lib.hid (RdP.step Hd.out hb9)
  clear Hd
  have Hd := Hd9
  clear Hd9
  have Hab9 := Lib.hid (RdP.step Hab.out hb9)
  clear Hab
  have Hab := Hab9
  clear Hab9
  have Hcd9 := Lib.hid (RdP.step Hcd.out hb9)
  clear Hcd
  have Hcd := Hcd9
  clear Hcd9
  clear hb9
  clear hc
  have Hac := Lib.hid hrac
  clear hrac
  go_wp2_with fail
  have hc := beside_any b d A2 A4 n2 n4 k2 k4 _ Hb.out Hd.out (by omega) (by omega)
  rw [Hh4.out] at hc
  refine (hc).mono ?_
  rintro e w10 ⟨Abd, cbd, rfl, hrbd, hb10⟩
  have hbw10 := hbw9.trans (hb10.mono hbw9.size)
  have Ha10 := Lib.hid (RdP.step Ha.out hb10)
  clear Ha
  have Ha := Ha10
  clear Ha10
  have Hb10 := Lib.hid (RdP.step Hb.out hb10)
  clear Hb
  have Hb := Hb10
  clear Hb10
  have Hc10 := Lib.hid (RdP.step Hc.out hb10)
  clear Hc
  have Hc := Hc10
  clear Hc10
  have Hd10 := Lib.hid (RdP.step Hd.out hb10)
  clear Hd
  have Hd := Hd10
  clear Hd10
  have Hab10 := Lib.hid (RdP.step Hab.out hb10)
  clear Hab
  have Hab := Hab10
  clear Hab10
  have Hcd10 := Lib.hid (RdP.step Hcd.out hb10)
  clear Hcd
  have Hcd := Hcd10
  clear Hcd10
  have Hac10 := Lib.hid (RdP.step Hac.out hb10)
  clear Hac
  have Hac := Hac10
  clear Hac10
  clear hb10
  clear hc
  have Hbd := Lib.hid hrbd
  clear hrbd
  go_wp2_with fail
  have hc := beside_any (compL a b) (compL c d) Aab Acd ((compL a b).length) ((compL c d).length) cab ccd _ Hab.out Hcd.out (by omega) (by omega)
  refine (hc).mono ?_
  rintro e w11 ⟨Ax, cx, rfl, hrx, hb11⟩
  have hbw11 := hbw10.trans (hb11.mono hbw10.size)
  have Ha11 := Lib.hid (RdP.step Ha.out hb11)
  clear Ha
  have Ha := Ha11
  clear Ha11
  have Hb11 := Lib.hid (RdP.step Hb.out hb11)
  clear Hb
  have Hb := Hb11
  clear Hb11
  have Hc11 := Lib.hid (RdP.step Hc.out hb11)
  clear Hc
  have Hc := Hc11
  clear Hc11
  have Hd11 := Lib.hid (RdP.step Hd.out hb11)
  clear Hd
  have Hd := Hd11
  clear Hd11
  have Hab11 := Lib.hid (RdP.step Hab.out hb11)
  clear Hab
  have Hab := Hab11
  clear Hab11
  have Hcd11 := Lib.hid (RdP.step Hcd.out hb11)
  clear Hcd
  have Hcd := Hcd11
  clear Hcd11
  have Hac11 := Lib.hid (RdP.step Hac.out hb11)
  clear Hac
  have Hac := Hac11
  clear Hac11
  have Hbd11 := Lib.hid (RdP.step Hbd.out hb11)
  clear Hbd
  have Hbd := Hbd11
  clear Hbd11
  clear hb11
  clear hc
  have Hx := Lib.hid hrx
  clear hrx
  go_wp2_with fail
  go_ret
  exact ⟨rfl, hbw11⟩
theorem compBeside_ok (a b c d : List Pt) (A1 A2 A3 A4 : Option Addr) (n1 n2 n3 n4 k1 k2 k3 k4 : Nat) (w : World) (ha : RdP w w.heap.size A1 n1 k1 a) (hb : RdP w w.heap.size A2 n2 k2 b) (hc : RdP w w.heap.size A3 n3 k3 c) (hd : RdP w w.heap.size A4 n4 k4 d) (ha1 : (n1 : Int) ≤ 1048576) (hb1 : (n2 : Int) ≤ 1048576) (hc1 : (n3 : Int) ≤ 1048576) (hd1 : (n4 : Int) ≤ 1048576) (h1 : compE a b = 0) (h2 : compE c d = 0) (h3 : normE (a ++ c) = 0) (h4 : normE (b ++ d) = 0) (h5 : normE (compL a b ++ compL c d) = 0) :
    Calls Try.prog 12 #[.slice A1 n1 k1, .slice A2 n2 k2, .slice A3 n3 k3, .slice A4 n4 k4] w fun e w' => e = .returned (.bool true) ∧ Below w.heap.size w w' := by
  have hbw0 : Below w.heap.size w w := Below.refl _ _
  have Ha := Lib.hid ha
  clear ha
  have Hb := Lib.hid hb
  clear hb
  have Hc := Lib.hid hc
  clear hc
  have Hd := Lib.hid hd
  clear hd
  have Hh1 := Lib.hid h1
  clear h1
  have Hh2 := Lib.hid h2
  clear h2
  have Hh3 := Lib.hid h3
  clear h3
  have Hh4 := Lib.hid h4
  clear h4
  have Hh5 := Lib.hid h5
  clear h5
  have hab := compL_len a b
  have hcd := compL_len c d
  go_enter Try.func12, Try.ntmps12
  go_wp2_with fail
  have hc := put_any ⟨#[97]⟩ (by decide) w
  refine (hc).mono ?_
  rintro e w1 ⟨Ap, rfl, hrp, hb1⟩
  have hbw1 := hbw0.trans (hb1.mono hbw0.size)
  have Ha1 := Lib.hid (RdP.step Ha.out hb1)
  clear Ha
  have Ha := Ha1
  clear Ha1
  have Hb1 := Lib.hid (RdP.step Hb.out hb1)
  clear Hb
  have Hb := Hb1
  clear Hb1
  have Hc1 := Lib.hid (RdP.step Hc.out hb1)
  clear Hc
  have Hc := Hc1
  clear Hc1
  have Hd1 := Lib.hid (RdP.step Hd.out hb1)
  clear Hd
  have Hd := Hd1
  clear Hd1
  clear hb1
  clear hc
  have Hp := Lib.hid hrp
  clear hrp
  go_wp2_with fail
  have hrq := RdP.builtS w1 #[.int .i64 3, .int .i64 1, .string ⟨#[]⟩] [(3, 1, emp)] 1 rfl rfl (by decide) (by decide)
  have hbw2 := hbw1.alloc hbw1.size (.cells #[.int .i64 3, .int .i64 1, .string ⟨#[]⟩] 28)
  have Ha2 := Lib.hid (RdP.stepA Ha.out (.cells #[.int .i64 3, .int .i64 1, .string ⟨#[]⟩] 28))
  clear Ha
  have Ha := Ha2
  clear Ha2
  have Hb2 := Lib.hid (RdP.stepA Hb.out (.cells #[.int .i64 3, .int .i64 1, .string ⟨#[]⟩] 28))
  clear Hb
  have Hb := Hb2
  clear Hb2
  have Hc2 := Lib.hid (RdP.stepA Hc.out (.cells #[.int .i64 3, .int .i64 1, .string ⟨#[]⟩] 28))
  clear Hc
  have Hc := Hc2
  clear Hc2
  have Hd2 := Lib.hid (RdP.stepA Hd.out (.cells #[.int .i64 3, .int .i64 1, .string ⟨#[]⟩] 28))
  clear Hd
  have Hd := Hd2
  clear Hd2
  have Hp2 := Lib.hid (RdP.stepA Hp.out (.cells #[.int .i64 3, .int .i64 1, .string ⟨#[]⟩] 28))
  clear Hp
  have Hp := Hp2
  clear Hp2
  have Hq := Lib.hid hrq
  clear hrq
  have hc := comp_rd [(2, 0, ⟨#[97]⟩)] [(3, 1, emp)] Ap (some ⟨w1.heap.size, 0, none⟩) 1 1 1 1 _ Hp.out Hq.out
  rw [show compE [(2, 0, ⟨#[97]⟩)] [(3, 1, emp)] = 0 from by decide] at hc
  rw [show compL [(2, 0, ⟨#[97]⟩)] [(3, 1, emp)] = [] from by decide] at hc
  refine (hc).mono ?_
  rintro e w3 ⟨Ar, cr, rfl, hrr, hb3⟩
  have hbw3 := hbw2.trans (hb3.mono hbw2.size)
  have Ha3 := Lib.hid (RdP.step Ha.out hb3)
  clear Ha
  have Ha := Ha3
  clear Ha3
  have Hb3 := Lib.hid (RdP.step Hb.out hb3)
  clear Hb
  have Hb := Hb3
  clear Hb3
  have Hc3 := Lib.hid (RdP.step Hc.out hb3)
  clear Hc
  have Hc := Hc3
  clear Hc3
  have Hd3 := Lib.hid (RdP.step Hd.out hb3)
  clear Hd
  have Hd := Hd3
  clear Hd3
  have Hp3 := Lib.hid (RdP.step Hp.out hb3)
  clear Hp
  have Hp := Hp3
  clear Hp3
  have Hq3 := Lib.hid (RdP.step Hq.out hb3)
  clear Hq
  have Hq := Hq3
  clear Hq3
  clear hb3
  clear hc
  have Hr := Lib.hid hrr
  clear hrr
  go_wp2_with fail
  clear Hp
  clear Hq
  clear Hr
  have hc := put_any ⟨#[97]⟩ (by decide) w3
  refine (hc).mono ?_
  rintro e w4 ⟨Ap, rfl, hrp, hb4⟩
  have hbw4 := hbw3.trans (hb4.mono hbw3.size)
  have Ha4 := Lib.hid (RdP.step Ha.out hb4)
  clear Ha
  have Ha := Ha4
  clear Ha4
  have Hb4 := Lib.hid (RdP.step Hb.out hb4)
  clear Hb
  have Hb := Hb4
  clear Hb4
  have Hc4 := Lib.hid (RdP.step Hc.out hb4)
  clear Hc
  have Hc := Hc4
  clear Hc4
  have Hd4 := Lib.hid (RdP.step Hd.out hb4)
  clear Hd
  have Hd := Hd4
  clear Hd4
  clear hb4
  clear hc
  have Hp := Lib.hid hrp
  clear hrp
  go_wp2_with fail
  have hc := put_any ⟨#[97]⟩ (by decide) w4
  refine (hc).mono ?_
  rintro e w5 ⟨Aq, rfl, hrq, hb5⟩
  have hbw5 := hbw4.trans (hb5.mono hbw4.size)
  have Ha5 := Lib.hid (RdP.step Ha.out hb5)
  clear Ha
  have Ha := Ha5
  clear Ha5
  have Hb5 := Lib.hid (RdP.step Hb.out hb5)
  clear Hb
  have Hb := Hb5
  clear Hb5
  have Hc5 := Lib.hid (RdP.step Hc.out hb5)
  clear Hc
  have Hc := Hc5
  clear Hc5
  have Hd5 := Lib.hid (RdP.step Hd.out hb5)
  clear Hd
  have Hd := Hd5
  clear Hd5
  have Hp5 := Lib.hid (RdP.step Hp.out hb5)
  clear Hp
  have Hp := Hp5
  clear Hp5
  clear hb5
  clear hc
  have Hq := Lib.hid hrq
  clear hrq
  go_wp2_with fail
  have hc := comp_rd [(2, 0, ⟨#[97]⟩)] [(2, 0, ⟨#[97]⟩)] Ap Aq 1 1 1 1 _ Hp.out Hq.out
  rw [show compE [(2, 0, ⟨#[97]⟩)] [(2, 0, ⟨#[97]⟩)] = 4 from by decide] at hc
  rw [show compL [(2, 0, ⟨#[97]⟩)] [(2, 0, ⟨#[97]⟩)] = [] from by decide] at hc
  refine (hc).mono ?_
  rintro e w6 ⟨Ar, cr, rfl, hrr, hb6⟩
  have hbw6 := hbw5.trans (hb6.mono hbw5.size)
  have Ha6 := Lib.hid (RdP.step Ha.out hb6)
  clear Ha
  have Ha := Ha6
  clear Ha6
  have Hb6 := Lib.hid (RdP.step Hb.out hb6)
  clear Hb
  have Hb := Hb6
  clear Hb6
  have Hc6 := Lib.hid (RdP.step Hc.out hb6)
  clear Hc
  have Hc := Hc6
  clear Hc6
  have Hd6 := Lib.hid (RdP.step Hd.out hb6)
  clear Hd
  have Hd := Hd6
  clear Hd6
  have Hp6 := Lib.hid (RdP.step Hp.out hb6)
  clear Hp
  have Hp := Hp6
  clear Hp6
  have Hq6 := Lib.hid (RdP.step Hq.out hb6)
  clear Hq
  have Hq := Hq6
  clear Hq6
  clear hb6
  clear hc
  have Hr := Lib.hid hrr
  clear hrr
  go_wp2_with fail
  clear Hp
  clear Hq
  clear Hr
  have hc := comp_rd a b A1 A2 n1 n2 k1 k2 _ Ha.out Hb.out
  rw [Hh1.out] at hc
  refine (hc).mono ?_
  rintro e w7 ⟨Aab, cab, rfl, hrab, hb7⟩
  have hbw7 := hbw6.trans (hb7.mono hbw6.size)
  have Ha7 := Lib.hid (RdP.step Ha.out hb7)
  clear Ha
  have Ha := Ha7
  clear Ha7
  have Hb7 := Lib.hid (RdP.step Hb.out hb7)
  clear Hb
  have Hb := Hb7
  clear Hb7
  have Hc7 := Lib.hid (RdP.step Hc.out hb7)
  clear Hc
  have Hc := Hc7
  clear Hc7
  have Hd7 := Lib.hid (RdP.step Hd.out hb7)
  clear Hd
  have Hd := Hd7
  clear Hd7
  clear hb7
  clear hc
  have Hab := Lib.hid hrab
  clear hrab
  go_wp2_with fail
  have hc := comp_rd c d A3 A4 n3 n4 k3 k4 _ Hc.out Hd.out
  rw [Hh2.out] at hc
  refine (hc).mono ?_
  rintro e w8 ⟨Acd, ccd, rfl, hrcd, hb8⟩
  have hbw8 := hbw7.trans (hb8.mono hbw7.size)
  have Ha8 := Lib.hid (RdP.step Ha.out hb8)
  clear Ha
  have Ha := Ha8
  clear Ha8
  have Hb8 := Lib.hid (RdP.step Hb.out hb8)
  clear Hb
  have Hb := Hb8
  clear Hb8
  have Hc8 := Lib.hid (RdP.step Hc.out hb8)
  clear Hc
  have Hc := Hc8
  clear Hc8
  have Hd8 := Lib.hid (RdP.step Hd.out hb8)
  clear Hd
  have Hd := Hd8
  clear Hd8
  have Hab8 := Lib.hid (RdP.step Hab.out hb8)
  clear Hab
  have Hab := Hab8
  clear Hab8
  clear hb8
  clear hc
  have Hcd := Lib.hid hrcd
  clear hrcd
  go_wp2_with fail
  have hc := beside_any a c A1 A3 n1 n3 k1 k3 _ Ha.out Hc.out (by omega) (by omega)
  rw [Hh3.out] at hc
  refine (hc).mono ?_
  rintro e w9 ⟨Aac, cac, rfl, hrac, hb9⟩
  have hbw9 := hbw8.trans (hb9.mono hbw8.size)
  have Ha9 := Lib.hid (RdP.step Ha.out hb9)
  clear Ha
  have Ha := Ha9
  clear Ha9
  have Hb9 := Lib.hid (RdP.step Hb.out hb9)
  clear Hb
  have Hb := Hb9
  clear Hb9
  have Hc9 := Lib.hid (RdP.step Hc.out hb9)
  clear Hc
  have Hc := Hc9
  clear Hc9
  have Hd9 := Lib.hid (RdP.step Hd.out hb9)
  clear Hd
  have Hd := Hd9
  clear Hd9
  have Hab9 := Lib.hid (RdP.step Hab.out hb9)
  clear Hab
  have Hab := Hab9
  clear Hab9
  have Hcd9 := Lib.hid (RdP.step Hcd.out hb9)
  clear Hcd
  have Hcd := Hcd9
  clear Hcd9
  clear hb9
  clear hc
  have Hac := Lib.hid hrac
  clear hrac
  go_wp2_with fail
  have hc := beside_any b d A2 A4 n2 n4 k2 k4 _ Hb.out Hd.out (by omega) (by omega)
  rw [Hh4.out] at hc
  refine (hc).mono ?_
  rintro e w10 ⟨Abd, cbd, rfl, hrbd, hb10⟩
  have hbw10 := hbw9.trans (hb10.mono hbw9.size)
  have Ha10 := Lib.hid (RdP.step Ha.out hb10)
  clear Ha
  have Ha := Ha10
  clear Ha10
  have Hb10 := Lib.hid (RdP.step Hb.out hb10)
  clear Hb
  have Hb := Hb10
  clear Hb10
  have Hc10 := Lib.hid (RdP.step Hc.out hb10)
  clear Hc
  have Hc := Hc10
  clear Hc10
  have Hd10 := Lib.hid (RdP.step Hd.out hb10)
  clear Hd
  have Hd := Hd10
  clear Hd10
  have Hab10 := Lib.hid (RdP.step Hab.out hb10)
  clear Hab
  have Hab := Hab10
  clear Hab10
  have Hcd10 := Lib.hid (RdP.step Hcd.out hb10)
  clear Hcd
  have Hcd := Hcd10
  clear Hcd10
  have Hac10 := Lib.hid (RdP.step Hac.out hb10)
  clear Hac
  have Hac := Hac10
  clear Hac10
  clear hb10
  clear hc
  have Hbd := Lib.hid hrbd
  clear hrbd
  go_wp2_with fail
  have hc := beside_any (compL a b) (compL c d) Aab Acd ((compL a b).length) ((compL c d).length) cab ccd _ Hab.out Hcd.out (by omega) (by omega)
  rw [Hh5.out] at hc
  refine (hc).mono ?_
  rintro e w11 ⟨Ax, cx, rfl, hrx, hb11⟩
  have hbw11 := hbw10.trans (hb11.mono hbw10.size)
  have Ha11 := Lib.hid (RdP.step Ha.out hb11)
  clear Ha
  have Ha := Ha11
  clear Ha11
  have Hb11 := Lib.hid (RdP.step Hb.out hb11)
  clear Hb
  have Hb := Hb11
  clear Hb11
  have Hc11 := Lib.hid (RdP.step Hc.out hb11)
  clear Hc
  have Hc := Hc11
  clear Hc11
  have Hd11 := Lib.hid (RdP.step Hd.out hb11)
  clear Hd
  have Hd := Hd11
  clear Hd11
  have Hab11 := Lib.hid (RdP.step Hab.out hb11)
  clear Hab
  have Hab := Hab11
  clear Hab11
  have Hcd11 := Lib.hid (RdP.step Hcd.out hb11)
  clear Hcd
  have Hcd := Hcd11
  clear Hcd11
  have Hac11 := Lib.hid (RdP.step Hac.out hb11)
  clear Hac
  have Hac := Hac11
  clear Hac11
  have Hbd11 := Lib.hid (RdP.step Hbd.out hb11)
  clear Hbd
  have Hbd := Hbd11
  clear Hbd11
  clear hb11
  clear hc
  have Hx := Lib.hid hrx
  clear hrx
  go_wp2_with fail
  have HJ := Lib.hid (beside_comp Hh1.out Hh2.out Hh3.out Hh4.out Hh5.out)
  have hc := comp_rd (normL (a ++ c)) (normL (b ++ d)) Aac Abd ((normL (a ++ c)).length) ((normL (b ++ d)).length) cac cbd _ Hac.out Hbd.out
  rw [HJ.out.1] at hc
  refine (hc).mono ?_
  rintro e w12 ⟨Ay, cy, rfl, hry, hb12⟩
  have hbw12 := hbw11.trans (hb12.mono hbw11.size)
  have Ha12 := Lib.hid (RdP.step Ha.out hb12)
  clear Ha
  have Ha := Ha12
  clear Ha12
  have Hb12 := Lib.hid (RdP.step Hb.out hb12)
  clear Hb
  have Hb := Hb12
  clear Hb12
  have Hc12 := Lib.hid (RdP.step Hc.out hb12)
  clear Hc
  have Hc := Hc12
  clear Hc12
  have Hd12 := Lib.hid (RdP.step Hd.out hb12)
  clear Hd
  have Hd := Hd12
  clear Hd12
  have Hab12 := Lib.hid (RdP.step Hab.out hb12)
  clear Hab
  have Hab := Hab12
  clear Hab12
  have Hcd12 := Lib.hid (RdP.step Hcd.out hb12)
  clear Hcd
  have Hcd := Hcd12
  clear Hcd12
  have Hac12 := Lib.hid (RdP.step Hac.out hb12)
  clear Hac
  have Hac := Hac12
  clear Hac12
  have Hbd12 := Lib.hid (RdP.step Hbd.out hb12)
  clear Hbd
  have Hbd := Hbd12
  clear Hbd12
  have Hx12 := Lib.hid (RdP.step Hx.out hb12)
  clear Hx
  have Hx := Hx12
  clear Hx12
  clear hb12
  clear hc
  have Hy := Lib.hid hry
  clear hry
  go_wp2_with fail
  refine (same_true (normL (compL a b ++ compL c d)) (compL (normL (a ++ c)) (normL (b ++ d))) Ax Ay _ _ cx cy _ _ _ Hx.out Hy.out HJ.out.2).mono ?_
  rintro e w13 ⟨rfl, hb13⟩
  have hbw13 := hbw12.trans (hb13.mono hbw12.size)
  have Ha13 := Lib.hid (RdP.step Ha.out hb13)
  clear Ha
  have Ha := Ha13
  clear Ha13
  have Hb13 := Lib.hid (RdP.step Hb.out hb13)
  clear Hb
  have Hb := Hb13
  clear Hb13
  have Hc13 := Lib.hid (RdP.step Hc.out hb13)
  clear Hc
  have Hc := Hc13
  clear Hc13
  have Hd13 := Lib.hid (RdP.step Hd.out hb13)
  clear Hd
  have Hd := Hd13
  clear Hd13
  have Hab13 := Lib.hid (RdP.step Hab.out hb13)
  clear Hab
  have Hab := Hab13
  clear Hab13
  have Hcd13 := Lib.hid (RdP.step Hcd.out hb13)
  clear Hcd
  have Hcd := Hcd13
  clear Hcd13
  have Hac13 := Lib.hid (RdP.step Hac.out hb13)
  clear Hac
  have Hac := Hac13
  clear Hac13
  have Hbd13 := Lib.hid (RdP.step Hbd.out hb13)
  clear Hbd
  have Hbd := Hbd13
  clear Hbd13
  have Hx13 := Lib.hid (RdP.step Hx.out hb13)
  clear Hx
  have Hx := Hx13
  clear Hx13
  have Hy13 := Lib.hid (RdP.step Hy.out hb13)
  clear Hy
  have Hy := Hy13
  clear Hy13
  clear hb13
  go_wp2_with fail
  go_ret
  exact ⟨rfl, hbw13⟩
theorem walk_CompBeside (v1 : Value) (a : List Pt) (v2 : Value) (b : List Pt) (v3 : Value) (c : List Pt) (v4 : Value) (d : List Pt) (w : World) (ha : IsPartsU w v1 a) (hb : IsPartsU w v2 b) (hc : IsPartsU w v3 c) (hd : IsPartsU w v4 d) :
    Calls Try.prog 12 #[v1, v2, v3, v4] w fun e w' => e = .returned (.bool true) ∧ Below w.heap.size w w' := by
  obtain ⟨A1, n1, k1, rfl, ha, ha1⟩ := ha
  obtain ⟨A2, n2, k2, rfl, hb, hb1⟩ := hb
  obtain ⟨A3, n3, k3, rfl, hc, hc1⟩ := hc
  obtain ⟨A4, n4, k4, rfl, hd, hd1⟩ := hd
  by_cases h1 : compE a b = 0
  · by_cases h2 : compE c d = 0
    · by_cases h3 : normE (a ++ c) = 0
      · by_cases h4 : normE (b ++ d) = 0
        · by_cases h5 : normE (compL a b ++ compL c d) = 0
          · exact compBeside_ok a b c d A1 A2 A3 A4 n1 n2 n3 n4 k1 k2 k3 k4 w ha hb hc hd ha1 hb1 hc1 hd1 h1 h2 h3 h4 h5
          · exact compBeside_e5 a b c d A1 A2 A3 A4 n1 n2 n3 n4 k1 k2 k3 k4 w ha hb hc hd ha1 hb1 hc1 hd1 h1 h2 h3 h4 h5
        · exact compBeside_e4 a b c d A1 A2 A3 A4 n1 n2 n3 n4 k1 k2 k3 k4 w ha hb hc hd ha1 hb1 hc1 hd1 h1 h2 h3 h4
      · exact compBeside_e3 a b c d A1 A2 A3 A4 n1 n2 n3 n4 k1 k2 k3 k4 w ha hb hc hd ha1 hb1 hc1 hd1 h1 h2 h3
    · exact compBeside_e2 a b c d A1 A2 A3 A4 n1 n2 n3 n4 k1 k2 k3 k4 w ha hb hc hd ha1 hb1 hc1 hd1 h1 h2
  · exact compBeside_e1 a b c d A1 A2 A3 A4 n1 n2 n3 n4 k1 k2 k3 k4 w ha hb hc hd ha1 hb1 hc1 hd1 h1
end Go.Proofs.Ytgocddkoancdiaa
