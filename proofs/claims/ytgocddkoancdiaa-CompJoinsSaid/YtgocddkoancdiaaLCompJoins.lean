/- CompJoins: the walk. Three as one. -/
import Derived.Test.YtgocddkoancdiaaComp
import Derived.Test.YtgocddkoancdiaaSame
import Derived.Test.YtgocddkoancdiaaOpenParts
namespace Go.Proofs.Ytgocddkoancdiaa
open Go.ChangeShapes Go.WideShapes Go.RowKit
set_option linter.unusedVariables false
set_option linter.unusedSimpArgs false
set_option maxRecDepth 100000
set_option maxHeartbeats 4000000


theorem compJoins_e1 (a b c : List Pt) (A A' A'' : Option Addr) (n n' n'' k k' k'' : Nat) (w : World) (ha : RdP w w.heap.size A n k a) (hb : RdP w w.heap.size A' n' k' b) (hc : RdP w w.heap.size A'' n'' k'' c) (h1 : compE a b ≠ 0) :
    Calls Try.prog 4 #[.slice A n k, .slice A' n' k', .slice A'' n'' k''] w fun e w' => e = .returned (.bool true) ∧ Below w.heap.size w w' := by
  have hbw0 : Below w.heap.size w w := Below.refl _ _
  have Ha := Lib.hid ha
  clear ha
  have Hb := Lib.hid hb
  clear hb
  have Hc := Lib.hid hc
  clear hc
  have hne : (compE a b != 0) = true := by simpa using h1
  have H1 := Lib.hid h1
  clear h1
  go_enter Try.func4, Try.ntmps4
  go_wp2_with fail
  have hc := put_any ⟨#[97]⟩ (by decide) w
  refine (hc).mono ?_
  rintro e w1 ⟨Ap, rfl, hrp, hb1⟩
  have hbw1 := hbw0.trans (hb1.mono hbw0.size)
  have Ha1 := Lib.hid (RdP.step Ha.out hb1)
  clear Ha
  have Ha := Ha1
  clear Ha1
  have Hb1 := Lib.hid (RdP.step Hb.out hb1)
  clear Hb
  have Hb := Hb1
  clear Hb1
  have Hc1 := Lib.hid (RdP.step Hc.out hb1)
  clear Hc
  have Hc := Hc1
  clear Hc1
  clear hb1
  clear hc
  have Hp := Lib.hid hrp
  clear hrp
  go_wp2_with fail
  have hc := all_any 1 w1
  refine (hc).mono ?_
  rintro e w2 ⟨Aq, cq, rfl, hrq, hb2⟩
  have hbw2 := hbw1.trans (hb2.mono hbw1.size)
  have Ha2 := Lib.hid (RdP.step Ha.out hb2)
  clear Ha
  have Ha := Ha2
  clear Ha2
  have Hb2 := Lib.hid (RdP.step Hb.out hb2)
  clear Hb
  have Hb := Hb2
  clear Hb2
  have Hc2 := Lib.hid (RdP.step Hc.out hb2)
  clear Hc
  have Hc := Hc2
  clear Hc2
  have Hp2 := Lib.hid (RdP.step Hp.out hb2)
  clear Hp
  have Hp := Hp2
  clear Hp2
  clear hb2
  clear hc
  have Hq := Lib.hid hrq
  clear hrq
  go_wp2_with fail
  have hc := comp_rd [(2, 0, ⟨#[97]⟩)] (allL 1) Ap Aq 1 ((allL 1).length) 1 cq _ Hp.out Hq.out
  rw [show compE [(2, 0, ⟨#[97]⟩)] (allL 1) = 0 from by decide] at hc
  rw [show compL [(2, 0, ⟨#[97]⟩)] (allL 1) = [(2, 0, ⟨#[97]⟩)] from by decide] at hc
  refine (hc).mono ?_
  rintro e w3 ⟨Ar, cr, rfl, hrr, hb3⟩
  have hbw3 := hbw2.trans (hb3.mono hbw2.size)
  have Ha3 := Lib.hid (RdP.step Ha.out hb3)
  clear Ha
  have Ha := Ha3
  clear Ha3
  have Hb3 := Lib.hid (RdP.step Hb.out hb3)
  clear Hb
  have Hb := Hb3
  clear Hb3
  have Hc3 := Lib.hid (RdP.step Hc.out hb3)
  clear Hc
  have Hc := Hc3
  clear Hc3
  have Hp3 := Lib.hid (RdP.step Hp.out hb3)
  clear Hp
  have Hp := Hp3
  clear Hp3
  have Hq3 := Lib.hid (RdP.step Hq.out hb3)
  clear Hq
  have Hq := Hq3
  clear Hq3
  clear hb3
  clear hc
  have Hr := Lib.hid hrr
  clear hrr
  go_wp2_with fail
  clear Hp
  clear Hq
  have hc := put_any ⟨#[97]⟩ (by decide) w3
  refine (hc).mono ?_
  rintro e w4 ⟨Ap2, rfl, hrp2, hb4⟩
  have hbw4 := hbw3.trans (hb4.mono hbw3.size)
  have Ha4 := Lib.hid (RdP.step Ha.out hb4)
  clear Ha
  have Ha := Ha4
  clear Ha4
  have Hb4 := Lib.hid (RdP.step Hb.out hb4)
  clear Hb
  have Hb := Hb4
  clear Hb4
  have Hc4 := Lib.hid (RdP.step Hc.out hb4)
  clear Hc
  have Hc := Hc4
  clear Hc4
  have Hr4 := Lib.hid (RdP.step Hr.out hb4)
  clear Hr
  have Hr := Hr4
  clear Hr4
  clear hb4
  clear hc
  have Hp2 := Lib.hid hrp2
  clear hrp2
  go_wp2_with fail
  refine (same_true [(2, 0, ⟨#[97]⟩)] [(2, 0, ⟨#[97]⟩)] Ar Ap2 _ _ cr 1 _ _ _ Hr.out Hp2.out rfl).mono ?_
  rintro e w5 ⟨rfl, hb5⟩
  have hbw5 := hbw4.trans (hb5.mono hbw4.size)
  have Ha5 := Lib.hid (RdP.step Ha.out hb5)
  clear Ha
  have Ha := Ha5
  clear Ha5
  have Hb5 := Lib.hid (RdP.step Hb.out hb5)
  clear Hb
  have Hb := Hb5
  clear Hb5
  have Hc5 := Lib.hid (RdP.step Hc.out hb5)
  clear Hc
  have Hc := Hc5
  clear Hc5
  have Hr5 := Lib.hid (RdP.step Hr.out hb5)
  clear Hr
  have Hr := Hr5
  clear Hr5
  have Hp25 := Lib.hid (RdP.step Hp2.out hb5)
  clear Hp2
  have Hp2 := Hp25
  clear Hp25
  clear hb5
  go_wp2_with fail
  clear Hr
  clear Hp2
  have hc := comp_rd a b A A' n n' k k' _ Ha.out Hb.out
  rw [comp_err H1.out] at hc
  refine (hc).mono ?_
  rintro e w6 ⟨Ax, cx, rfl, hrx, hb6⟩
  have hbw6 := hbw5.trans (hb6.mono hbw5.size)
  have Ha6 := Lib.hid (RdP.step Ha.out hb6)
  clear Ha
  have Ha := Ha6
  clear Ha6
  have Hb6 := Lib.hid (RdP.step Hb.out hb6)
  clear Hb
  have Hb := Hb6
  clear Hb6
  have Hc6 := Lib.hid (RdP.step Hc.out hb6)
  clear Hc
  have Hc := Hc6
  clear Hc6
  clear hb6
  clear hc
  have Hx := Lib.hid hrx
  clear hrx
  go_wp2_with fail
  have hc := comp_rd b c A' A'' n' n'' k' k'' _ Hb.out Hc.out
  refine (hc).mono ?_
  rintro e w7 ⟨Ay, cy, rfl, hry, hb7⟩
  have hbw7 := hbw6.trans (hb7.mono hbw6.size)
  have Ha7 := Lib.hid (RdP.step Ha.out hb7)
  clear Ha
  have Ha := Ha7
  clear Ha7
  have Hb7 := Lib.hid (RdP.step Hb.out hb7)
  clear Hb
  have Hb := Hb7
  clear Hb7
  have Hc7 := Lib.hid (RdP.step Hc.out hb7)
  clear Hc
  have Hc := Hc7
  clear Hc7
  have Hx7 := Lib.hid (RdP.step Hx.out hb7)
  clear Hx
  have Hx := Hx7
  clear Hx7
  clear hb7
  clear hc
  have Hy := Lib.hid hry
  clear hry
  go_wp2_with fail
  go_ret
  exact ⟨rfl, hbw7⟩
theorem compJoins_e2 (a b c : List Pt) (A A' A'' : Option Addr) (n n' n'' k k' k'' : Nat) (w : World) (ha : RdP w w.heap.size A n k a) (hb : RdP w w.heap.size A' n' k' b) (hc : RdP w w.heap.size A'' n'' k'' c) (h1 : compE a b = 0) (h2 : compE b c ≠ 0) :
    Calls Try.prog 4 #[.slice A n k, .slice A' n' k', .slice A'' n'' k''] w fun e w' => e = .returned (.bool true) ∧ Below w.heap.size w w' := by
  have hbw0 : Below w.heap.size w w := Below.refl _ _
  have Ha := Lib.hid ha
  clear ha
  have Hb := Lib.hid hb
  clear hb
  have Hc := Lib.hid hc
  clear hc
  have H1 := Lib.hid h1
  clear h1
  have hne : (compE b c != 0) = true := by simpa using h2
  have H2 := Lib.hid h2
  clear h2
  go_enter Try.func4, Try.ntmps4
  go_wp2_with fail
  have hc := put_any ⟨#[97]⟩ (by decide) w
  refine (hc).mono ?_
  rintro e w1 ⟨Ap, rfl, hrp, hb1⟩
  have hbw1 := hbw0.trans (hb1.mono hbw0.size)
  have Ha1 := Lib.hid (RdP.step Ha.out hb1)
  clear Ha
  have Ha := Ha1
  clear Ha1
  have Hb1 := Lib.hid (RdP.step Hb.out hb1)
  clear Hb
  have Hb := Hb1
  clear Hb1
  have Hc1 := Lib.hid (RdP.step Hc.out hb1)
  clear Hc
  have Hc := Hc1
  clear Hc1
  clear hb1
  clear hc
  have Hp := Lib.hid hrp
  clear hrp
  go_wp2_with fail
  have hc := all_any 1 w1
  refine (hc).mono ?_
  rintro e w2 ⟨Aq, cq, rfl, hrq, hb2⟩
  have hbw2 := hbw1.trans (hb2.mono hbw1.size)
  have Ha2 := Lib.hid (RdP.step Ha.out hb2)
  clear Ha
  have Ha := Ha2
  clear Ha2
  have Hb2 := Lib.hid (RdP.step Hb.out hb2)
  clear Hb
  have Hb := Hb2
  clear Hb2
  have Hc2 := Lib.hid (RdP.step Hc.out hb2)
  clear Hc
  have Hc := Hc2
  clear Hc2
  have Hp2 := Lib.hid (RdP.step Hp.out hb2)
  clear Hp
  have Hp := Hp2
  clear Hp2
  clear hb2
  clear hc
  have Hq := Lib.hid hrq
  clear hrq
  go_wp2_with fail
  have hc := comp_rd [(2, 0, ⟨#[97]⟩)] (allL 1) Ap Aq 1 ((allL 1).length) 1 cq _ Hp.out Hq.out
  rw [show compE [(2, 0, ⟨#[97]⟩)] (allL 1) = 0 from by decide] at hc
  rw [show compL [(2, 0, ⟨#[97]⟩)] (allL 1) = [(2, 0, ⟨#[97]⟩)] from by decide] at hc
  refine (hc).mono ?_
  rintro e w3 ⟨Ar, cr, rfl, hrr, hb3⟩
  have hbw3 := hbw2.trans (hb3.mono hbw2.size)
  have Ha3 := Lib.hid (RdP.step Ha.out hb3)
  clear Ha
  have Ha := Ha3
  clear Ha3
  have Hb3 := Lib.hid (RdP.step Hb.out hb3)
  clear Hb
  have Hb := Hb3
  clear Hb3
  have Hc3 := Lib.hid (RdP.step Hc.out hb3)
  clear Hc
  have Hc := Hc3
  clear Hc3
  have Hp3 := Lib.hid (RdP.step Hp.out hb3)
  clear Hp
  have Hp := Hp3
  clear Hp3
  have Hq3 := Lib.hid (RdP.step Hq.out hb3)
  clear Hq
  have Hq := Hq3
  clear Hq3
  clear hb3
  clear hc
  have Hr := Lib.hid hrr
  clear hrr
  go_wp2_with fail
  clear Hp
  clear Hq
  have hc := put_any ⟨#[97]⟩ (by decide) w3
  refine (hc).mono ?_
  rintro e w4 ⟨Ap2, rfl, hrp2, hb4⟩
  have hbw4 := hbw3.trans (hb4.mono hbw3.size)
  have Ha4 := Lib.hid (RdP.step Ha.out hb4)
  clear Ha
  have Ha := Ha4
  clear Ha4
  have Hb4 := Lib.hid (RdP.step Hb.out hb4)
  clear Hb
  have Hb := Hb4
  clear Hb4
  have Hc4 := Lib.hid (RdP.step Hc.out hb4)
  clear Hc
  have Hc := Hc4
  clear Hc4
  have Hr4 := Lib.hid (RdP.step Hr.out hb4)
  clear Hr
  have Hr := Hr4
  clear Hr4
  clear hb4
  clear hc
  have Hp2 := Lib.hid hrp2
  clear hrp2
  go_wp2_with fail
  refine (same_true [(2, 0, ⟨#[97]⟩)] [(2, 0, ⟨#[97]⟩)] Ar Ap2 _ _ cr 1 _ _ _ Hr.out Hp2.out rfl).mono ?_
  rintro e w5 ⟨rfl, hb5⟩
  have hbw5 := hbw4.trans (hb5.mono hbw4.size)
  have Ha5 := Lib.hid (RdP.step Ha.out hb5)
  clear Ha
  have Ha := Ha5
  clear Ha5
  have Hb5 := Lib.hid (RdP.step Hb.out hb5)
  clear Hb
  have Hb := Hb5
  clear Hb5
  have Hc5 := Lib.hid (RdP.step Hc.out hb5)
  clear Hc
  have Hc := Hc5
  clear Hc5
  have Hr5 := Lib.hid (RdP.step Hr.out hb5)
  clear Hr
  have Hr := Hr5
  clear Hr5
  have Hp25 := Lib.hid (RdP.step Hp2.out hb5)
  clear Hp2
  have Hp2 := Hp25
  clear Hp25
  clear hb5
  go_wp2_with fail
  clear Hr
  clear Hp2
  have hc := comp_rd a b A A' n n' k k' _ Ha.out Hb.out
  rw [H1.out] at hc
  refine (hc).mono ?_
  rintro e w6 ⟨Ax, cx, rfl, hrx, hb6⟩
  have hbw6 := hbw5.trans (hb6.mono hbw5.size)
  have Ha6 := Lib.hid (RdP.step Ha.out hb6)
  clear Ha
  have Ha := Ha6
  clear Ha6
  have Hb6 := Lib.hid (RdP.step Hb.out hb6)
  clear Hb
  have Hb := Hb6
  clear Hb6
  have Hc6 := Lib.hid (RdP.step Hc.out hb6)
  clear Hc
  have Hc := Hc6
  clear Hc6
  clear hb6
  clear hc
  have Hx := Lib.hid hrx
  clear hrx
  go_wp2_with fail
  have hc := comp_rd b c A' A'' n' n'' k' k'' _ Hb.out Hc.out
  rw [comp_err H2.out] at hc
  refine (hc).mono ?_
  rintro e w7 ⟨Ay, cy, rfl, hry, hb7⟩
  have hbw7 := hbw6.trans (hb7.mono hbw6.size)
  have Ha7 := Lib.hid (RdP.step Ha.out hb7)
  clear Ha
  have Ha := Ha7
  clear Ha7
  have Hb7 := Lib.hid (RdP.step Hb.out hb7)
  clear Hb
  have Hb := Hb7
  clear Hb7
  have Hc7 := Lib.hid (RdP.step Hc.out hb7)
  clear Hc
  have Hc := Hc7
  clear Hc7
  have Hx7 := Lib.hid (RdP.step Hx.out hb7)
  clear Hx
  have Hx := Hx7
  clear Hx7
  clear hb7
  clear hc
  have Hy := Lib.hid hry
  clear hry
  go_wp2_with fail
  go_ret
  exact ⟨rfl, hbw7⟩
theorem compJoins_ok (a b c : List Pt) (A A' A'' : Option Addr) (n n' n'' k k' k'' : Nat) (w : World) (ha : RdP w w.heap.size A n k a) (hb : RdP w w.heap.size A' n' k' b) (hc : RdP w w.heap.size A'' n'' k'' c) (h1 : compE a b = 0) (h2 : compE b c = 0) :
    Calls Try.prog 4 #[.slice A n k, .slice A' n' k', .slice A'' n'' k''] w fun e w' => e = .returned (.bool true) ∧ Below w.heap.size w w' := by
  have hbw0 : Below w.heap.size w w := Below.refl _ _
  have Ha := Lib.hid ha
  clear ha
  have Hb := Lib.hid hb
  clear hb
  have Hc := Lib.hid hc
  clear hc
  have H1 := Lib.hid h1
  clear h1
  have H2 := Lib.hid h2
  clear h2
  go_enter Try.func4, Try.ntmps4
  go_wp2_with fail
  have hc := put_any ⟨#[97]⟩ (by decide) w
  refine (hc).mono ?_
  rintro e w1 ⟨Ap, rfl, hrp, hb1⟩
  have hbw1 := hbw0.trans (hb1.mono hbw0.size)
  have Ha1 := Lib.hid (RdP.step Ha.out hb1)
  clear Ha
  have Ha := Ha1
  clear Ha1
  have Hb1 := Lib.hid (RdP.step Hb.out hb1)
  clear Hb
  have Hb := Hb1
  clear Hb1
  have Hc1 := Lib.hid (RdP.step Hc.out hb1)
  clear Hc
  have Hc := Hc1
  clear Hc1
  clear hb1
  clear hc
  have Hp := Lib.hid hrp
  clear hrp
  go_wp2_with fail
  have hc := all_any 1 w1
  refine (hc).mono ?_
  rintro e w2 ⟨Aq, cq, rfl, hrq, hb2⟩
  have hbw2 := hbw1.trans (hb2.mono hbw1.size)
  have Ha2 := Lib.hid (RdP.step Ha.out hb2)
  clear Ha
  have Ha := Ha2
  clear Ha2
  have Hb2 := Lib.hid (RdP.step Hb.out hb2)
  clear Hb
  have Hb := Hb2
  clear Hb2
  have Hc2 := Lib.hid (RdP.step Hc.out hb2)
  clear Hc
  have Hc := Hc2
  clear Hc2
  have Hp2 := Lib.hid (RdP.step Hp.out hb2)
  clear Hp
  have Hp := Hp2
  clear Hp2
  clear hb2
  clear hc
  have Hq := Lib.hid hrq
  clear hrq
  go_wp2_with fail
  have hc := comp_rd [(2, 0, ⟨#[97]⟩)] (allL 1) Ap Aq 1 ((allL 1).length) 1 cq _ Hp.out Hq.out
  rw [show compE [(2, 0, ⟨#[97]⟩)] (allL 1) = 0 from by decide] at hc
  rw [show compL [(2, 0, ⟨#[97]⟩)] (allL 1) = [(2, 0, ⟨#[97]⟩)] from by decide] at hc
  refine (hc).mono ?_
  rintro e w3 ⟨Ar, cr, rfl, hrr, hb3⟩
  have hbw3 := hbw2.trans (hb3.mono hbw2.size)
  have Ha3 := Lib.hid (RdP.step Ha.out hb3)
  clear Ha
  have Ha := Ha3
  clear Ha3
  have Hb3 := Lib.hid (RdP.step Hb.out hb3)
  clear Hb
  have Hb := Hb3
  clear Hb3
  have Hc3 := Lib.hid (RdP.step Hc.out hb3)
  clear Hc
  have Hc := Hc3
  clear Hc3
  have Hp3 := Lib.hid (RdP.step Hp.out hb3)
  clear Hp
  have Hp := Hp3
  clear Hp3
  have Hq3 := Lib.hid (RdP.step Hq.out hb3)
  clear Hq
  have Hq := Hq3
  clear Hq3
  clear hb3
  clear hc
  have Hr := Lib.hid hrr
  clear hrr
  go_wp2_with fail
  clear Hp
  clear Hq
  have hc := put_any ⟨#[97]⟩ (by decide) w3
  refine (hc).mono ?_
  rintro e w4 ⟨Ap2, rfl, hrp2, hb4⟩
  have hbw4 := hbw3.trans (hb4.mono hbw3.size)
  have Ha4 := Lib.hid (RdP.step Ha.out hb4)
  clear Ha
  have Ha := Ha4
  clear Ha4
  have Hb4 := Lib.hid (RdP.step Hb.out hb4)
  clear Hb
  have Hb := Hb4
  clear Hb4
  have Hc4 := Lib.hid (RdP.step Hc.out hb4)
  clear Hc
  have Hc := Hc4
  clear Hc4
  have Hr4 := Lib.hid (RdP.step Hr.out hb4)
  clear Hr
  have Hr := Hr4
  clear Hr4
  clear hb4
  clear hc
  have Hp2 := Lib.hid hrp2
  clear hrp2
  go_wp2_with fail
  refine (same_true [(2, 0, ⟨#[97]⟩)] [(2, 0, ⟨#[97]⟩)] Ar Ap2 _ _ cr 1 _ _ _ Hr.out Hp2.out rfl).mono ?_
  rintro e w5 ⟨rfl, hb5⟩
  have hbw5 := hbw4.trans (hb5.mono hbw4.size)
  have Ha5 := Lib.hid (RdP.step Ha.out hb5)
  clear Ha
  have Ha := Ha5
  clear Ha5
  have Hb5 := Lib.hid (RdP.step Hb.out hb5)
  clear Hb
  have Hb := Hb5
  clear Hb5
  have Hc5 := Lib.hid (RdP.step Hc.out hb5)
  clear Hc
  have Hc := Hc5
  clear Hc5
  have Hr5 := Lib.hid (RdP.step Hr.out hb5)
  clear Hr
  have Hr := Hr5
  clear Hr5
  have Hp25 := Lib.hid (RdP.step Hp2.out hb5)
  clear Hp2
  have Hp2 := Hp25
  clear Hp25
  clear hb5
  go_wp2_with fail
  clear Hr
  clear Hp2
  have HJ := Lib.hid (joins_left H1.out H2.out)
  have HA := Lib.hid (comp_chk H1.out)
  have HB := Lib.hid (comp_chk H2.out)
  have HL := Lib.hid (all_left HA.out.1)
  have HR := Lib.hid (all_right HA.out.1)
  have hc := comp_rd a b A A' n n' k k' _ Ha.out Hb.out
  rw [H1.out] at hc
  refine (hc).mono ?_
  rintro e w6 ⟨Ax, cx, rfl, hrx, hb6⟩
  have hbw6 := hbw5.trans (hb6.mono hbw5.size)
  have Ha6 := Lib.hid (RdP.step Ha.out hb6)
  clear Ha
  have Ha := Ha6
  clear Ha6
  have Hb6 := Lib.hid (RdP.step Hb.out hb6)
  clear Hb
  have Hb := Hb6
  clear Hb6
  have Hc6 := Lib.hid (RdP.step Hc.out hb6)
  clear Hc
  have Hc := Hc6
  clear Hc6
  clear hb6
  clear hc
  have Hx := Lib.hid hrx
  clear hrx
  go_wp2_with fail
  have hc := comp_rd b c A' A'' n' n'' k' k'' _ Hb.out Hc.out
  rw [H2.out] at hc
  refine (hc).mono ?_
  rintro e w7 ⟨Ay, cy, rfl, hry, hb7⟩
  have hbw7 := hbw6.trans (hb7.mono hbw6.size)
  have Ha7 := Lib.hid (RdP.step Ha.out hb7)
  clear Ha
  have Ha := Ha7
  clear Ha7
  have Hb7 := Lib.hid (RdP.step Hb.out hb7)
  clear Hb
  have Hb := Hb7
  clear Hb7
  have Hc7 := Lib.hid (RdP.step Hc.out hb7)
  clear Hc
  have Hc := Hc7
  clear Hc7
  have Hx7 := Lib.hid (RdP.step Hx.out hb7)
  clear Hx
  have Hx := Hx7
  clear Hx7
  clear hb7
  clear hc
  have Hy := Lib.hid hry
  clear hry
  go_wp2_with fail
  have hc := comp_rd (compL a b) c Ax A'' ((compL a b).length) n'' cx k'' _ Hx.out Hc.out
  rw [HJ.out.1] at hc
  refine (hc).mono ?_
  rintro e w8 ⟨Ap, cp, rfl, hrp, hb8⟩
  have hbw8 := hbw7.trans (hb8.mono hbw7.size)
  have Ha8 := Lib.hid (RdP.step Ha.out hb8)
  clear Ha
  have Ha := Ha8
  clear Ha8
  have Hb8 := Lib.hid (RdP.step Hb.out hb8)
  clear Hb
  have Hb := Hb8
  clear Hb8
  have Hc8 := Lib.hid (RdP.step Hc.out hb8)
  clear Hc
  have Hc := Hc8
  clear Hc8
  have Hx8 := Lib.hid (RdP.step Hx.out hb8)
  clear Hx
  have Hx := Hx8
  clear Hx8
  have Hy8 := Lib.hid (RdP.step Hy.out hb8)
  clear Hy
  have Hy := Hy8
  clear Hy8
  clear hb8
  clear hc
  have Hp := Lib.hid hrp
  clear hrp
  go_wp2_with fail
  have hc := comp_rd a (compL b c) A Ay n ((compL b c).length) k cy _ Ha.out Hy.out
  rw [HJ.out.2.1] at hc
  refine (hc).mono ?_
  rintro e w9 ⟨Aq, cq, rfl, hrq, hb9⟩
  have hbw9 := hbw8.trans (hb9.mono hbw8.size)
  have Ha9 := Lib.hid (RdP.step Ha.out hb9)
  clear Ha
  have Ha := Ha9
  clear Ha9
  have Hb9 := Lib.hid (RdP.step Hb.out hb9)
  clear Hb
  have Hb := Hb9
  clear Hb9
  have Hc9 := Lib.hid (RdP.step Hc.out hb9)
  clear Hc
  have Hc := Hc9
  clear Hc9
  have Hx9 := Lib.hid (RdP.step Hx.out hb9)
  clear Hx
  have Hx := Hx9
  clear Hx9
  have Hy9 := Lib.hid (RdP.step Hy.out hb9)
  clear Hy
  have Hy := Hy9
  clear Hy9
  have Hp9 := Lib.hid (RdP.step Hp.out hb9)
  clear Hp
  have Hp := Hp9
  clear Hp9
  clear hb9
  clear hc
  have Hq := Lib.hid hrq
  clear hrq
  go_wp2_with fail
  refine (psizes_good a A n k _ _ Ha.out (Nat.le_refl _) HA.out.1).mono ?_
  rintro e w10 ⟨rfl, hb10⟩
  have hbw10 := hbw9.trans (hb10.mono hbw9.size)
  have Ha10 := Lib.hid (RdP.step Ha.out hb10)
  clear Ha
  have Ha := Ha10
  clear Ha10
  have Hb10 := Lib.hid (RdP.step Hb.out hb10)
  clear Hb
  have Hb := Hb10
  clear Hb10
  have Hc10 := Lib.hid (RdP.step Hc.out hb10)
  clear Hc
  have Hc := Hc10
  clear Hc10
  have Hx10 := Lib.hid (RdP.step Hx.out hb10)
  clear Hx
  have Hx := Hx10
  clear Hx10
  have Hy10 := Lib.hid (RdP.step Hy.out hb10)
  clear Hy
  have Hy := Hy10
  clear Hy10
  have Hp10 := Lib.hid (RdP.step Hp.out hb10)
  clear Hp
  have Hp := Hp10
  clear Hp10
  have Hq10 := Lib.hid (RdP.step Hq.out hb10)
  clear Hq
  have Hq := Hq10
  clear Hq10
  clear hb10
  go_wp2_with fail
  have hc := all_any (nI (units a)) w10
  refine (hc).mono ?_
  rintro e w11 ⟨Au, cu, rfl, hru, hb11⟩
  have hbw11 := hbw10.trans (hb11.mono hbw10.size)
  have Ha11 := Lib.hid (RdP.step Ha.out hb11)
  clear Ha
  have Ha := Ha11
  clear Ha11
  have Hb11 := Lib.hid (RdP.step Hb.out hb11)
  clear Hb
  have Hb := Hb11
  clear Hb11
  have Hc11 := Lib.hid (RdP.step Hc.out hb11)
  clear Hc
  have Hc := Hc11
  clear Hc11
  have Hx11 := Lib.hid (RdP.step Hx.out hb11)
  clear Hx
  have Hx := Hx11
  clear Hx11
  have Hy11 := Lib.hid (RdP.step Hy.out hb11)
  clear Hy
  have Hy := Hy11
  clear Hy11
  have Hp11 := Lib.hid (RdP.step Hp.out hb11)
  clear Hp
  have Hp := Hp11
  clear Hp11
  have Hq11 := Lib.hid (RdP.step Hq.out hb11)
  clear Hq
  have Hq := Hq11
  clear Hq11
  clear hb11
  clear hc
  have Hu := Lib.hid hru
  clear hru
  go_wp2_with fail
  have hc := comp_rd (allL (nI (units a))) a Au A ((allL (nI (units a))).length) n cu k _ Hu.out Ha.out
  rw [HL.out.1] at hc
  rw [HL.out.2] at hc
  refine (hc).mono ?_
  rintro e w12 ⟨Al, cl, rfl, hrl, hb12⟩
  have hbw12 := hbw11.trans (hb12.mono hbw11.size)
  have Ha12 := Lib.hid (RdP.step Ha.out hb12)
  clear Ha
  have Ha := Ha12
  clear Ha12
  have Hb12 := Lib.hid (RdP.step Hb.out hb12)
  clear Hb
  have Hb := Hb12
  clear Hb12
  have Hc12 := Lib.hid (RdP.step Hc.out hb12)
  clear Hc
  have Hc := Hc12
  clear Hc12
  have Hx12 := Lib.hid (RdP.step Hx.out hb12)
  clear Hx
  have Hx := Hx12
  clear Hx12
  have Hy12 := Lib.hid (RdP.step Hy.out hb12)
  clear Hy
  have Hy := Hy12
  clear Hy12
  have Hp12 := Lib.hid (RdP.step Hp.out hb12)
  clear Hp
  have Hp := Hp12
  clear Hp12
  have Hq12 := Lib.hid (RdP.step Hq.out hb12)
  clear Hq
  have Hq := Hq12
  clear Hq12
  have Hu12 := Lib.hid (RdP.step Hu.out hb12)
  clear Hu
  have Hu := Hu12
  clear Hu12
  clear hb12
  clear hc
  have Hl := Lib.hid hrl
  clear hrl
  go_wp2_with fail
  have hc := all_any (nO (units a)) w12
  refine (hc).mono ?_
  rintro e w13 ⟨Av, cv, rfl, hrv, hb13⟩
  have hbw13 := hbw12.trans (hb13.mono hbw12.size)
  have Ha13 := Lib.hid (RdP.step Ha.out hb13)
  clear Ha
  have Ha := Ha13
  clear Ha13
  have Hb13 := Lib.hid (RdP.step Hb.out hb13)
  clear Hb
  have Hb := Hb13
  clear Hb13
  have Hc13 := Lib.hid (RdP.step Hc.out hb13)
  clear Hc
  have Hc := Hc13
  clear Hc13
  have Hx13 := Lib.hid (RdP.step Hx.out hb13)
  clear Hx
  have Hx := Hx13
  clear Hx13
  have Hy13 := Lib.hid (RdP.step Hy.out hb13)
  clear Hy
  have Hy := Hy13
  clear Hy13
  have Hp13 := Lib.hid (RdP.step Hp.out hb13)
  clear Hp
  have Hp := Hp13
  clear Hp13
  have Hq13 := Lib.hid (RdP.step Hq.out hb13)
  clear Hq
  have Hq := Hq13
  clear Hq13
  have Hu13 := Lib.hid (RdP.step Hu.out hb13)
  clear Hu
  have Hu := Hu13
  clear Hu13
  have Hl13 := Lib.hid (RdP.step Hl.out hb13)
  clear Hl
  have Hl := Hl13
  clear Hl13
  clear hb13
  clear hc
  have Hv := Lib.hid hrv
  clear hrv
  go_wp2_with fail
  have hc := comp_rd a (allL (nO (units a))) A Av n ((allL (nO (units a))).length) k cv _ Ha.out Hv.out
  rw [HR.out.1] at hc
  rw [HR.out.2] at hc
  refine (hc).mono ?_
  rintro e w14 ⟨Ar, cr, rfl, hrr, hb14⟩
  have hbw14 := hbw13.trans (hb14.mono hbw13.size)
  have Ha14 := Lib.hid (RdP.step Ha.out hb14)
  clear Ha
  have Ha := Ha14
  clear Ha14
  have Hb14 := Lib.hid (RdP.step Hb.out hb14)
  clear Hb
  have Hb := Hb14
  clear Hb14
  have Hc14 := Lib.hid (RdP.step Hc.out hb14)
  clear Hc
  have Hc := Hc14
  clear Hc14
  have Hx14 := Lib.hid (RdP.step Hx.out hb14)
  clear Hx
  have Hx := Hx14
  clear Hx14
  have Hy14 := Lib.hid (RdP.step Hy.out hb14)
  clear Hy
  have Hy := Hy14
  clear Hy14
  have Hp14 := Lib.hid (RdP.step Hp.out hb14)
  clear Hp
  have Hp := Hp14
  clear Hp14
  have Hq14 := Lib.hid (RdP.step Hq.out hb14)
  clear Hq
  have Hq := Hq14
  clear Hq14
  have Hu14 := Lib.hid (RdP.step Hu.out hb14)
  clear Hu
  have Hu := Hu14
  clear Hu14
  have Hl14 := Lib.hid (RdP.step Hl.out hb14)
  clear Hl
  have Hl := Hl14
  clear Hl14
  have Hv14 := Lib.hid (RdP.step Hv.out hb14)
  clear Hv
  have Hv := Hv14
  clear Hv14
  clear hb14
  clear hc
  have Hr := Lib.hid hrr
  clear hrr
  go_wp2_with fail
  refine (same_true (compL (compL a b) c) (compL a (compL b c)) Ap Aq _ _ cp cq _ _ _ Hp.out Hq.out HJ.out.2.2).mono ?_
  rintro e w15 ⟨rfl, hb15⟩
  have hbw15 := hbw14.trans (hb15.mono hbw14.size)
  have Ha15 := Lib.hid (RdP.step Ha.out hb15)
  clear Ha
  have Ha := Ha15
  clear Ha15
  have Hb15 := Lib.hid (RdP.step Hb.out hb15)
  clear Hb
  have Hb := Hb15
  clear Hb15
  have Hc15 := Lib.hid (RdP.step Hc.out hb15)
  clear Hc
  have Hc := Hc15
  clear Hc15
  have Hx15 := Lib.hid (RdP.step Hx.out hb15)
  clear Hx
  have Hx := Hx15
  clear Hx15
  have Hy15 := Lib.hid (RdP.step Hy.out hb15)
  clear Hy
  have Hy := Hy15
  clear Hy15
  have Hp15 := Lib.hid (RdP.step Hp.out hb15)
  clear Hp
  have Hp := Hp15
  clear Hp15
  have Hq15 := Lib.hid (RdP.step Hq.out hb15)
  clear Hq
  have Hq := Hq15
  clear Hq15
  have Hu15 := Lib.hid (RdP.step Hu.out hb15)
  clear Hu
  have Hu := Hu15
  clear Hu15
  have Hl15 := Lib.hid (RdP.step Hl.out hb15)
  clear Hl
  have Hl := Hl15
  clear Hl15
  have Hv15 := Lib.hid (RdP.step Hv.out hb15)
  clear Hv
  have Hv := Hv15
  clear Hv15
  have Hr15 := Lib.hid (RdP.step Hr.out hb15)
  clear Hr
  have Hr := Hr15
  clear Hr15
  clear hb15
  go_wp2_with fail
  refine (same_true a a Al A _ _ cl k _ _ _ Hl.out Ha.out rfl).mono ?_
  rintro e w16 ⟨rfl, hb16⟩
  have hbw16 := hbw15.trans (hb16.mono hbw15.size)
  have Ha16 := Lib.hid (RdP.step Ha.out hb16)
  clear Ha
  have Ha := Ha16
  clear Ha16
  have Hb16 := Lib.hid (RdP.step Hb.out hb16)
  clear Hb
  have Hb := Hb16
  clear Hb16
  have Hc16 := Lib.hid (RdP.step Hc.out hb16)
  clear Hc
  have Hc := Hc16
  clear Hc16
  have Hx16 := Lib.hid (RdP.step Hx.out hb16)
  clear Hx
  have Hx := Hx16
  clear Hx16
  have Hy16 := Lib.hid (RdP.step Hy.out hb16)
  clear Hy
  have Hy := Hy16
  clear Hy16
  have Hp16 := Lib.hid (RdP.step Hp.out hb16)
  clear Hp
  have Hp := Hp16
  clear Hp16
  have Hq16 := Lib.hid (RdP.step Hq.out hb16)
  clear Hq
  have Hq := Hq16
  clear Hq16
  have Hu16 := Lib.hid (RdP.step Hu.out hb16)
  clear Hu
  have Hu := Hu16
  clear Hu16
  have Hl16 := Lib.hid (RdP.step Hl.out hb16)
  clear Hl
  have Hl := Hl16
  clear Hl16
  have Hv16 := Lib.hid (RdP.step Hv.out hb16)
  clear Hv
  have Hv := Hv16
  clear Hv16
  have Hr16 := Lib.hid (RdP.step Hr.out hb16)
  clear Hr
  have Hr := Hr16
  clear Hr16
  clear hb16
  go_wp2_with fail
  refine (same_true a a Ar A _ _ cr k _ _ _ Hr.out Ha.out rfl).mono ?_
  rintro e w17 ⟨rfl, hb17⟩
  have hbw17 := hbw16.trans (hb17.mono hbw16.size)
  have Ha17 := Lib.hid (RdP.step Ha.out hb17)
  clear Ha
  have Ha := Ha17
  clear Ha17
  have Hb17 := Lib.hid (RdP.step Hb.out hb17)
  clear Hb
  have Hb := Hb17
  clear Hb17
  have Hc17 := Lib.hid (RdP.step Hc.out hb17)
  clear Hc
  have Hc := Hc17
  clear Hc17
  have Hx17 := Lib.hid (RdP.step Hx.out hb17)
  clear Hx
  have Hx := Hx17
  clear Hx17
  have Hy17 := Lib.hid (RdP.step Hy.out hb17)
  clear Hy
  have Hy := Hy17
  clear Hy17
  have Hp17 := Lib.hid (RdP.step Hp.out hb17)
  clear Hp
  have Hp := Hp17
  clear Hp17
  have Hq17 := Lib.hid (RdP.step Hq.out hb17)
  clear Hq
  have Hq := Hq17
  clear Hq17
  have Hu17 := Lib.hid (RdP.step Hu.out hb17)
  clear Hu
  have Hu := Hu17
  clear Hu17
  have Hl17 := Lib.hid (RdP.step Hl.out hb17)
  clear Hl
  have Hl := Hl17
  clear Hl17
  have Hv17 := Lib.hid (RdP.step Hv.out hb17)
  clear Hv
  have Hv := Hv17
  clear Hv17
  have Hr17 := Lib.hid (RdP.step Hr.out hb17)
  clear Hr
  have Hr := Hr17
  clear Hr17
  clear hb17
  go_wp2_with fail
  go_ret
  exact ⟨rfl, hbw17⟩
theorem walk_CompJoins (v : Value) (a : List Pt) (v' : Value) (b : List Pt) (v'' : Value) (c : List Pt) (w : World) (ha : IsParts w v a) (hb : IsParts w v' b) (hc : IsParts w v'' c) :
    Calls Try.prog 4 #[v, v', v''] w fun e w' => e = .returned (.bool true) ∧ Below w.heap.size w w' := by
  obtain ⟨A, n, k, rfl, ha⟩ := ha
  obtain ⟨A', n', k', rfl, hb⟩ := hb
  obtain ⟨A'', n'', k'', rfl, hc⟩ := hc
  by_cases h1 : compE a b = 0
  · by_cases h2 : compE b c = 0
    · exact compJoins_ok a b c A A' A'' n n' n'' k k' k'' w ha hb hc h1 h2
    · exact compJoins_e2 a b c A A' A'' n n' n'' k k' k'' w ha hb hc h1 h2
  · exact compJoins_e1 a b c A A' A'' n n' n'' k k' k'' w ha hb hc h1
end Go.Proofs.Ytgocddkoancdiaa
