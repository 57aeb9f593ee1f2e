/- MeetJoins: the walk. What cuts nothing, and meets two as one. -/
import Derived.Test.YtgocddkoancdiaaMeet
import Derived.Test.YtgocddkoancdiaaCuts
import Derived.Test.YtgocddkoancdiaaSame
import Derived.Test.YtgocddkoancdiaaOpenParts
namespace Go.Proofs.Ytgocddkoancdiaa
open Go.ChangeShapes Go.WideShapes Go.RowKit
set_option linter.unusedVariables false
set_option linter.unusedSimpArgs false
set_option maxRecDepth 100000
set_option maxHeartbeats 4000000


theorem meetJoins_e1 (a b c : List Pt) (A A' A'' : Option Addr) (n n' n'' k k' k'' : Nat) (w : World) (ha : RdP w w.heap.size A n k a) (hb : RdP w w.heap.size A' n' k' b) (hc : RdP w w.heap.size A'' n'' k'' c) (h1 : compE a b ≠ 0) :
    Calls Try.prog 11 #[.slice A n k, .slice A' n' k', .slice A'' n'' k''] w fun e w' => e = .returned (.bool true) ∧ Below w.heap.size w w' := by
  have hbw0 : Below w.heap.size w w := Below.refl _ _
  have Ha := Lib.hid ha
  clear ha
  have Hb := Lib.hid hb
  clear hb
  have Hc := Lib.hid hc
  clear hc
  have hne : (compE a b != 0) = true := by simpa using h1
  have Hh1 := Lib.hid h1
  clear h1
  go_enter Try.func11, Try.ntmps11
  go_wp2_with fail
  have hc := put_any ⟨#[97]⟩ (by decide) w
  refine (hc).mono ?_
  rintro e w1 ⟨Ap, rfl, hrp, hb1⟩
  have hbw1 := hbw0.trans (hb1.mono hbw0.size)
  have Ha1 := Lib.hid (RdP.step Ha.out hb1)
  clear Ha
  have Ha := Ha1
  clear Ha1
  have Hb1 := Lib.hid (RdP.step Hb.out hb1)
  clear Hb
  have Hb := Hb1
  clear Hb1
  have Hc1 := Lib.hid (RdP.step Hc.out hb1)
  clear Hc
  have Hc := Hc1
  clear Hc1
  clear hb1
  clear hc
  have Hp := Lib.hid hrp
  clear hrp
  go_wp2_with fail
  have hc := all_any 0 w1
  refine (hc).mono ?_
  rintro e w2 ⟨Aq, cq, rfl, hrq, hb2⟩
  have hbw2 := hbw1.trans (hb2.mono hbw1.size)
  have Ha2 := Lib.hid (RdP.step Ha.out hb2)
  clear Ha
  have Ha := Ha2
  clear Ha2
  have Hb2 := Lib.hid (RdP.step Hb.out hb2)
  clear Hb
  have Hb := Hb2
  clear Hb2
  have Hc2 := Lib.hid (RdP.step Hc.out hb2)
  clear Hc
  have Hc := Hc2
  clear Hc2
  have Hp2 := Lib.hid (RdP.step Hp.out hb2)
  clear Hp
  have Hp := Hp2
  clear Hp2
  clear hb2
  clear hc
  have Hq := Lib.hid hrq
  clear hrq
  go_wp2_with fail
  have hc := meet_rd [(2, 0, ⟨#[97]⟩)] (allL 0) Ap Aq 1 ((allL 0).length) 1 cq _ Hp.out Hq.out
  rw [show meetE [(2, 0, ⟨#[97]⟩)] (allL 0) = 0 from by decide] at hc
  rw [show meetC [(2, 0, ⟨#[97]⟩)] (allL 0) = [(2, 0, ⟨#[97]⟩)] from by decide] at hc
  refine (hc).mono ?_
  rintro e w3 ⟨Ac0, cc0, Ad0, cd0, rfl, hrc0, hrd0, hb3⟩
  have hbw3 := hbw2.trans (hb3.mono hbw2.size)
  have Ha3 := Lib.hid (RdP.step Ha.out hb3)
  clear Ha
  have Ha := Ha3
  clear Ha3
  have Hb3 := Lib.hid (RdP.step Hb.out hb3)
  clear Hb
  have Hb := Hb3
  clear Hb3
  have Hc3 := Lib.hid (RdP.step Hc.out hb3)
  clear Hc
  have Hc := Hc3
  clear Hc3
  have Hp3 := Lib.hid (RdP.step Hp.out hb3)
  clear Hp
  have Hp := Hp3
  clear Hp3
  have Hq3 := Lib.hid (RdP.step Hq.out hb3)
  clear Hq
  have Hq := Hq3
  clear Hq3
  clear hb3
  clear hc
  have Hc0 := Lib.hid hrc0
  clear hrc0
  have Hd0 := Lib.hid hrd0
  clear hrd0
  go_wp2_with fail
  clear Hp
  clear Hq
  clear Hd0
  have hc := put_any ⟨#[97]⟩ (by decide) w3
  refine (hc).mono ?_
  rintro e w4 ⟨Ap2, rfl, hrp2, hb4⟩
  have hbw4 := hbw3.trans (hb4.mono hbw3.size)
  have Ha4 := Lib.hid (RdP.step Ha.out hb4)
  clear Ha
  have Ha := Ha4
  clear Ha4
  have Hb4 := Lib.hid (RdP.step Hb.out hb4)
  clear Hb
  have Hb := Hb4
  clear Hb4
  have Hc4 := Lib.hid (RdP.step Hc.out hb4)
  clear Hc
  have Hc := Hc4
  clear Hc4
  have Hc04 := Lib.hid (RdP.step Hc0.out hb4)
  clear Hc0
  have Hc0 := Hc04
  clear Hc04
  clear hb4
  clear hc
  have Hp2 := Lib.hid hrp2
  clear hrp2
  go_wp2_with fail
  refine (same_true [(2, 0, ⟨#[97]⟩)] [(2, 0, ⟨#[97]⟩)] Ac0 Ap2 _ _ cc0 1 _ _ _ Hc0.out Hp2.out rfl).mono ?_
  rintro e w5 ⟨rfl, hb5⟩
  have hbw5 := hbw4.trans (hb5.mono hbw4.size)
  have Ha5 := Lib.hid (RdP.step Ha.out hb5)
  clear Ha
  have Ha := Ha5
  clear Ha5
  have Hb5 := Lib.hid (RdP.step Hb.out hb5)
  clear Hb
  have Hb := Hb5
  clear Hb5
  have Hc5 := Lib.hid (RdP.step Hc.out hb5)
  clear Hc
  have Hc := Hc5
  clear Hc5
  have Hc05 := Lib.hid (RdP.step Hc0.out hb5)
  clear Hc0
  have Hc0 := Hc05
  clear Hc05
  have Hp25 := Lib.hid (RdP.step Hp2.out hb5)
  clear Hp2
  have Hp2 := Hp25
  clear Hp25
  clear hb5
  go_wp2_with fail
  clear Hc0
  clear Hp2
  have hc := comp_rd a b A A' n n' k k' _ Ha.out Hb.out
  rw [comp_err Hh1.out] at hc
  refine (hc).mono ?_
  rintro e w6 ⟨Ad, cd, rfl, hrd, hb6⟩
  have hbw6 := hbw5.trans (hb6.mono hbw5.size)
  have Ha6 := Lib.hid (RdP.step Ha.out hb6)
  clear Ha
  have Ha := Ha6
  clear Ha6
  have Hb6 := Lib.hid (RdP.step Hb.out hb6)
  clear Hb
  have Hb := Hb6
  clear Hb6
  have Hc6 := Lib.hid (RdP.step Hc.out hb6)
  clear Hc
  have Hc := Hc6
  clear Hc6
  clear hb6
  clear hc
  have Hd := Lib.hid hrd
  clear hrd
  go_wp2_with fail
  go_ret
  exact ⟨rfl, hbw6⟩
theorem meetJoins_e2 (a b c : List Pt) (A A' A'' : Option Addr) (n n' n'' k k' k'' : Nat) (w : World) (ha : RdP w w.heap.size A n k a) (hb : RdP w w.heap.size A' n' k' b) (hc : RdP w w.heap.size A'' n'' k'' c) (h1 : compE a b = 0) (hb1 : hasCut b = true) :
    Calls Try.prog 11 #[.slice A n k, .slice A' n' k', .slice A'' n'' k''] w fun e w' => e = .returned (.bool true) ∧ Below w.heap.size w w' := by
  have hbw0 : Below w.heap.size w w := Below.refl _ _
  have Ha := Lib.hid ha
  clear ha
  have Hb := Lib.hid hb
  clear hb
  have Hc := Lib.hid hc
  clear hc
  have Hh1 := Lib.hid h1
  clear h1
  have Hhb1 := Lib.hid hb1
  clear hb1
  go_enter Try.func11, Try.ntmps11
  go_wp2_with fail
  have hc := put_any ⟨#[97]⟩ (by decide) w
  refine (hc).mono ?_
  rintro e w1 ⟨Ap, rfl, hrp, hb1⟩
  have hbw1 := hbw0.trans (hb1.mono hbw0.size)
  have Ha1 := Lib.hid (RdP.step Ha.out hb1)
  clear Ha
  have Ha := Ha1
  clear Ha1
  have Hb1 := Lib.hid (RdP.step Hb.out hb1)
  clear Hb
  have Hb := Hb1
  clear Hb1
  have Hc1 := Lib.hid (RdP.step Hc.out hb1)
  clear Hc
  have Hc := Hc1
  clear Hc1
  clear hb1
  clear hc
  have Hp := Lib.hid hrp
  clear hrp
  go_wp2_with fail
  have hc := all_any 0 w1
  refine (hc).mono ?_
  rintro e w2 ⟨Aq, cq, rfl, hrq, hb2⟩
  have hbw2 := hbw1.trans (hb2.mono hbw1.size)
  have Ha2 := Lib.hid (RdP.step Ha.out hb2)
  clear Ha
  have Ha := Ha2
  clear Ha2
  have Hb2 := Lib.hid (RdP.step Hb.out hb2)
  clear Hb
  have Hb := Hb2
  clear Hb2
  have Hc2 := Lib.hid (RdP.step Hc.out hb2)
  clear Hc
  have Hc := Hc2
  clear Hc2
  have Hp2 := Lib.hid (RdP.step Hp.out hb2)
  clear Hp
  have Hp := Hp2
  clear Hp2
  clear hb2
  clear hc
  have Hq := Lib.hid hrq
  clear hrq
  go_wp2_with fail
  have hc := meet_rd [(2, 0, ⟨#[97]⟩)] (allL 0) Ap Aq 1 ((allL 0).length) 1 cq _ Hp.out Hq.out
  rw [show meetE [(2, 0, ⟨#[97]⟩)] (allL 0) = 0 from by decide] at hc
  rw [show meetC [(2, 0, ⟨#[97]⟩)] (allL 0) = [(2, 0, ⟨#[97]⟩)] from by decide] at hc
  refine (hc).mono ?_
  rintro e w3 ⟨Ac0, cc0, Ad0, cd0, rfl, hrc0, hrd0, hb3⟩
  have hbw3 := hbw2.trans (hb3.mono hbw2.size)
  have Ha3 := Lib.hid (RdP.step Ha.out hb3)
  clear Ha
  have Ha := Ha3
  clear Ha3
  have Hb3 := Lib.hid (RdP.step Hb.out hb3)
  clear Hb
  have Hb := Hb3
  clear Hb3
  have Hc3 := Lib.hid (RdP.step Hc.out hb3)
  clear Hc
  have Hc := Hc3
  clear Hc3
  have Hp3 := Lib.hid (RdP.step Hp.out hb3)
  clear Hp
  have Hp := Hp3
  clear Hp3
  have Hq3 := Lib.hid (RdP.step Hq.out hb3)
  clear Hq
  have Hq := Hq3
  clear Hq3
  clear hb3
  clear hc
  have Hc0 := Lib.hid hrc0
  clear hrc0
  have Hd0 := Lib.hid hrd0
  clear hrd0
  go_wp2_with fail
  clear Hp
  clear Hq
  clear Hd0
  have hc := put_any ⟨#[97]⟩ (by decide) w3
  refine (hc).mono ?_
  rintro e w4 ⟨Ap2, rfl, hrp2, hb4⟩
  have hbw4 := hbw3.trans (hb4.mono hbw3.size)
  have Ha4 := Lib.hid (RdP.step Ha.out hb4)
  clear Ha
  have Ha := Ha4
  clear Ha4
  have Hb4 := Lib.hid (RdP.step Hb.out hb4)
  clear Hb
  have Hb := Hb4
  clear Hb4
  have Hc4 := Lib.hid (RdP.step Hc.out hb4)
  clear Hc
  have Hc := Hc4
  clear Hc4
  have Hc04 := Lib.hid (RdP.step Hc0.out hb4)
  clear Hc0
  have Hc0 := Hc04
  clear Hc04
  clear hb4
  clear hc
  have Hp2 := Lib.hid hrp2
  clear hrp2
  go_wp2_with fail
  refine (same_true [(2, 0, ⟨#[97]⟩)] [(2, 0, ⟨#[97]⟩)] Ac0 Ap2 _ _ cc0 1 _ _ _ Hc0.out Hp2.out rfl).mono ?_
  rintro e w5 ⟨rfl, hb5⟩
  have hbw5 := hbw4.trans (hb5.mono hbw4.size)
  have Ha5 := Lib.hid (RdP.step Ha.out hb5)
  clear Ha
  have Ha := Ha5
  clear Ha5
  have Hb5 := Lib.hid (RdP.step Hb.out hb5)
  clear Hb
  have Hb := Hb5
  clear Hb5
  have Hc5 := Lib.hid (RdP.step Hc.out hb5)
  clear Hc
  have Hc := Hc5
  clear Hc5
  have Hc05 := Lib.hid (RdP.step Hc0.out hb5)
  clear Hc0
  have Hc0 := Hc05
  clear Hc05
  have Hp25 := Lib.hid (RdP.step Hp2.out hb5)
  clear Hp2
  have Hp2 := Hp25
  clear Hp25
  clear hb5
  go_wp2_with fail
  clear Hc0
  clear Hp2
  have hc := comp_rd a b A A' n n' k k' _ Ha.out Hb.out
  rw [Hh1.out] at hc
  refine (hc).mono ?_
  rintro e w6 ⟨Ad, cd, rfl, hrd, hb6⟩
  have hbw6 := hbw5.trans (hb6.mono hbw5.size)
  have Ha6 := Lib.hid (RdP.step Ha.out hb6)
  clear Ha
  have Ha := Ha6
  clear Ha6
  have Hb6 := Lib.hid (RdP.step Hb.out hb6)
  clear Hb
  have Hb := Hb6
  clear Hb6
  have Hc6 := Lib.hid (RdP.step Hc.out hb6)
  clear Hc
  have Hc := Hc6
  clear Hc6
  clear hb6
  clear hc
  have Hd := Lib.hid hrd
  clear hrd
  go_wp2_with fail
  have hc_ := cuts_any b A' n' k' _ _ Hb.out (Nat.le_refl _)
  rw [Hhb1.out] at hc_
  refine (hc_).mono ?_
  rintro e w7 ⟨rfl, hb7⟩
  have hbw7 := hbw6.trans (hb7.mono hbw6.size)
  have Ha7 := Lib.hid (RdP.step Ha.out hb7)
  clear Ha
  have Ha := Ha7
  clear Ha7
  have Hb7 := Lib.hid (RdP.step Hb.out hb7)
  clear Hb
  have Hb := Hb7
  clear Hb7
  have Hc7 := Lib.hid (RdP.step Hc.out hb7)
  clear Hc
  have Hc := Hc7
  clear Hc7
  have Hd7 := Lib.hid (RdP.step Hd.out hb7)
  clear Hd
  have Hd := Hd7
  clear Hd7
  clear hb7
  clear hc_
  go_wp2_with fail
  go_ret
  exact ⟨rfl, hbw7⟩
theorem meetJoins_e3 (a b c : List Pt) (A A' A'' : Option Addr) (n n' n'' k k' k'' : Nat) (w : World) (ha : RdP w w.heap.size A n k a) (hb : RdP w w.heap.size A' n' k' b) (hc : RdP w w.heap.size A'' n'' k'' c) (h1 : compE a b = 0) (hb1 : hasCut b = false) (hc1 : hasCut c = true) :
    Calls Try.prog 11 #[.slice A n k, .slice A' n' k', .slice A'' n'' k''] w fun e w' => e = .returned (.bool true) ∧ Below w.heap.size w w' := by
  have hbw0 : Below w.heap.size w w := Below.refl _ _
  have Ha := Lib.hid ha
  clear ha
  have Hb := Lib.hid hb
  clear hb
  have Hc := Lib.hid hc
  clear hc
  have Hh1 := Lib.hid h1
  clear h1
  have Hhb1 := Lib.hid hb1
  clear hb1
  have Hhc1 := Lib.hid hc1
  clear hc1
  go_enter Try.func11, Try.ntmps11
  go_wp2_with fail
  have hc := put_any ⟨#[97]⟩ (by decide) w
  refine (hc).mono ?_
  rintro e w1 ⟨Ap, rfl, hrp, hb1⟩
  have hbw1 := hbw0.trans (hb1.mono hbw0.size)
  have Ha1 := Lib.hid (RdP.step Ha.out hb1)
  clear Ha
  have Ha := Ha1
  clear Ha1
  have Hb1 := Lib.hid (RdP.step Hb.out hb1)
  clear Hb
  have Hb := Hb1
  clear Hb1
  have Hc1 := Lib.hid (RdP.step Hc.out hb1)
  clear Hc
  have Hc := Hc1
  clear Hc1
  clear hb1
  clear hc
  have Hp := Lib.hid hrp
  clear hrp
  go_wp2_with fail
  have hc := all_any 0 w1
  refine (hc).mono ?_
  rintro e w2 ⟨Aq, cq, rfl, hrq, hb2⟩
  have hbw2 := hbw1.trans (hb2.mono hbw1.size)
  have Ha2 := Lib.hid (RdP.step Ha.out hb2)
  clear Ha
  have Ha := Ha2
  clear Ha2
  have Hb2 := Lib.hid (RdP.step Hb.out hb2)
  clear Hb
  have Hb := Hb2
  clear Hb2
  have Hc2 := Lib.hid (RdP.step Hc.out hb2)
  clear Hc
  have Hc := Hc2
  clear Hc2
  have Hp2 := Lib.hid (RdP.step Hp.out hb2)
  clear Hp
  have Hp := Hp2
  clear Hp2
  clear hb2
  clear hc
  have Hq := Lib.hid hrq
  clear hrq
  go_wp2_with fail
  have hc := meet_rd [(2, 0, ⟨#[97]⟩)] (allL 0) Ap Aq 1 ((allL 0).length) 1 cq _ Hp.out Hq.out
  rw [show meetE [(2, 0, ⟨#[97]⟩)] (allL 0) = 0 from by decide] at hc
  rw [show meetC [(2, 0, ⟨#[97]⟩)] (allL 0) = [(2, 0, ⟨#[97]⟩)] from by decide] at hc
  refine (hc).mono ?_
  rintro e w3 ⟨Ac0, cc0, Ad0, cd0, rfl, hrc0, hrd0, hb3⟩
  have hbw3 := hbw2.trans (hb3.mono hbw2.size)
  have Ha3 := Lib.hid (RdP.step Ha.out hb3)
  clear Ha
  have Ha := Ha3
  clear Ha3
  have Hb3 := Lib.hid (RdP.step Hb.out hb3)
  clear Hb
  have Hb := Hb3
  clear Hb3
  have Hc3 := Lib.hid (RdP.step Hc.out hb3)
  clear Hc
  have Hc := Hc3
  clear Hc3
  have Hp3 := Lib.hid (RdP.step Hp.out hb3)
  clear Hp
  have Hp := Hp3
  clear Hp3
  have Hq3 := Lib.hid (RdP.step Hq.out hb3)
  clear Hq
  have Hq := Hq3
  clear Hq3
  clear hb3
  clear hc
  have Hc0 := Lib.hid hrc0
  clear hrc0
  have Hd0 := Lib.hid hrd0
  clear hrd0
  go_wp2_with fail
  clear Hp
  clear Hq
  clear Hd0
  have hc := put_any ⟨#[97]⟩ (by decide) w3
  refine (hc).mono ?_
  rintro e w4 ⟨Ap2, rfl, hrp2, hb4⟩
  have hbw4 := hbw3.trans (hb4.mono hbw3.size)
  have Ha4 := Lib.hid (RdP.step Ha.out hb4)
  clear Ha
  have Ha := Ha4
  clear Ha4
  have Hb4 := Lib.hid (RdP.step Hb.out hb4)
  clear Hb
  have Hb := Hb4
  clear Hb4
  have Hc4 := Lib.hid (RdP.step Hc.out hb4)
  clear Hc
  have Hc := Hc4
  clear Hc4
  have Hc04 := Lib.hid (RdP.step Hc0.out hb4)
  clear Hc0
  have Hc0 := Hc04
  clear Hc04
  clear hb4
  clear hc
  have Hp2 := Lib.hid hrp2
  clear hrp2
  go_wp2_with fail
  refine (same_true [(2, 0, ⟨#[97]⟩)] [(2, 0, ⟨#[97]⟩)] Ac0 Ap2 _ _ cc0 1 _ _ _ Hc0.out Hp2.out rfl).mono ?_
  rintro e w5 ⟨rfl, hb5⟩
  have hbw5 := hbw4.trans (hb5.mono hbw4.size)
  have Ha5 := Lib.hid (RdP.step Ha.out hb5)
  clear Ha
  have Ha := Ha5
  clear Ha5
  have Hb5 := Lib.hid (RdP.step Hb.out hb5)
  clear Hb
  have Hb := Hb5
  clear Hb5
  have Hc5 := Lib.hid (RdP.step Hc.out hb5)
  clear Hc
  have Hc := Hc5
  clear Hc5
  have Hc05 := Lib.hid (RdP.step Hc0.out hb5)
  clear Hc0
  have Hc0 := Hc05
  clear Hc05
  have Hp25 := Lib.hid (RdP.step Hp2.out hb5)
  clear Hp2
  have Hp2 := Hp25
  clear Hp25
  clear hb5
  go_wp2_with fail
  clear Hc0
  clear Hp2
  have hc := comp_rd a b A A' n n' k k' _ Ha.out Hb.out
  rw [Hh1.out] at hc
  refine (hc).mono ?_
  rintro e w6 ⟨Ad, cd, rfl, hrd, hb6⟩
  have hbw6 := hbw5.trans (hb6.mono hbw5.size)
  have Ha6 := Lib.hid (RdP.step Ha.out hb6)
  clear Ha
  have Ha := Ha6
  clear Ha6
  have Hb6 := Lib.hid (RdP.step Hb.out hb6)
  clear Hb
  have Hb := Hb6
  clear Hb6
  have Hc6 := Lib.hid (RdP.step Hc.out hb6)
  clear Hc
  have Hc := Hc6
  clear Hc6
  clear hb6
  clear hc
  have Hd := Lib.hid hrd
  clear hrd
  go_wp2_with fail
  have hc_ := cuts_any b A' n' k' _ _ Hb.out (Nat.le_refl _)
  rw [Hhb1.out] at hc_
  refine (hc_).mono ?_
  rintro e w7 ⟨rfl, hb7⟩
  have hbw7 := hbw6.trans (hb7.mono hbw6.size)
  have Ha7 := Lib.hid (RdP.step Ha.out hb7)
  clear Ha
  have Ha := Ha7
  clear Ha7
  have Hb7 := Lib.hid (RdP.step Hb.out hb7)
  clear Hb
  have Hb := Hb7
  clear Hb7
  have Hc7 := Lib.hid (RdP.step Hc.out hb7)
  clear Hc
  have Hc := Hc7
  clear Hc7
  have Hd7 := Lib.hid (RdP.step Hd.out hb7)
  clear Hd
  have Hd := Hd7
  clear Hd7
  clear hb7
  clear hc_
  go_wp2_with fail
  have hc_ := cuts_any c A'' n'' k'' _ _ Hc.out (Nat.le_refl _)
  rw [Hhc1.out] at hc_
  refine (hc_).mono ?_
  rintro e w8 ⟨rfl, hb8⟩
  have hbw8 := hbw7.trans (hb8.mono hbw7.size)
  have Ha8 := Lib.hid (RdP.step Ha.out hb8)
  clear Ha
  have Ha := Ha8
  clear Ha8
  have Hb8 := Lib.hid (RdP.step Hb.out hb8)
  clear Hb
  have Hb := Hb8
  clear Hb8
  have Hc8 := Lib.hid (RdP.step Hc.out hb8)
  clear Hc
  have Hc := Hc8
  clear Hc8
  have Hd8 := Lib.hid (RdP.step Hd.out hb8)
  clear Hd
  have Hd := Hd8
  clear Hd8
  clear hb8
  clear hc_
  go_wp2_with fail
  go_ret
  exact ⟨rfl, hbw8⟩
theorem meetJoins_e4 (a b c : List Pt) (A A' A'' : Option Addr) (n n' n'' k k' k'' : Nat) (w : World) (ha : RdP w w.heap.size A n k a) (hb : RdP w w.heap.size A' n' k' b) (hc : RdP w w.heap.size A'' n'' k'' c) (h1 : compE a b = 0) (hb1 : hasCut b = false) (hc1 : hasCut c = false) (h2 : meetE (compL a b) c ≠ 0) :
    Calls Try.prog 11 #[.slice A n k, .slice A' n' k', .slice A'' n'' k''] w fun e w' => e = .returned (.bool true) ∧ Below w.heap.size w w' := by
  have hbw0 : Below w.heap.size w w := Below.refl _ _
  have Ha := Lib.hid ha
  clear ha
  have Hb := Lib.hid hb
  clear hb
  have Hc := Lib.hid hc
  clear hc
  have hne : (meetE (compL a b) c != 0) = true := by simpa using h2
  have Hh1 := Lib.hid h1
  clear h1
  have Hh2 := Lib.hid h2
  clear h2
  have Hhb1 := Lib.hid hb1
  clear hb1
  have Hhc1 := Lib.hid hc1
  clear hc1
  go_enter Try.func11, Try.ntmps11
  go_wp2_with fail
  have hc := put_any ⟨#[97]⟩ (by decide) w
  refine (hc).mono ?_
  rintro e w1 ⟨Ap, rfl, hrp, hb1⟩
  have hbw1 := hbw0.trans (hb1.mono hbw0.size)
  have Ha1 := Lib.hid (RdP.step Ha.out hb1)
  clear Ha
  have Ha := Ha1
  clear Ha1
  have Hb1 := Lib.hid (RdP.step Hb.out hb1)
  clear Hb
  have Hb := Hb1
  clear Hb1
  have Hc1 := Lib.hid (RdP.step Hc.out hb1)
  clear Hc
  have Hc := Hc1
  clear Hc1
  clear hb1
  clear hc
  have Hp := Lib.hid hrp
  clear hrp
  go_wp2_with fail
  have hc := all_any 0 w1
  refine (hc).mono ?_
  rintro e w2 ⟨Aq, cq, rfl, hrq, hb2⟩
  have hbw2 := hbw1.trans (hb2.mono hbw1.size)
  have Ha2 := Lib.hid (RdP.step Ha.out hb2)
  clear Ha
  have Ha := Ha2
  clear Ha2
  have Hb2 := Lib.hid (RdP.step Hb.out hb2)
  clear Hb
  have Hb := Hb2
  clear Hb2
  have Hc2 := Lib.hid (RdP.step Hc.out hb2)
  clear Hc
  have Hc := Hc2
  clear Hc2
  have Hp2 := Lib.hid (RdP.step Hp.out hb2)
  clear Hp
  have Hp := Hp2
  clear Hp2
  clear hb2
  clear hc
  have Hq := Lib.hid hrq
  clear hrq
  go_wp2_with fail
  have hc := meet_rd [(2, 0, ⟨#[97]⟩)] (allL 0) Ap Aq 1 ((allL 0).length) 1 cq _ Hp.out Hq.out
  rw [show meetE [(2, 0, ⟨#[97]⟩)] (allL 0) = 0 from by decide] at hc
  rw [show meetC [(2, 0, ⟨#[97]⟩)] (allL 0) = [(2, 0, ⟨#[97]⟩)] from by decide] at hc
  refine (hc).mono ?_
  rintro e w3 ⟨Ac0, cc0, Ad0, cd0, rfl, hrc0, hrd0, hb3⟩
  have hbw3 := hbw2.trans (hb3.mono hbw2.size)
  have Ha3 := Lib.hid (RdP.step Ha.out hb3)
  clear Ha
  have Ha := Ha3
  clear Ha3
  have Hb3 := Lib.hid (RdP.step Hb.out hb3)
  clear Hb
  have Hb := Hb3
  clear Hb3
  have Hc3 := Lib.hid (RdP.step Hc.out hb3)
  clear Hc
  have Hc := Hc3
  clear Hc3
  have Hp3 := Lib.hid (RdP.step Hp.out hb3)
  clear Hp
  have Hp := Hp3
  clear Hp3
  have Hq3 := Lib.hid (RdP.step Hq.out hb3)
  clear Hq
  have Hq := Hq3
  clear Hq3
  clear hb3
  clear hc
  have Hc0 := Lib.hid hrc0
  clear hrc0
  have Hd0 := Lib.hid hrd0
  clear hrd0
  go_wp2_with fail
  clear Hp
  clear Hq
  clear Hd0
  have hc := put_any ⟨#[97]⟩ (by decide) w3
  refine (hc).mono ?_
  rintro e w4 ⟨Ap2, rfl, hrp2, hb4⟩
  have hbw4 := hbw3.trans (hb4.mono hbw3.size)
  have Ha4 := Lib.hid (RdP.step Ha.out hb4)
  clear Ha
  have Ha := Ha4
  clear Ha4
  have Hb4 := Lib.hid (RdP.step Hb.out hb4)
  clear Hb
  have Hb := Hb4
  clear Hb4
  have Hc4 := Lib.hid (RdP.step Hc.out hb4)
  clear Hc
  have Hc := Hc4
  clear Hc4
  have Hc04 := Lib.hid (RdP.step Hc0.out hb4)
  clear Hc0
  have Hc0 := Hc04
  clear Hc04
  clear hb4
  clear hc
  have Hp2 := Lib.hid hrp2
  clear hrp2
  go_wp2_with fail
  refine (same_true [(2, 0, ⟨#[97]⟩)] [(2, 0, ⟨#[97]⟩)] Ac0 Ap2 _ _ cc0 1 _ _ _ Hc0.out Hp2.out rfl).mono ?_
  rintro e w5 ⟨rfl, hb5⟩
  have hbw5 := hbw4.trans (hb5.mono hbw4.size)
  have Ha5 := Lib.hid (RdP.step Ha.out hb5)
  clear Ha
  have Ha := Ha5
  clear Ha5
  have Hb5 := Lib.hid (RdP.step Hb.out hb5)
  clear Hb
  have Hb := Hb5
  clear Hb5
  have Hc5 := Lib.hid (RdP.step Hc.out hb5)
  clear Hc
  have Hc := Hc5
  clear Hc5
  have Hc05 := Lib.hid (RdP.step Hc0.out hb5)
  clear Hc0
  have Hc0 := Hc05
  clear Hc05
  have Hp25 := Lib.hid (RdP.step Hp2.out hb5)
  clear Hp2
  have Hp2 := Hp25
  clear Hp25
  clear hb5
  go_wp2_with fail
  clear Hc0
  clear Hp2
  have hc := comp_rd a b A A' n n' k k' _ Ha.out Hb.out
  rw [Hh1.out] at hc
  refine (hc).mono ?_
  rintro e w6 ⟨Ad, cd, rfl, hrd, hb6⟩
  have hbw6 := hbw5.trans (hb6.mono hbw5.size)
  have Ha6 := Lib.hid (RdP.step Ha.out hb6)
  clear Ha
  have Ha := Ha6
  clear Ha6
  have Hb6 := Lib.hid (RdP.step Hb.out hb6)
  clear Hb
  have Hb := Hb6
  clear Hb6
  have Hc6 := Lib.hid (RdP.step Hc.out hb6)
  clear Hc
  have Hc := Hc6
  clear Hc6
  clear hb6
  clear hc
  have Hd := Lib.hid hrd
  clear hrd
  go_wp2_with fail
  have hc_ := cuts_any b A' n' k' _ _ Hb.out (Nat.le_refl _)
  rw [Hhb1.out] at hc_
  refine (hc_).mono ?_
  rintro e w7 ⟨rfl, hb7⟩
  have hbw7 := hbw6.trans (hb7.mono hbw6.size)
  have Ha7 := Lib.hid (RdP.step Ha.out hb7)
  clear Ha
  have Ha := Ha7
  clear Ha7
  have Hb7 := Lib.hid (RdP.step Hb.out hb7)
  clear Hb
  have Hb := Hb7
  clear Hb7
  have Hc7 := Lib.hid (RdP.step Hc.out hb7)
  clear Hc
  have Hc := Hc7
  clear Hc7
  have Hd7 := Lib.hid (RdP.step Hd.out hb7)
  clear Hd
  have Hd := Hd7
  clear Hd7
  clear hb7
  clear hc_
  go_wp2_with fail
  have hc_ := cuts_any c A'' n'' k'' _ _ Hc.out (Nat.le_refl _)
  rw [Hhc1.out] at hc_
  refine (hc_).mono ?_
  rintro e w8 ⟨rfl, hb8⟩
  have hbw8 := hbw7.trans (hb8.mono hbw7.size)
  have Ha8 := Lib.hid (RdP.step Ha.out hb8)
  clear Ha
  have Ha := Ha8
  clear Ha8
  have Hb8 := Lib.hid (RdP.step Hb.out hb8)
  clear Hb
  have Hb := Hb8
  clear Hb8
  have Hc8 := Lib.hid (RdP.step Hc.out hb8)
  clear Hc
  have Hc := Hc8
  clear Hc8
  have Hd8 := Lib.hid (RdP.step Hd.out hb8)
  clear Hd
  have Hd := Hd8
  clear Hd8
  clear hb8
  clear hc_
  go_wp2_with fail
  have hc := meet_rd (compL a b) c Ad A'' ((compL a b).length) n'' cd k'' _ Hd.out Hc.out
  refine (hc).mono ?_
  rintro e w9 ⟨Ap, cp, Aq, cq, rfl, hrp, hrq, hb9⟩
  have hbw9 := hbw8.trans (hb9.mono hbw8.size)
  have Ha9 := Lib.hid (RdP.step Ha.out hb9)
  clear Ha
  have Ha := Ha9
  clear Ha9
  have Hb9 := Lib.hid (RdP.step Hb.out hb9)
  clear Hb
  have Hb := Hb9
  clear Hb9
  have Hc9 := Lib.hid (RdP.step Hc.out hb9)
  clear Hc
  have Hc := Hc9
  clear Hc9
  have Hd9 := Lib.hid (RdP.step Hd.out hb9)
  clear Hd
  have Hd := Hd9
  clear Hd9
  clear hb9
  clear hc
  have Hp := Lib.hid hrp
  clear hrp
  have Hq := Lib.hid hrq
  clear hrq
  go_wp2_with fail
  have hc := meet_rd a c A A'' n n'' k k'' _ Ha.out Hc.out
  refine (hc).mono ?_
  rintro e w10 ⟨Aa1, ca1, Ac1x, cc1x, rfl, hra1, hrc1x, hb10⟩
  have hbw10 := hbw9.trans (hb10.mono hbw9.size)
  have Ha10 := Lib.hid (RdP.step Ha.out hb10)
  clear Ha
  have Ha := Ha10
  clear Ha10
  have Hb10 := Lib.hid (RdP.step Hb.out hb10)
  clear Hb
  have Hb := Hb10
  clear Hb10
  have Hc10 := Lib.hid (RdP.step Hc.out hb10)
  clear Hc
  have Hc := Hc10
  clear Hc10
  have Hd10 := Lib.hid (RdP.step Hd.out hb10)
  clear Hd
  have Hd := Hd10
  clear Hd10
  have Hp10 := Lib.hid (RdP.step Hp.out hb10)
  clear Hp
  have Hp := Hp10
  clear Hp10
  have Hq10 := Lib.hid (RdP.step Hq.out hb10)
  clear Hq
  have Hq := Hq10
  clear Hq10
  clear hb10
  clear hc
  have Ha1 := Lib.hid hra1
  clear hra1
  have Hc1x := Lib.hid hrc1x
  clear hrc1x
  go_wp2_with fail
  go_ret
  exact ⟨rfl, hbw10⟩
theorem meetJoins_e5 (a b c : List Pt) (A A' A'' : Option Addr) (n n' n'' k k' k'' : Nat) (w : World) (ha : RdP w w.heap.size A n k a) (hb : RdP w w.heap.size A' n' k' b) (hc : RdP w w.heap.size A'' n'' k'' c) (h1 : compE a b = 0) (hb1 : hasCut b = false) (hc1 : hasCut c = false) (h2 : meetE (compL a b) c = 0) (h3 : meetE a c ≠ 0) :
    Calls Try.prog 11 #[.slice A n k, .slice A' n' k', .slice A'' n'' k''] w fun e w' => e = .returned (.bool true) ∧ Below w.heap.size w w' := by
  have hbw0 : Below w.heap.size w w := Below.refl _ _
  have Ha := Lib.hid ha
  clear ha
  have Hb := Lib.hid hb
  clear hb
  have Hc := Lib.hid hc
  clear hc
  have hne : (meetE a c != 0) = true := by simpa using h3
  have Hh1 := Lib.hid h1
  clear h1
  have Hh2 := Lib.hid h2
  clear h2
  have Hh3 := Lib.hid h3
  clear h3
  have Hhb1 := Lib.hid hb1
  clear hb1
  have Hhc1 := Lib.hid hc1
  clear hc1
  go_enter Try.func11, Try.ntmps11
  go_wp2_with fail
  have hc := put_any ⟨#[97]⟩ (by decide) w
  refine (hc).mono ?_
  rintro e w1 ⟨Ap, rfl, hrp, hb1⟩
  have hbw1 := hbw0.trans (hb1.mono hbw0.size)
  have Ha1 := Lib.hid (RdP.step Ha.out hb1)
  clear Ha
  have Ha := Ha1
  clear Ha1
  have Hb1 := Lib.hid (RdP.step Hb.out hb1)
  clear Hb
  have Hb := Hb1
  clear Hb1
  have Hc1 := Lib.hid (RdP.step Hc.out hb1)
  clear Hc
  have Hc := Hc1
  clear Hc1
  clear hb1
  clear hc
  have Hp := Lib.hid hrp
  clear hrp
  go_wp2_with fail
  have hc := all_any 0 w1
  refine (hc).mono ?_
  rintro e w2 ⟨Aq, cq, rfl, hrq, hb2⟩
  have hbw2 := hbw1.trans (hb2.mono hbw1.size)
  have Ha2 := Lib.hid (RdP.step Ha.out hb2)
  clear Ha
  have Ha := Ha2
  clear Ha2
  have Hb2 := Lib.hid (RdP.step Hb.out hb2)
  clear Hb
  have Hb := Hb2
  clear Hb2
  have Hc2 := Lib.hid (RdP.step Hc.out hb2)
  clear Hc
  have Hc := Hc2
  clear Hc2
  have Hp2 := Lib.hid (RdP.step Hp.out hb2)
  clear Hp
  have Hp := Hp2
  clear Hp2
  clear hb2
  clear hc
  have Hq := Lib.hid hrq
  clear hrq
  go_wp2_with fail
  have hc := meet_rd [(2, 0, ⟨#[97]⟩)] (allL 0) Ap Aq 1 ((allL 0).length) 1 cq _ Hp.out Hq.out
  rw [show meetE [(2, 0, ⟨#[97]⟩)] (allL 0) = 0 from by decide] at hc
  rw [show meetC [(2, 0, ⟨#[97]⟩)] (allL 0) = [(2, 0, ⟨#[97]⟩)] from by decide] at hc
  refine (hc).mono ?_
  rintro e w3 ⟨Ac0, cc0, Ad0, cd0, rfl, hrc0, hrd0, hb3⟩
  have hbw3 := hbw2.trans (hb3.mono hbw2.size)
  have Ha3 := Lib.hid (RdP.step Ha.out hb3)
  clear Ha
  have Ha := Ha3
  clear Ha3
  have Hb3 := Lib.hid (RdP.step Hb.out hb3)
  clear Hb
  have Hb := Hb3
  clear Hb3
  have Hc3 := Lib.hid (RdP.step Hc.out hb3)
  clear Hc
  have Hc := Hc3
  clear Hc3
  have Hp3 := Lib.hid (RdP.step Hp.out hb3)
  clear Hp
  have Hp := Hp3
  clear Hp3
  have Hq3 := Lib.hid (RdP.step Hq.out hb3)
  clear Hq
  have Hq := Hq3
  clear Hq3
  clear hb3
  clear hc
  have Hc0 := Lib.hid hrc0
  clear hrc0
  have Hd0 := Lib.hid hrd0
  clear hrd0
  go_wp2_with fail
  clear Hp
  clear Hq
  clear Hd0
  have hc := put_any ⟨#[97]⟩ (by decide) w3
  refine (hc).mono ?_
  rintro e w4 ⟨Ap2, rfl, hrp2, hb4⟩
  have hbw4 := hbw3.trans (hb4.mono hbw3.size)
  have Ha4 := Lib.hid (RdP.step Ha.out hb4)
  clear Ha
  have Ha := Ha4
  clear Ha4
  have Hb4 := Lib.hid (RdP.step Hb.out hb4)
  clear Hb
  have Hb := Hb4
  clear Hb4
  have Hc4 := Lib.hid (RdP.step Hc.out hb4)
  clear Hc
  have Hc := Hc4
  clear Hc4
  have Hc04 := Lib.hid (RdP.step Hc0.out hb4)
  clear Hc0
  have Hc0 := Hc04
  clear Hc04
  clear hb4
  clear hc
  have Hp2 := Lib.hid hrp2
  clear hrp2
  go_wp2_with fail
  refine (same_true [(2, 0, ⟨#[97]⟩)] [(2, 0, ⟨#[97]⟩)] Ac0 Ap2 _ _ cc0 1 _ _ _ Hc0.out Hp2.out rfl).mono ?_
  rintro e w5 ⟨rfl, hb5⟩
  have hbw5 := hbw4.trans (hb5.mono hbw4.size)
  have Ha5 := Lib.hid (RdP.step Ha.out hb5)
  clear Ha
  have Ha := Ha5
  clear Ha5
  have Hb5 := Lib.hid (RdP.step Hb.out hb5)
  clear Hb
  have Hb := Hb5
  clear Hb5
  have Hc5 := Lib.hid (RdP.step Hc.out hb5)
  clear Hc
  have Hc := Hc5
  clear Hc5
  have Hc05 := Lib.hid (RdP.step Hc0.out hb5)
  clear Hc0
  have Hc0 := Hc05
  clear Hc05
  have Hp25 := Lib.hid (RdP.step Hp2.out hb5)
  clear Hp2
  have Hp2 := Hp25
  clear Hp25
  clear hb5
  go_wp2_with fail
  clear Hc0
  clear Hp2
  have hc := comp_rd a b A A' n n' k k' _ Ha.out Hb.out
  rw [Hh1.out] at hc
  refine (hc).mono ?_
  rintro e w6 ⟨Ad, cd, rfl, hrd, hb6⟩
  have hbw6 := hbw5.trans (hb6.mono hbw5.size)
  have Ha6 := Lib.hid (RdP.step Ha.out hb6)
  clear Ha
  have Ha := Ha6
  clear Ha6
  have Hb6 := Lib.hid (RdP.step Hb.out hb6)
  clear Hb
  have Hb := Hb6
  clear Hb6
  have Hc6 := Lib.hid (RdP.step Hc.out hb6)
  clear Hc
  have Hc := Hc6
  clear Hc6
  clear hb6
  clear hc
  have Hd := Lib.hid hrd
  clear hrd
  go_wp2_with fail
  have hc_ := cuts_any b A' n' k' _ _ Hb.out (Nat.le_refl _)
  rw [Hhb1.out] at hc_
  refine (hc_).mono ?_
  rintro e w7 ⟨rfl, hb7⟩
  have hbw7 := hbw6.trans (hb7.mono hbw6.size)
  have Ha7 := Lib.hid (RdP.step Ha.out hb7)
  clear Ha
  have Ha := Ha7
  clear Ha7
  have Hb7 := Lib.hid (RdP.step Hb.out hb7)
  clear Hb
  have Hb := Hb7
  clear Hb7
  have Hc7 := Lib.hid (RdP.step Hc.out hb7)
  clear Hc
  have Hc := Hc7
  clear Hc7
  have Hd7 := Lib.hid (RdP.step Hd.out hb7)
  clear Hd
  have Hd := Hd7
  clear Hd7
  clear hb7
  clear hc_
  go_wp2_with fail
  have hc_ := cuts_any c A'' n'' k'' _ _ Hc.out (Nat.le_refl _)
  rw [Hhc1.out] at hc_
  refine (hc_).mono ?_
  rintro e w8 ⟨rfl, hb8⟩
  have hbw8 := hbw7.trans (hb8.mono hbw7.size)
  have Ha8 := Lib.hid (RdP.step Ha.out hb8)
  clear Ha
  have Ha := Ha8
  clear Ha8
  have Hb8 := Lib.hid (RdP.step Hb.out hb8)
  clear Hb
  have Hb := Hb8
  clear Hb8
  have Hc8 := Lib.hid (RdP.step Hc.out hb8)
  clear Hc
  have Hc := Hc8
  clear Hc8
  have Hd8 := Lib.hid (RdP.step Hd.out hb8)
  clear Hd
  have Hd := Hd8
  clear Hd8
  clear hb8
  clear hc_
  go_wp2_with fail
  have hc := meet_rd (compL a b) c Ad A'' ((compL a b).length) n'' cd k'' _ Hd.out Hc.out
  rw [Hh2.out] at hc
  refine (hc).mono ?_
  rintro e w9 ⟨Ap, cp, Aq, cq, rfl, hrp, hrq, hb9⟩
  have hbw9 := hbw8.trans (hb9.mono hbw8.size)
  have Ha9 := Lib.hid (RdP.step Ha.out hb9)
  clear Ha
  have Ha := Ha9
  clear Ha9
  have Hb9 := Lib.hid (RdP.step Hb.out hb9)
  clear Hb
  have Hb := Hb9
  clear Hb9
  have Hc9 := Lib.hid (RdP.step Hc.out hb9)
  clear Hc
  have Hc := Hc9
  clear Hc9
  have Hd9 := Lib.hid (RdP.step Hd.out hb9)
  clear Hd
  have Hd := Hd9
  clear Hd9
  clear hb9
  clear hc
  have Hp := Lib.hid hrp
  clear hrp
  have Hq := Lib.hid hrq
  clear hrq
  go_wp2_with fail
  have hc := meet_rd a c A A'' n n'' k k'' _ Ha.out Hc.out
  refine (hc).mono ?_
  rintro e w10 ⟨Aa1, ca1, Ac1x, cc1x, rfl, hra1, hrc1x, hb10⟩
  have hbw10 := hbw9.trans (hb10.mono hbw9.size)
  have Ha10 := Lib.hid (RdP.step Ha.out hb10)
  clear Ha
  have Ha := Ha10
  clear Ha10
  have Hb10 := Lib.hid (RdP.step Hb.out hb10)
  clear Hb
  have Hb := Hb10
  clear Hb10
  have Hc10 := Lib.hid (RdP.step Hc.out hb10)
  clear Hc
  have Hc := Hc10
  clear Hc10
  have Hd10 := Lib.hid (RdP.step Hd.out hb10)
  clear Hd
  have Hd := Hd10
  clear Hd10
  have Hp10 := Lib.hid (RdP.step Hp.out hb10)
  clear Hp
  have Hp := Hp10
  clear Hp10
  have Hq10 := Lib.hid (RdP.step Hq.out hb10)
  clear Hq
  have Hq := Hq10
  clear Hq10
  clear hb10
  clear hc
  have Ha1 := Lib.hid hra1
  clear hra1
  have Hc1x := Lib.hid hrc1x
  clear hrc1x
  go_wp2_with fail
  go_ret
  exact ⟨rfl, hbw10⟩
theorem meetJoins_e6 (a b c : List Pt) (A A' A'' : Option Addr) (n n' n'' k k' k'' : Nat) (w : World) (ha : RdP w w.heap.size A n k a) (hb : RdP w w.heap.size A' n' k' b) (hc : RdP w w.heap.size A'' n'' k'' c) (h1 : compE a b = 0) (hb1 : hasCut b = false) (hc1 : hasCut c = false) (h2 : meetE (compL a b) c = 0) (h3 : meetE a c = 0) (h4 : meetE b (meetD a c) ≠ 0) :
    Calls Try.prog 11 #[.slice A n k, .slice A' n' k', .slice A'' n'' k''] w fun e w' => e = .returned (.bool true) ∧ Below w.heap.size w w' := by
  have hbw0 : Below w.heap.size w w := Below.refl _ _
  have Ha := Lib.hid ha
  clear ha
  have Hb := Lib.hid hb
  clear hb
  have Hc := Lib.hid hc
  clear hc
  have hne : (meetE b (meetD a c) != 0) = true := by simpa using h4
  have Hh1 := Lib.hid h1
  clear h1
  have Hh2 := Lib.hid h2
  clear h2
  have Hh3 := Lib.hid h3
  clear h3
  have Hh4 := Lib.hid h4
  clear h4
  have Hhb1 := Lib.hid hb1
  clear hb1
  have Hhc1 := Lib.hid hc1
  clear hc1
  go_enter Try.func11, Try.ntmps11
  go_wp2_with fail
  have hc := put_any ⟨#[97]⟩ (by decide) w
  refine (hc).mono ?_
  rintro e w1 ⟨Ap, rfl, hrp, hb1⟩
  have hbw1 := hbw0.trans (hb1.mono hbw0.size)
  have Ha1 := Lib.hid (RdP.step Ha.out hb1)
  clear Ha
  have Ha := Ha1
  clear Ha1
  have Hb1 := Lib.hid (RdP.step Hb.out hb1)
  clear Hb
  have Hb := Hb1
  clear Hb1
  have Hc1 := Lib.hid (RdP.step Hc.out hb1)
  clear Hc
  have Hc := Hc1
  clear Hc1
  clear hb1
  clear hc
  have Hp := Lib.hid hrp
  clear hrp
  go_wp2_with fail
  have hc := all_any 0 w1
  refine (hc).mono ?_
  rintro e w2 ⟨Aq, cq, rfl, hrq, hb2⟩
  have hbw2 := hbw1.trans (hb2.mono hbw1.size)
  have Ha2 := Lib.hid (RdP.step Ha.out hb2)
  clear Ha
  have Ha := Ha2
  clear Ha2
  have Hb2 := Lib.hid (RdP.step Hb.out hb2)
  clear Hb
  have Hb := Hb2
  clear Hb2
  have Hc2 := Lib.hid (RdP.step Hc.out hb2)
  clear Hc
  have Hc := Hc2
  clear Hc2
  have Hp2 := Lib.hid (RdP.step Hp.out hb2)
  clear Hp
  have Hp := Hp2
  clear Hp2
  clear hb2
  clear hc
  have Hq := Lib.hid hrq
  clear hrq
  go_wp2_with fail
  have hc := meet_rd [(2, 0, ⟨#[97]⟩)] (allL 0) Ap Aq 1 ((allL 0).length) 1 cq _ Hp.out Hq.out
  rw [show meetE [(2, 0, ⟨#[97]⟩)] (allL 0) = 0 from by decide] at hc
  rw [show meetC [(2, 0, ⟨#[97]⟩)] (allL 0) = [(2, 0, ⟨#[97]⟩)] from by decide] at hc
  refine (hc).mono ?_
  rintro e w3 ⟨Ac0, cc0, Ad0, cd0, rfl, hrc0, hrd0, hb3⟩
  have hbw3 := hbw2.trans (hb3.mono hbw2.size)
  have Ha3 := Lib.hid (RdP.step Ha.out hb3)
  clear Ha
  have Ha := Ha3
  clear Ha3
  have Hb3 := Lib.hid (RdP.step Hb.out hb3)
  clear Hb
  have Hb := Hb3
  clear Hb3
  have Hc3 := Lib.hid (RdP.step Hc.out hb3)
  clear Hc
  have Hc := Hc3
  clear Hc3
  have Hp3 := Lib.hid (RdP.step Hp.out hb3)
  clear Hp
  have Hp := Hp3
  clear Hp3
  have Hq3 := Lib.hid (RdP.step Hq.out hb3)
  clear Hq
  have Hq := Hq3
  clear Hq3
  clear hb3
  clear hc
  have Hc0 := Lib.hid hrc0
  clear hrc0
  have Hd0 := Lib.hid hrd0
  clear hrd0
  go_wp2_with fail
  clear Hp
  clear Hq
  clear Hd0
  have hc := put_any ⟨#[97]⟩ (by decide) w3
  refine (hc).mono ?_
  rintro e w4 ⟨Ap2, rfl, hrp2, hb4⟩
  have hbw4 := hbw3.trans (hb4.mono hbw3.size)
  have Ha4 := Lib.hid (RdP.step Ha.out hb4)
  clear Ha
  have Ha := Ha4
  clear Ha4
  have Hb4 := Lib.hid (RdP.step Hb.out hb4)
  clear Hb
  have Hb := Hb4
  clear Hb4
  have Hc4 := Lib.hid (RdP.step Hc.out hb4)
  clear Hc
  have Hc := Hc4
  clear Hc4
  have Hc04 := Lib.hid (RdP.step Hc0.out hb4)
  clear Hc0
  have Hc0 := Hc04
  clear Hc04
  clear hb4
  clear hc
  have Hp2 := Lib.hid hrp2
  clear hrp2
  go_wp2_with fail
  refine (same_true [(2, 0, ⟨#[97]⟩)] [(2, 0, ⟨#[97]⟩)] Ac0 Ap2 _ _ cc0 1 _ _ _ Hc0.out Hp2.out rfl).mono ?_
  rintro e w5 ⟨rfl, hb5⟩
  have hbw5 := hbw4.trans (hb5.mono hbw4.size)
  have Ha5 := Lib.hid (RdP.step Ha.out hb5)
  clear Ha
  have Ha := Ha5
  clear Ha5
  have Hb5 := Lib.hid (RdP.step Hb.out hb5)
  clear Hb
  have Hb := Hb5
  clear Hb5
  have Hc5 := Lib.hid (RdP.step Hc.out hb5)
  clear Hc
  have Hc := Hc5
  clear Hc5
  have Hc05 := Lib.hid (RdP.step Hc0.out hb5)
  clear Hc0
  have Hc0 := Hc05
  clear Hc05
  have Hp25 := Lib.hid (RdP.step Hp2.out hb5)
  clear Hp2
  have Hp2 := Hp25
  clear Hp25
  clear hb5
  go_wp2_with fail
  clear Hc0
  clear Hp2
  have hc := comp_rd a b A A' n n' k k' _ Ha.out Hb.out
  rw [Hh1.out] at hc
  refine (hc).mono ?_
  rintro e w6 ⟨Ad, cd, rfl, hrd, hb6⟩
  have hbw6 := hbw5.trans (hb6.mono hbw5.size)
  have Ha6 := Lib.hid (RdP.step Ha.out hb6)
  clear Ha
  have Ha := Ha6
  clear Ha6
  have Hb6 := Lib.hid (RdP.step Hb.out hb6)
  clear Hb
  have Hb := Hb6
  clear Hb6
  have Hc6 := Lib.hid (RdP.step Hc.out hb6)
  clear Hc
  have Hc := Hc6
  clear Hc6
  clear hb6
  clear hc
  have Hd := Lib.hid hrd
  clear hrd
  go_wp2_with fail
  have hc_ := cuts_any b A' n' k' _ _ Hb.out (Nat.le_refl _)
  rw [Hhb1.out] at hc_
  refine (hc_).mono ?_
  rintro e w7 ⟨rfl, hb7⟩
  have hbw7 := hbw6.trans (hb7.mono hbw6.size)
  have Ha7 := Lib.hid (RdP.step Ha.out hb7)
  clear Ha
  have Ha := Ha7
  clear Ha7
  have Hb7 := Lib.hid (RdP.step Hb.out hb7)
  clear Hb
  have Hb := Hb7
  clear Hb7
  have Hc7 := Lib.hid (RdP.step Hc.out hb7)
  clear Hc
  have Hc := Hc7
  clear Hc7
  have Hd7 := Lib.hid (RdP.step Hd.out hb7)
  clear Hd
  have Hd := Hd7
  clear Hd7
  clear hb7
  clear hc_
  go_wp2_with fail
  have hc_ := cuts_any c A'' n'' k'' _ _ Hc.out (Nat.le_refl _)
  rw [Hhc1.out] at hc_
  refine (hc_).mono ?_
  rintro e w8 ⟨rfl, hb8⟩
  have hbw8 := hbw7.trans (hb8.mono hbw7.size)
  have Ha8 := Lib.hid (RdP.step Ha.out hb8)
  clear Ha
  have Ha := Ha8
  clear Ha8
  have Hb8 := Lib.hid (RdP.step Hb.out hb8)
  clear Hb
  have Hb := Hb8
  clear Hb8
  have Hc8 := Lib.hid (RdP.step Hc.out hb8)
  clear Hc
  have Hc := Hc8
  clear Hc8
  have Hd8 := Lib.hid (RdP.step Hd.out hb8)
  clear Hd
  have Hd := Hd8
  clear Hd8
  clear hb8
  clear hc_
  go_wp2_with fail
  have hc := meet_rd (compL a b) c Ad A'' ((compL a b).length) n'' cd k'' _ Hd.out Hc.out
  rw [Hh2.out] at hc
  refine (hc).mono ?_
  rintro e w9 ⟨Ap, cp, Aq, cq, rfl, hrp, hrq, hb9⟩
  have hbw9 := hbw8.trans (hb9.mono hbw8.size)
  have Ha9 := Lib.hid (RdP.step Ha.out hb9)
  clear Ha
  have Ha := Ha9
  clear Ha9
  have Hb9 := Lib.hid (RdP.step Hb.out hb9)
  clear Hb
  have Hb := Hb9
  clear Hb9
  have Hc9 := Lib.hid (RdP.step Hc.out hb9)
  clear Hc
  have Hc := Hc9
  clear Hc9
  have Hd9 := Lib.hid (RdP.step Hd.out hb9)
  clear Hd
  have Hd := Hd9
  clear Hd9
  clear hb9
  clear hc
  have Hp := Lib.hid hrp
  clear hrp
  have Hq := Lib.hid hrq
  clear hrq
  go_wp2_with fail
  have hc := meet_rd a c A A'' n n'' k k'' _ Ha.out Hc.out
  rw [Hh3.out] at hc
  refine (hc).mono ?_
  rintro e w10 ⟨Aa1, ca1, Ac1x, cc1x, rfl, hra1, hrc1x, hb10⟩
  have hbw10 := hbw9.trans (hb10.mono hbw9.size)
  have Ha10 := Lib.hid (RdP.step Ha.out hb10)
  clear Ha
  have Ha := Ha10
  clear Ha10
  have Hb10 := Lib.hid (RdP.step Hb.out hb10)
  clear Hb
  have Hb := Hb10
  clear Hb10
  have Hc10 := Lib.hid (RdP.step Hc.out hb10)
  clear Hc
  have Hc := Hc10
  clear Hc10
  have Hd10 := Lib.hid (RdP.step Hd.out hb10)
  clear Hd
  have Hd := Hd10
  clear Hd10
  have Hp10 := Lib.hid (RdP.step Hp.out hb10)
  clear Hp
  have Hp := Hp10
  clear Hp10
  have Hq10 := Lib.hid (RdP.step Hq.out hb10)
  clear Hq
  have Hq := Hq10
  clear Hq10
  clear hb10
  clear hc
  have Ha1 := Lib.hid hra1
  clear hra1
  have Hc1x := Lib.hid hrc1x
  clear hrc1x
  go_wp2_with fail
  have hc := meet_rd b (meetD a c) A' Ac1x n' ((meetD a c).length) k' cc1x _ Hb.out Hc1x.out
  refine (hc).mono ?_
  rintro e w11 ⟨Ab1, cb1, Ac2x, cc2x, rfl, hrb1, hrc2x, hb11⟩
  have hbw11 := hbw10.trans (hb11.mono hbw10.size)
  have Ha11 := Lib.hid (RdP.step Ha.out hb11)
  clear Ha
  have Ha := Ha11
  clear Ha11
  have Hb11 := Lib.hid (RdP.step Hb.out hb11)
  clear Hb
  have Hb := Hb11
  clear Hb11
  have Hc11 := Lib.hid (RdP.step Hc.out hb11)
  clear Hc
  have Hc := Hc11
  clear Hc11
  have Hd11 := Lib.hid (RdP.step Hd.out hb11)
  clear Hd
  have Hd := Hd11
  clear Hd11
  have Hp11 := Lib.hid (RdP.step Hp.out hb11)
  clear Hp
  have Hp := Hp11
  clear Hp11
  have Hq11 := Lib.hid (RdP.step Hq.out hb11)
  clear Hq
  have Hq := Hq11
  clear Hq11
  have Ha111 := Lib.hid (RdP.step Ha1.out hb11)
  clear Ha1
  have Ha1 := Ha111
  clear Ha111
  have Hc1x11 := Lib.hid (RdP.step Hc1x.out hb11)
  clear Hc1x
  have Hc1x := Hc1x11
  clear Hc1x11
  clear hb11
  clear hc
  have Hb1 := Lib.hid hrb1
  clear hrb1
  have Hc2x := Lib.hid hrc2x
  clear hrc2x
  go_wp2_with fail
  go_ret
  exact ⟨rfl, hbw11⟩
theorem meetJoins_ok (a b c : List Pt) (A A' A'' : Option Addr) (n n' n'' k k' k'' : Nat) (w : World) (ha : RdP w w.heap.size A n k a) (hb : RdP w w.heap.size A' n' k' b) (hc : RdP w w.heap.size A'' n'' k'' c) (h1 : compE a b = 0) (hb1 : hasCut b = false) (hc1 : hasCut c = false) (h2 : meetE (compL a b) c = 0) (h3 : meetE a c = 0) (h4 : meetE b (meetD a c) = 0) :
    Calls Try.prog 11 #[.slice A n k, .slice A' n' k', .slice A'' n'' k''] w fun e w' => e = .returned (.bool true) ∧ Below w.heap.size w w' := by
  have hbw0 : Below w.heap.size w w := Below.refl _ _
  have Ha := Lib.hid ha
  clear ha
  have Hb := Lib.hid hb
  clear hb
  have Hc := Lib.hid hc
  clear hc
  have Hh1 := Lib.hid h1
  clear h1
  have Hh2 := Lib.hid h2
  clear h2
  have Hh3 := Lib.hid h3
  clear h3
  have Hh4 := Lib.hid h4
  clear h4
  have Hhb1 := Lib.hid hb1
  clear hb1
  have Hhc1 := Lib.hid hc1
  clear hc1
  go_enter Try.func11, Try.ntmps11
  go_wp2_with fail
  have hc := put_any ⟨#[97]⟩ (by decide) w
  refine (hc).mono ?_
  rintro e w1 ⟨Ap, rfl, hrp, hb1⟩
  have hbw1 := hbw0.trans (hb1.mono hbw0.size)
  have Ha1 := Lib.hid (RdP.step Ha.out hb1)
  clear Ha
  have Ha := Ha1
  clear Ha1
  have Hb1 := Lib.hid (RdP.step Hb.out hb1)
  clear Hb
  have Hb := Hb1
  clear Hb1
  have Hc1 := Lib.hid (RdP.step Hc.out hb1)
  clear Hc
  have Hc := Hc1
  clear Hc1
  clear hb1
  clear hc
  have Hp := Lib.hid hrp
  clear hrp
  go_wp2_with fail
  have hc := all_any 0 w1
  refine (hc).mono ?_
  rintro e w2 ⟨Aq, cq, rfl, hrq, hb2⟩
  have hbw2 := hbw1.trans (hb2.mono hbw1.size)
  have Ha2 := Lib.hid (RdP.step Ha.out hb2)
  clear Ha
  have Ha := Ha2
  clear Ha2
  have Hb2 := Lib.hid (RdP.step Hb.out hb2)
  clear Hb
  have Hb := Hb2
  clear Hb2
  have Hc2 := Lib.hid (RdP.step Hc.out hb2)
  clear Hc
  have Hc := Hc2
  clear Hc2
  have Hp2 := Lib.hid (RdP.step Hp.out hb2)
  clear Hp
  have Hp := Hp2
  clear Hp2
  clear hb2
  clear hc
  have Hq := Lib.hid hrq
  clear hrq
  go_wp2_with fail
  have hc := meet_rd [(2, 0, ⟨#[97]⟩)] (allL 0) Ap Aq 1 ((allL 0).length) 1 cq _ Hp.out Hq.out
  rw [show meetE [(2, 0, ⟨#[97]⟩)] (allL 0) = 0 from by decide] at hc
  rw [show meetC [(2, 0, ⟨#[97]⟩)] (allL 0) = [(2, 0, ⟨#[97]⟩)] from by decide] at hc
  refine (hc).mono ?_
  rintro e w3 ⟨Ac0, cc0, Ad0, cd0, rfl, hrc0, hrd0, hb3⟩
  have hbw3 := hbw2.trans (hb3.mono hbw2.size)
  have Ha3 := Lib.hid (RdP.step Ha.out hb3)
  clear Ha
  have Ha := Ha3
  clear Ha3
  have Hb3 := Lib.hid (RdP.step Hb.out hb3)
  clear Hb
  have Hb := Hb3
  clear Hb3
  have Hc3 := Lib.hid (RdP.step Hc.out hb3)
  clear Hc
  have Hc := Hc3
  clear Hc3
  have Hp3 := Lib.hid (RdP.step Hp.out hb3)
  clear Hp
  have Hp := Hp3
  clear Hp3
  have Hq3 := Lib.hid (RdP.step Hq.out hb3)
  clear Hq
  have Hq := Hq3
  clear Hq3
  clear hb3
  clear hc
  have Hc0 := Lib.hid hrc0
  clear hrc0
  have Hd0 := Lib.hid hrd0
  clear hrd0
  go_wp2_with fail
  clear Hp
  clear Hq
  clear Hd0
  have hc := put_any ⟨#[97]⟩ (by decide) w3
  refine (hc).mono ?_
  rintro e w4 ⟨Ap2, rfl, hrp2, hb4⟩
  have hbw4 := hbw3.trans (hb4.mono hbw3.size)
  have Ha4 := Lib.hid (RdP.step Ha.out hb4)
  clear Ha
  have Ha := Ha4
  clear Ha4
  have Hb4 := Lib.hid (RdP.step Hb.out hb4)
  clear Hb
  have Hb := Hb4
  clear Hb4
  have Hc4 := Lib.hid (RdP.step Hc.out hb4)
  clear Hc
  have Hc := Hc4
  clear Hc4
  have Hc04 := Lib.hid (RdP.step Hc0.out hb4)
  clear Hc0
  have Hc0 := Hc04
  clear Hc04
  clear hb4
  clear hc
  have Hp2 := Lib.hid hrp2
  clear hrp2
  go_wp2_with fail
  refine (same_true [(2, 0, ⟨#[97]⟩)] [(2, 0, ⟨#[97]⟩)] Ac0 Ap2 _ _ cc0 1 _ _ _ Hc0.out Hp2.out rfl).mono ?_
  rintro e w5 ⟨rfl, hb5⟩
  have hbw5 := hbw4.trans (hb5.mono hbw4.size)
  have Ha5 := Lib.hid (RdP.step Ha.out hb5)
  clear Ha
  have Ha := Ha5
  clear Ha5
  have Hb5 := Lib.hid (RdP.step Hb.out hb5)
  clear Hb
  have Hb := Hb5
  clear Hb5
  have Hc5 := Lib.hid (RdP.step Hc.out hb5)
  clear Hc
  have Hc := Hc5
  clear Hc5
  have Hc05 := Lib.hid (RdP.step Hc0.out hb5)
  clear Hc0
  have Hc0 := Hc05
  clear Hc05
  have Hp25 := Lib.hid (RdP.step Hp2.out hb5)
  clear Hp2
  have Hp2 := Hp25
  clear Hp25
  clear hb5
  go_wp2_with fail
  clear Hc0
  clear Hp2
  have hc := comp_rd a b A A' n n' k k' _ Ha.out Hb.out
  rw [Hh1.out] at hc
  refine (hc).mono ?_
  rintro e w6 ⟨Ad, cd, rfl, hrd, hb6⟩
  have hbw6 := hbw5.trans (hb6.mono hbw5.size)
  have Ha6 := Lib.hid (RdP.step Ha.out hb6)
  clear Ha
  have Ha := Ha6
  clear Ha6
  have Hb6 := Lib.hid (RdP.step Hb.out hb6)
  clear Hb
  have Hb := Hb6
  clear Hb6
  have Hc6 := Lib.hid (RdP.step Hc.out hb6)
  clear Hc
  have Hc := Hc6
  clear Hc6
  clear hb6
  clear hc
  have Hd := Lib.hid hrd
  clear hrd
  go_wp2_with fail
  have hc_ := cuts_any b A' n' k' _ _ Hb.out (Nat.le_refl _)
  rw [Hhb1.out] at hc_
  refine (hc_).mono ?_
  rintro e w7 ⟨rfl, hb7⟩
  have hbw7 := hbw6.trans (hb7.mono hbw6.size)
  have Ha7 := Lib.hid (RdP.step Ha.out hb7)
  clear Ha
  have Ha := Ha7
  clear Ha7
  have Hb7 := Lib.hid (RdP.step Hb.out hb7)
  clear Hb
  have Hb := Hb7
  clear Hb7
  have Hc7 := Lib.hid (RdP.step Hc.out hb7)
  clear Hc
  have Hc := Hc7
  clear Hc7
  have Hd7 := Lib.hid (RdP.step Hd.out hb7)
  clear Hd
  have Hd := Hd7
  clear Hd7
  clear hb7
  clear hc_
  go_wp2_with fail
  have hc_ := cuts_any c A'' n'' k'' _ _ Hc.out (Nat.le_refl _)
  rw [Hhc1.out] at hc_
  refine (hc_).mono ?_
  rintro e w8 ⟨rfl, hb8⟩
  have hbw8 := hbw7.trans (hb8.mono hbw7.size)
  have Ha8 := Lib.hid (RdP.step Ha.out hb8)
  clear Ha
  have Ha := Ha8
  clear Ha8
  have Hb8 := Lib.hid (RdP.step Hb.out hb8)
  clear Hb
  have Hb := Hb8
  clear Hb8
  have Hc8 := Lib.hid (RdP.step Hc.out hb8)
  clear Hc
  have Hc := Hc8
  clear Hc8
  have Hd8 := Lib.hid (RdP.step Hd.out hb8)
  clear Hd
  have Hd := Hd8
  clear Hd8
  clear hb8
  clear hc_
  go_wp2_with fail
  have hc := meet_rd (compL a b) c Ad A'' ((compL a b).length) n'' cd k'' _ Hd.out Hc.out
  rw [Hh2.out] at hc
  refine (hc).mono ?_
  rintro e w9 ⟨Ap, cp, Aq, cq, rfl, hrp, hrq, hb9⟩
  have hbw9 := hbw8.trans (hb9.mono hbw8.size)
  have Ha9 := Lib.hid (RdP.step Ha.out hb9)
  clear Ha
  have Ha := Ha9
  clear Ha9
  have Hb9 := Lib.hid (RdP.step Hb.out hb9)
  clear Hb
  have Hb := Hb9
  clear Hb9
  have Hc9 := Lib.hid (RdP.step Hc.out hb9)
  clear Hc
  have Hc := Hc9
  clear Hc9
  have Hd9 := Lib.hid (RdP.step Hd.out hb9)
  clear Hd
  have Hd := Hd9
  clear Hd9
  clear hb9
  clear hc
  have Hp := Lib.hid hrp
  clear hrp
  have Hq := Lib.hid hrq
  clear hrq
  go_wp2_with fail
  have hc := meet_rd a c A A'' n n'' k k'' _ Ha.out Hc.out
  rw [Hh3.out] at hc
  refine (hc).mono ?_
  rintro e w10 ⟨Aa1, ca1, Ac1x, cc1x, rfl, hra1, hrc1x, hb10⟩
  have hbw10 := hbw9.trans (hb10.mono hbw9.size)
  have Ha10 := Lib.hid (RdP.step Ha.out hb10)
  clear Ha
  have Ha := Ha10
  clear Ha10
  have Hb10 := Lib.hid (RdP.step Hb.out hb10)
  clear Hb
  have Hb := Hb10
  clear Hb10
  have Hc10 := Lib.hid (RdP.step Hc.out hb10)
  clear Hc
  have Hc := Hc10
  clear Hc10
  have Hd10 := Lib.hid (RdP.step Hd.out hb10)
  clear Hd
  have Hd := Hd10
  clear Hd10
  have Hp10 := Lib.hid (RdP.step Hp.out hb10)
  clear Hp
  have Hp := Hp10
  clear Hp10
  have Hq10 := Lib.hid (RdP.step Hq.out hb10)
  clear Hq
  have Hq := Hq10
  clear Hq10
  clear hb10
  clear hc
  have Ha1 := Lib.hid hra1
  clear hra1
  have Hc1x := Lib.hid hrc1x
  clear hrc1x
  go_wp2_with fail
  have hc := meet_rd b (meetD a c) A' Ac1x n' ((meetD a c).length) k' cc1x _ Hb.out Hc1x.out
  rw [Hh4.out] at hc
  refine (hc).mono ?_
  rintro e w11 ⟨Ab1, cb1, Ac2x, cc2x, rfl, hrb1, hrc2x, hb11⟩
  have hbw11 := hbw10.trans (hb11.mono hbw10.size)
  have Ha11 := Lib.hid (RdP.step Ha.out hb11)
  clear Ha
  have Ha := Ha11
  clear Ha11
  have Hb11 := Lib.hid (RdP.step Hb.out hb11)
  clear Hb
  have Hb := Hb11
  clear Hb11
  have Hc11 := Lib.hid (RdP.step Hc.out hb11)
  clear Hc
  have Hc := Hc11
  clear Hc11
  have Hd11 := Lib.hid (RdP.step Hd.out hb11)
  clear Hd
  have Hd := Hd11
  clear Hd11
  have Hp11 := Lib.hid (RdP.step Hp.out hb11)
  clear Hp
  have Hp := Hp11
  clear Hp11
  have Hq11 := Lib.hid (RdP.step Hq.out hb11)
  clear Hq
  have Hq := Hq11
  clear Hq11
  have Ha111 := Lib.hid (RdP.step Ha1.out hb11)
  clear Ha1
  have Ha1 := Ha111
  clear Ha111
  have Hc1x11 := Lib.hid (RdP.step Hc1x.out hb11)
  clear Hc1x
  have Hc1x := Hc1x11
  clear Hc1x11
  clear hb11
  clear hc
  have Hb1 := Lib.hid hrb1
  clear hrb1
  have Hc2x := Lib.hid hrc2x
  clear hrc2x
  go_wp2_with fail
  have HJ := Lib.hid (meet_joins Hh1.out Hhb1.out Hhc1.out Hh2.out Hh3.out Hh4.out)
  have hc := comp_rd (meetC a c) (meetC b (meetD a c)) Aa1 Ab1 ((meetC a c).length) ((meetC b (meetD a c)).length) ca1 cb1 _ Ha1.out Hb1.out
  rw [HJ.out.1] at hc
  refine (hc).mono ?_
  rintro e w12 ⟨Ax, cx, rfl, hrx, hb12⟩
  have hbw12 := hbw11.trans (hb12.mono hbw11.size)
  have Ha12 := Lib.hid (RdP.step Ha.out hb12)
  clear Ha
  have Ha := Ha12
  clear Ha12
  have Hb12 := Lib.hid (RdP.step Hb.out hb12)
  clear Hb
  have Hb := Hb12
  clear Hb12
  have Hc12 := Lib.hid (RdP.step Hc.out hb12)
  clear Hc
  have Hc := Hc12
  clear Hc12
  have Hd12 := Lib.hid (RdP.step Hd.out hb12)
  clear Hd
  have Hd := Hd12
  clear Hd12
  have Hp12 := Lib.hid (RdP.step Hp.out hb12)
  clear Hp
  have Hp := Hp12
  clear Hp12
  have Hq12 := Lib.hid (RdP.step Hq.out hb12)
  clear Hq
  have Hq := Hq12
  clear Hq12
  have Ha112 := Lib.hid (RdP.step Ha1.out hb12)
  clear Ha1
  have Ha1 := Ha112
  clear Ha112
  have Hc1x12 := Lib.hid (RdP.step Hc1x.out hb12)
  clear Hc1x
  have Hc1x := Hc1x12
  clear Hc1x12
  have Hb112 := Lib.hid (RdP.step Hb1.out hb12)
  clear Hb1
  have Hb1 := Hb112
  clear Hb112
  have Hc2x12 := Lib.hid (RdP.step Hc2x.out hb12)
  clear Hc2x
  have Hc2x := Hc2x12
  clear Hc2x12
  clear hb12
  clear hc
  have Hx := Lib.hid hrx
  clear hrx
  go_wp2_with fail
  refine (same_true (meetC (compL a b) c) (compL (meetC a c) (meetC b (meetD a c))) Ap Ax _ _ cp cx _ _ _ Hp.out Hx.out HJ.out.2.1).mono ?_
  rintro e w13 ⟨rfl, hb13⟩
  have hbw13 := hbw12.trans (hb13.mono hbw12.size)
  have Ha13 := Lib.hid (RdP.step Ha.out hb13)
  clear Ha
  have Ha := Ha13
  clear Ha13
  have Hb13 := Lib.hid (RdP.step Hb.out hb13)
  clear Hb
  have Hb := Hb13
  clear Hb13
  have Hc13 := Lib.hid (RdP.step Hc.out hb13)
  clear Hc
  have Hc := Hc13
  clear Hc13
  have Hd13 := Lib.hid (RdP.step Hd.out hb13)
  clear Hd
  have Hd := Hd13
  clear Hd13
  have Hp13 := Lib.hid (RdP.step Hp.out hb13)
  clear Hp
  have Hp := Hp13
  clear Hp13
  have Hq13 := Lib.hid (RdP.step Hq.out hb13)
  clear Hq
  have Hq := Hq13
  clear Hq13
  have Ha113 := Lib.hid (RdP.step Ha1.out hb13)
  clear Ha1
  have Ha1 := Ha113
  clear Ha113
  have Hc1x13 := Lib.hid (RdP.step Hc1x.out hb13)
  clear Hc1x
  have Hc1x := Hc1x13
  clear Hc1x13
  have Hb113 := Lib.hid (RdP.step Hb1.out hb13)
  clear Hb1
  have Hb1 := Hb113
  clear Hb113
  have Hc2x13 := Lib.hid (RdP.step Hc2x.out hb13)
  clear Hc2x
  have Hc2x := Hc2x13
  clear Hc2x13
  have Hx13 := Lib.hid (RdP.step Hx.out hb13)
  clear Hx
  have Hx := Hx13
  clear Hx13
  clear hb13
  go_wp2_with fail
  refine (same_true (meetD (compL a b) c) (meetD b (meetD a c)) Aq Ac2x _ _ cq cc2x _ _ _ Hq.out Hc2x.out HJ.out.2.2).mono ?_
  rintro e w14 ⟨rfl, hb14⟩
  have hbw14 := hbw13.trans (hb14.mono hbw13.size)
  have Ha14 := Lib.hid (RdP.step Ha.out hb14)
  clear Ha
  have Ha := Ha14
  clear Ha14
  have Hb14 := Lib.hid (RdP.step Hb.out hb14)
  clear Hb
  have Hb := Hb14
  clear Hb14
  have Hc14 := Lib.hid (RdP.step Hc.out hb14)
  clear Hc
  have Hc := Hc14
  clear Hc14
  have Hd14 := Lib.hid (RdP.step Hd.out hb14)
  clear Hd
  have Hd := Hd14
  clear Hd14
  have Hp14 := Lib.hid (RdP.step Hp.out hb14)
  clear Hp
  have Hp := Hp14
  clear Hp14
  have Hq14 := Lib.hid (RdP.step Hq.out hb14)
  clear Hq
  have Hq := Hq14
  clear Hq14
  have Ha114 := Lib.hid (RdP.step Ha1.out hb14)
  clear Ha1
  have Ha1 := Ha114
  clear Ha114
  have Hc1x14 := Lib.hid (RdP.step Hc1x.out hb14)
  clear Hc1x
  have Hc1x := Hc1x14
  clear Hc1x14
  have Hb114 := Lib.hid (RdP.step Hb1.out hb14)
  clear Hb1
  have Hb1 := Hb114
  clear Hb114
  have Hc2x14 := Lib.hid (RdP.step Hc2x.out hb14)
  clear Hc2x
  have Hc2x := Hc2x14
  clear Hc2x14
  have Hx14 := Lib.hid (RdP.step Hx.out hb14)
  clear Hx
  have Hx := Hx14
  clear Hx14
  clear hb14
  go_wp2_with fail
  go_ret
  exact ⟨rfl, hbw14⟩
theorem walk_MeetJoins (v : Value) (a : List Pt) (v' : Value) (b : List Pt) (v'' : Value) (c : List Pt) (w : World) (ha : IsParts w v a) (hb : IsParts w v' b) (hc : IsParts w v'' c) :
    Calls Try.prog 11 #[v, v', v''] w fun e w' => e = .returned (.bool true) ∧ Below w.heap.size w w' := by
  obtain ⟨A, n, k, rfl, ha⟩ := ha
  obtain ⟨A', n', k', rfl, hb⟩ := hb
  obtain ⟨A'', n'', k'', rfl, hc⟩ := hc
  by_cases h1 : compE a b = 0
  · rcases Bool.eq_false_or_eq_true (hasCut b) with hb1 | hb1
    · exact meetJoins_e2 a b c A A' A'' n n' n'' k k' k'' w ha hb hc h1 hb1
    · rcases Bool.eq_false_or_eq_true (hasCut c) with hc1 | hc1
      · exact meetJoins_e3 a b c A A' A'' n n' n'' k k' k'' w ha hb hc h1 hb1 hc1
      · by_cases h2 : meetE (compL a b) c = 0
        · by_cases h3 : meetE a c = 0
          · by_cases h4 : meetE b (meetD a c) = 0
            · exact meetJoins_ok a b c A A' A'' n n' n'' k k' k'' w ha hb hc h1 hb1 hc1 h2 h3 h4
            · exact meetJoins_e6 a b c A A' A'' n n' n'' k k' k'' w ha hb hc h1 hb1 hc1 h2 h3 h4
          · exact meetJoins_e5 a b c A A' A'' n n' n'' k k' k'' w ha hb hc h1 hb1 hc1 h2 h3
        · exact meetJoins_e4 a b c A A' A'' n n' n'' k k' k'' w ha hb hc h1 hb1 hc1 h2
  · exact meetJoins_e1 a b c A A' A'' n n' n'' k k' k'' w ha hb hc h1
end Go.Proofs.Ytgocddkoancdiaa
