/- MeetSizes: the walk. Both together keep no more, and put just what both put. -/
import Derived.Test.YtgocddkoancdiaaMeetPuts
import Derived.Test.YtgocddkoancdiaaSame
import Derived.Test.YtgocddkoancdiaaOpenParts
namespace Go.Proofs.Ytgocddkoancdiaa
open Go.ChangeShapes Go.WideShapes Go.RowKit
set_option linter.unusedVariables false
set_option linter.unusedSimpArgs false
set_option maxRecDepth 100000
set_option maxHeartbeats 4000000


theorem meetSizes_err (a b : List Pt) (A A' : Option Addr) (n n' k k' : Nat) (w : World) (ha : RdP w w.heap.size A n k a) (hb : RdP w w.heap.size A' n' k' b) (h1 : meetE a b ≠ 0) :
    Calls Try.prog 3 #[.slice A n k, .slice A' n' k'] w fun e w' => e = .returned (.bool true) ∧ Below w.heap.size w w' := by
  have hbw0 : Below w.heap.size w w := Below.refl _ _
  have Ha := Lib.hid ha
  clear ha
  have Hb := Lib.hid hb
  clear hb
  have hne : (meetE a b != 0) = true := by simpa using h1
  have H1 := Lib.hid h1
  clear h1
  go_enter Try.func3, Try.ntmps3
  go_wp2_with fail
  have hc := put_any ⟨#[97]⟩ (by decide) w
  refine (hc).mono ?_
  rintro e w1 ⟨Ap, rfl, hrp, hb1⟩
  have hbw1 := hbw0.trans (hb1.mono hbw0.size)
  have Ha1 := Lib.hid (RdP.step Ha.out hb1)
  clear Ha
  have Ha := Ha1
  clear Ha1
  have Hb1 := Lib.hid (RdP.step Hb.out hb1)
  clear Hb
  have Hb := Hb1
  clear Hb1
  clear hb1
  clear hc
  have Hp := Lib.hid hrp
  clear hrp
  go_wp2_with fail
  have hc := put_any ⟨#[98]⟩ (by decide) w1
  refine (hc).mono ?_
  rintro e w2 ⟨Aq, rfl, hrq, hb2⟩
  have hbw2 := hbw1.trans (hb2.mono hbw1.size)
  have Ha2 := Lib.hid (RdP.step Ha.out hb2)
  clear Ha
  have Ha := Ha2
  clear Ha2
  have Hb2 := Lib.hid (RdP.step Hb.out hb2)
  clear Hb
  have Hb := Hb2
  clear Hb2
  have Hp2 := Lib.hid (RdP.step Hp.out hb2)
  clear Hp
  have Hp := Hp2
  clear Hp2
  clear hb2
  clear hc
  have Hq := Lib.hid hrq
  clear hrq
  go_wp2_with fail
  have hc := meet_rd [(2, 0, ⟨#[97]⟩)] [(2, 0, ⟨#[98]⟩)] Ap Aq 1 1 1 1 _ Hp.out Hq.out
  rw [show meetE [(2, 0, ⟨#[97]⟩)] [(2, 0, ⟨#[98]⟩)] = 0 from by decide] at hc
  rw [show meetC [(2, 0, ⟨#[97]⟩)] [(2, 0, ⟨#[98]⟩)] = [(2, 0, ⟨#[97]⟩), (1, 1, emp)] from by decide] at hc
  refine (hc).mono ?_
  rintro e w3 ⟨Ac0, cc0, Ad0, cd0, rfl, hrc0, hrd0, hb3⟩
  have hbw3 := hbw2.trans (hb3.mono hbw2.size)
  have Ha3 := Lib.hid (RdP.step Ha.out hb3)
  clear Ha
  have Ha := Ha3
  clear Ha3
  have Hb3 := Lib.hid (RdP.step Hb.out hb3)
  clear Hb
  have Hb := Hb3
  clear Hb3
  have Hp3 := Lib.hid (RdP.step Hp.out hb3)
  clear Hp
  have Hp := Hp3
  clear Hp3
  have Hq3 := Lib.hid (RdP.step Hq.out hb3)
  clear Hq
  have Hq := Hq3
  clear Hq3
  clear hb3
  clear hc
  have Hc0 := Lib.hid hrc0
  clear hrc0
  have Hd0 := Lib.hid hrd0
  clear hrd0
  go_wp2_with fail
  clear Hp
  clear Hq
  clear Hc0
  clear Hd0
  have hc := meet_rd a b A A' n n' k k' _ Ha.out Hb.out
  rw [(meet_err H1.out).1] at hc
  rw [(meet_err H1.out).2] at hc
  refine (hc).mono ?_
  rintro e w4 ⟨Ac, cc, Ad, cd, rfl, hrc, hrd, hb4⟩
  have hbw4 := hbw3.trans (hb4.mono hbw3.size)
  have Ha4 := Lib.hid (RdP.step Ha.out hb4)
  clear Ha
  have Ha := Ha4
  clear Ha4
  have Hb4 := Lib.hid (RdP.step Hb.out hb4)
  clear Hb
  have Hb := Hb4
  clear Hb4
  clear hb4
  clear hc
  have Hc := Lib.hid hrc
  clear hrc
  have Hd := Lib.hid hrd
  clear hrd
  go_wp2_with fail
  go_ret
  exact ⟨rfl, hbw4⟩
theorem meetSizes_ok (a b : List Pt) (A A' : Option Addr) (n n' k k' : Nat) (w : World) (ha : RdP w w.heap.size A n k a) (hb : RdP w w.heap.size A' n' k' b) (h1 : meetE a b = 0) :
    Calls Try.prog 3 #[.slice A n k, .slice A' n' k'] w fun e w' => e = .returned (.bool true) ∧ Below w.heap.size w w' := by
  have hbw0 : Below w.heap.size w w := Below.refl _ _
  have Ha := Lib.hid ha
  clear ha
  have Hb := Lib.hid hb
  clear hb
  have H1 := Lib.hid h1
  clear h1
  go_enter Try.func3, Try.ntmps3
  go_wp2_with fail
  have hc := put_any ⟨#[97]⟩ (by decide) w
  refine (hc).mono ?_
  rintro e w1 ⟨Ap, rfl, hrp, hb1⟩
  have hbw1 := hbw0.trans (hb1.mono hbw0.size)
  have Ha1 := Lib.hid (RdP.step Ha.out hb1)
  clear Ha
  have Ha := Ha1
  clear Ha1
  have Hb1 := Lib.hid (RdP.step Hb.out hb1)
  clear Hb
  have Hb := Hb1
  clear Hb1
  clear hb1
  clear hc
  have Hp := Lib.hid hrp
  clear hrp
  go_wp2_with fail
  have hc := put_any ⟨#[98]⟩ (by decide) w1
  refine (hc).mono ?_
  rintro e w2 ⟨Aq, rfl, hrq, hb2⟩
  have hbw2 := hbw1.trans (hb2.mono hbw1.size)
  have Ha2 := Lib.hid (RdP.step Ha.out hb2)
  clear Ha
  have Ha := Ha2
  clear Ha2
  have Hb2 := Lib.hid (RdP.step Hb.out hb2)
  clear Hb
  have Hb := Hb2
  clear Hb2
  have Hp2 := Lib.hid (RdP.step Hp.out hb2)
  clear Hp
  have Hp := Hp2
  clear Hp2
  clear hb2
  clear hc
  have Hq := Lib.hid hrq
  clear hrq
  go_wp2_with fail
  have hc := meet_rd [(2, 0, ⟨#[97]⟩)] [(2, 0, ⟨#[98]⟩)] Ap Aq 1 1 1 1 _ Hp.out Hq.out
  rw [show meetE [(2, 0, ⟨#[97]⟩)] [(2, 0, ⟨#[98]⟩)] = 0 from by decide] at hc
  rw [show meetC [(2, 0, ⟨#[97]⟩)] [(2, 0, ⟨#[98]⟩)] = [(2, 0, ⟨#[97]⟩), (1, 1, emp)] from by decide] at hc
  refine (hc).mono ?_
  rintro e w3 ⟨Ac0, cc0, Ad0, cd0, rfl, hrc0, hrd0, hb3⟩
  have hbw3 := hbw2.trans (hb3.mono hbw2.size)
  have Ha3 := Lib.hid (RdP.step Ha.out hb3)
  clear Ha
  have Ha := Ha3
  clear Ha3
  have Hb3 := Lib.hid (RdP.step Hb.out hb3)
  clear Hb
  have Hb := Hb3
  clear Hb3
  have Hp3 := Lib.hid (RdP.step Hp.out hb3)
  clear Hp
  have Hp := Hp3
  clear Hp3
  have Hq3 := Lib.hid (RdP.step Hq.out hb3)
  clear Hq
  have Hq := Hq3
  clear Hq3
  clear hb3
  clear hc
  have Hc0 := Lib.hid hrc0
  clear hrc0
  have Hd0 := Lib.hid hrd0
  clear hrd0
  go_wp2_with fail
  clear Hp
  clear Hq
  clear Hc0
  clear Hd0
  have hc := meet_rd a b A A' n n' k k' _ Ha.out Hb.out
  rw [H1.out] at hc
  refine (hc).mono ?_
  rintro e w4 ⟨Ac, cc, Ad, cd, rfl, hrc, hrd, hb4⟩
  have hbw4 := hbw3.trans (hb4.mono hbw3.size)
  have Ha4 := Lib.hid (RdP.step Ha.out hb4)
  clear Ha
  have Ha := Ha4
  clear Ha4
  have Hb4 := Lib.hid (RdP.step Hb.out hb4)
  clear Hb
  have Hb := Hb4
  clear Hb4
  clear hb4
  clear hc
  have Hc := Lib.hid hrc
  clear hrc
  have Hd := Lib.hid hrd
  clear hrd
  go_wp2_with fail
  have HG := Lib.hid (meet_good H1.out)
  have HC := Lib.hid (meet_chk H1.out)
  have HZ := Lib.hid (meet_sizes H1.out)
  have hc := psizes_good (meetC a b) Ac ((meetC a b).length) cc _ _ Hc.out (Nat.le_refl _) HG.out.1
  rw [HZ.out.1] at hc
  refine (hc).mono ?_
  rintro e w5 ⟨rfl, hb5⟩
  have hbw5 := hbw4.trans (hb5.mono hbw4.size)
  have Ha5 := Lib.hid (RdP.step Ha.out hb5)
  clear Ha
  have Ha := Ha5
  clear Ha5
  have Hb5 := Lib.hid (RdP.step Hb.out hb5)
  clear Hb
  have Hb := Hb5
  clear Hb5
  have Hc5 := Lib.hid (RdP.step Hc.out hb5)
  clear Hc
  have Hc := Hc5
  clear Hc5
  have Hd5 := Lib.hid (RdP.step Hd.out hb5)
  clear Hd
  have Hd := Hd5
  clear Hd5
  clear hb5
  clear hc
  go_wp2_with fail
  have hc := psizes_good (meetD a b) Ad ((meetD a b).length) cd _ _ Hd.out (Nat.le_refl _) HG.out.2
  rw [HZ.out.2.1] at hc
  rw [← HZ.out.2.2.1] at hc
  refine (hc).mono ?_
  rintro e w6 ⟨rfl, hb6⟩
  have hbw6 := hbw5.trans (hb6.mono hbw5.size)
  have Ha6 := Lib.hid (RdP.step Ha.out hb6)
  clear Ha
  have Ha := Ha6
  clear Ha6
  have Hb6 := Lib.hid (RdP.step Hb.out hb6)
  clear Hb
  have Hb := Hb6
  clear Hb6
  have Hc6 := Lib.hid (RdP.step Hc.out hb6)
  clear Hc
  have Hc := Hc6
  clear Hc6
  have Hd6 := Lib.hid (RdP.step Hd.out hb6)
  clear Hd
  have Hd := Hd6
  clear Hd6
  clear hb6
  clear hc
  go_wp2_with fail
  have hc := psizes_good a A n k _ _ Ha.out (Nat.le_refl _) HC.out.1
  refine (hc).mono ?_
  rintro e w7 ⟨rfl, hb7⟩
  have hbw7 := hbw6.trans (hb7.mono hbw6.size)
  have Ha7 := Lib.hid (RdP.step Ha.out hb7)
  clear Ha
  have Ha := Ha7
  clear Ha7
  have Hb7 := Lib.hid (RdP.step Hb.out hb7)
  clear Hb
  have Hb := Hb7
  clear Hb7
  have Hc7 := Lib.hid (RdP.step Hc.out hb7)
  clear Hc
  have Hc := Hc7
  clear Hc7
  have Hd7 := Lib.hid (RdP.step Hd.out hb7)
  clear Hd
  have Hd := Hd7
  clear Hd7
  clear hb7
  clear hc
  go_wp2_with fail
  have hc := psizes_good b A' n' k' _ _ Hb.out (Nat.le_refl _) HC.out.2.1
  refine (hc).mono ?_
  rintro e w8 ⟨rfl, hb8⟩
  have hbw8 := hbw7.trans (hb8.mono hbw7.size)
  have Ha8 := Lib.hid (RdP.step Ha.out hb8)
  clear Ha
  have Ha := Ha8
  clear Ha8
  have Hb8 := Lib.hid (RdP.step Hb.out hb8)
  clear Hb
  have Hb := Hb8
  clear Hb8
  have Hc8 := Lib.hid (RdP.step Hc.out hb8)
  clear Hc
  have Hc := Hc8
  clear Hc8
  have Hd8 := Lib.hid (RdP.step Hd.out hb8)
  clear Hd
  have Hd := Hd8
  clear Hd8
  clear hb8
  clear hc
  go_wp2_with fail
  have hc := puts_any (meetC a b) Ac ((meetC a b).length) cc _ _ Hc.out (Nat.le_refl _) HG.out.1
  rw [HZ.out.2.2.2.1] at hc
  refine (hc).mono ?_
  rintro e w9 ⟨rfl, hb9⟩
  have hbw9 := hbw8.trans (hb9.mono hbw8.size)
  have Ha9 := Lib.hid (RdP.step Ha.out hb9)
  clear Ha
  have Ha := Ha9
  clear Ha9
  have Hb9 := Lib.hid (RdP.step Hb.out hb9)
  clear Hb
  have Hb := Hb9
  clear Hb9
  have Hc9 := Lib.hid (RdP.step Hc.out hb9)
  clear Hc
  have Hc := Hc9
  clear Hc9
  have Hd9 := Lib.hid (RdP.step Hd.out hb9)
  clear Hd
  have Hd := Hd9
  clear Hd9
  clear hb9
  clear hc
  go_wp2_with fail
  have hc := puts_any a A n k _ _ Ha.out (Nat.le_refl _) HC.out.1
  refine (hc).mono ?_
  rintro e w10 ⟨rfl, hb10⟩
  have hbw10 := hbw9.trans (hb10.mono hbw9.size)
  have Ha10 := Lib.hid (RdP.step Ha.out hb10)
  clear Ha
  have Ha := Ha10
  clear Ha10
  have Hb10 := Lib.hid (RdP.step Hb.out hb10)
  clear Hb
  have Hb := Hb10
  clear Hb10
  have Hc10 := Lib.hid (RdP.step Hc.out hb10)
  clear Hc
  have Hc := Hc10
  clear Hc10
  have Hd10 := Lib.hid (RdP.step Hd.out hb10)
  clear Hd
  have Hd := Hd10
  clear Hd10
  clear hb10
  clear hc
  go_wp2_with fail
  have hc := puts_any (meetD a b) Ad ((meetD a b).length) cd _ _ Hd.out (Nat.le_refl _) HG.out.2
  rw [HZ.out.2.2.2.2] at hc
  refine (hc).mono ?_
  rintro e w11 ⟨rfl, hb11⟩
  have hbw11 := hbw10.trans (hb11.mono hbw10.size)
  have Ha11 := Lib.hid (RdP.step Ha.out hb11)
  clear Ha
  have Ha := Ha11
  clear Ha11
  have Hb11 := Lib.hid (RdP.step Hb.out hb11)
  clear Hb
  have Hb := Hb11
  clear Hb11
  have Hc11 := Lib.hid (RdP.step Hc.out hb11)
  clear Hc
  have Hc := Hc11
  clear Hc11
  have Hd11 := Lib.hid (RdP.step Hd.out hb11)
  clear Hd
  have Hd := Hd11
  clear Hd11
  clear hb11
  clear hc
  go_wp2_with fail
  have hc := puts_any b A' n' k' _ _ Hb.out (Nat.le_refl _) HC.out.2.1
  refine (hc).mono ?_
  rintro e w12 ⟨rfl, hb12⟩
  have hbw12 := hbw11.trans (hb12.mono hbw11.size)
  have Ha12 := Lib.hid (RdP.step Ha.out hb12)
  clear Ha
  have Ha := Ha12
  clear Ha12
  have Hb12 := Lib.hid (RdP.step Hb.out hb12)
  clear Hb
  have Hb := Hb12
  clear Hb12
  have Hc12 := Lib.hid (RdP.step Hc.out hb12)
  clear Hc
  have Hc := Hc12
  clear Hc12
  have Hd12 := Lib.hid (RdP.step Hd.out hb12)
  clear Hd
  have Hd := Hd12
  clear Hd12
  clear hb12
  clear hc
  go_wp2_with fail
  go_ret
  exact ⟨rfl, hbw12⟩
theorem walk_MeetSizes (v : Value) (a : List Pt) (v' : Value) (b : List Pt) (w : World) (ha : IsParts w v a) (hb : IsParts w v' b) :
    Calls Try.prog 3 #[v, v'] w fun e w' => e = .returned (.bool true) ∧ Below w.heap.size w w' := by
  obtain ⟨A, n, k, rfl, ha⟩ := ha
  obtain ⟨A', n', k', rfl, hb⟩ := hb
  by_cases h1 : meetE a b = 0
  · exact meetSizes_ok a b A A' n n' k k' w ha hb h1
  · exact meetSizes_err a b A A' n n' k k' w ha hb h1
end Go.Proofs.Ytgocddkoancdiaa
