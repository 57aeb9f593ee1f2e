/- ApplyBeside: the walk. Two deltas of two texts, one behind the other. -/
import Derived.Test.YtgocddkoancdiaaConcat
import Derived.Test.YtgocddkoancdiaaApply
import Derived.Test.YtgocddkoancdiaaBesideLaw
import Derived.Test.YtgocddkoancdiaaSame
import Derived.Test.YtgocddkoancdiaaOpenPartsU
namespace Go.Proofs.Ytgocddkoancdiaa
open Go.ChangeShapes Go.WideShapes Go.RowKit
set_option linter.unusedVariables false
set_option linter.unusedSimpArgs false
set_option maxRecDepth 100000
set_option maxHeartbeats 4000000


theorem applyBeside_e1 (a b : List Pt) (A A' : Option Addr) (n n' k k' : Nat) (s t : ByteArray) (hs : s.size ≤ 1048576) (ht : t.size ≤ 1048576) (w : World) (ha : RdP w w.heap.size A n k a) (hb : RdP w w.heap.size A' n' k' b) (ha1 : (n : Int) ≤ 1048576) (hb1 : (n' : Int) ≤ 1048576) (h1 : doE a s ≠ 0) :
    Calls Try.prog 9 #[.slice A n k, .slice A' n' k', .string s, .string t] w fun e w' => e = .returned (.bool true) ∧ Below w.heap.size w w' := by
  have hbw0 : Below w.heap.size w w := Below.refl _ _
  have Ha := Lib.hid ha
  clear ha
  have Hb := Lib.hid hb
  clear hb
  have hne : (doE a s != 0) = true := by simpa using h1
  have Hh1 := Lib.hid h1
  clear h1
  go_enter Try.func9, Try.ntmps9
  go_wp2_with fail
  have hc := put_any ⟨#[97]⟩ (by decide) w
  refine (hc).mono ?_
  rintro e w1 ⟨Ap, rfl, hrp, hb1⟩
  have hbw1 := hbw0.trans (hb1.mono hbw0.size)
  have Ha1 := Lib.hid (RdP.step Ha.out hb1)
  clear Ha
  have Ha := Ha1
  clear Ha1
  have Hb1 := Lib.hid (RdP.step Hb.out hb1)
  clear Hb
  have Hb := Hb1
  clear Hb1
  clear hb1
  clear hc
  have Hp := Lib.hid hrp
  clear hrp
  go_wp2_with fail
  have hc := put_any ⟨#[98]⟩ (by decide) w1
  refine (hc).mono ?_
  rintro e w2 ⟨Aq, rfl, hrq, hb2⟩
  have hbw2 := hbw1.trans (hb2.mono hbw1.size)
  have Ha2 := Lib.hid (RdP.step Ha.out hb2)
  clear Ha
  have Ha := Ha2
  clear Ha2
  have Hb2 := Lib.hid (RdP.step Hb.out hb2)
  clear Hb
  have Hb := Hb2
  clear Hb2
  have Hp2 := Lib.hid (RdP.step Hp.out hb2)
  clear Hp
  have Hp := Hp2
  clear Hp2
  clear hb2
  clear hc
  have Hq := Lib.hid hrq
  clear hrq
  go_wp2_with fail
  have hc := beside_any [(2, 0, ⟨#[97]⟩)] [(2, 0, ⟨#[98]⟩)] Ap Aq 1 1 1 1 _ Hp.out Hq.out (by decide) (by decide)
  rw [show normE ([(2, 0, ⟨#[97]⟩)] ++ [(2, 0, ⟨#[98]⟩)]) = 0 from by decide] at hc
  rw [show normL ([(2, 0, ⟨#[97]⟩)] ++ [(2, 0, ⟨#[98]⟩)]) = [(2, 0, ⟨#[97, 98]⟩)] from by decide] at hc
  refine (hc).mono ?_
  rintro e w3 ⟨Ar, cr, rfl, hrr, hb3⟩
  have hbw3 := hbw2.trans (hb3.mono hbw2.size)
  have Ha3 := Lib.hid (RdP.step Ha.out hb3)
  clear Ha
  have Ha := Ha3
  clear Ha3
  have Hb3 := Lib.hid (RdP.step Hb.out hb3)
  clear Hb
  have Hb := Hb3
  clear Hb3
  have Hp3 := Lib.hid (RdP.step Hp.out hb3)
  clear Hp
  have Hp := Hp3
  clear Hp3
  have Hq3 := Lib.hid (RdP.step Hq.out hb3)
  clear Hq
  have Hq := Hq3
  clear Hq3
  clear hb3
  clear hc
  have Hr := Lib.hid hrr
  clear hrr
  go_wp2_with fail
  clear Hp
  clear Hq
  have hc := put_any ⟨#[97, 98]⟩ (by decide) w3
  refine (hc).mono ?_
  rintro e w4 ⟨Ap2, rfl, hrp2, hb4⟩
  have hbw4 := hbw3.trans (hb4.mono hbw3.size)
  have Ha4 := Lib.hid (RdP.step Ha.out hb4)
  clear Ha
  have Ha := Ha4
  clear Ha4
  have Hb4 := Lib.hid (RdP.step Hb.out hb4)
  clear Hb
  have Hb := Hb4
  clear Hb4
  have Hr4 := Lib.hid (RdP.step Hr.out hb4)
  clear Hr
  have Hr := Hr4
  clear Hr4
  clear hb4
  clear hc
  have Hp2 := Lib.hid hrp2
  clear hrp2
  go_wp2_with fail
  refine (same_true [(2, 0, ⟨#[97, 98]⟩)] [(2, 0, ⟨#[97, 98]⟩)] Ar Ap2 _ _ cr 1 _ _ _ Hr.out Hp2.out rfl).mono ?_
  rintro e w5 ⟨rfl, hb5⟩
  have hbw5 := hbw4.trans (hb5.mono hbw4.size)
  have Ha5 := Lib.hid (RdP.step Ha.out hb5)
  clear Ha
  have Ha := Ha5
  clear Ha5
  have Hb5 := Lib.hid (RdP.step Hb.out hb5)
  clear Hb
  have Hb := Hb5
  clear Hb5
  have Hr5 := Lib.hid (RdP.step Hr.out hb5)
  clear Hr
  have Hr := Hr5
  clear Hr5
  have Hp25 := Lib.hid (RdP.step Hp2.out hb5)
  clear Hp2
  have Hp2 := Hp25
  clear Hp25
  clear hb5
  go_wp2_with fail
  clear Hr
  clear Hp2
  have hc := do_any a A n k _ s _ Ha.out (Nat.le_refl _) (by omega)
  rw [do_err Hh1.out] at hc
  refine (hc).mono ?_
  rintro e w6 ⟨rfl, hb6⟩
  have hbw6 := hbw5.trans (hb6.mono hbw5.size)
  have Ha6 := Lib.hid (RdP.step Ha.out hb6)
  clear Ha
  have Ha := Ha6
  clear Ha6
  have Hb6 := Lib.hid (RdP.step Hb.out hb6)
  clear Hb
  have Hb := Hb6
  clear Hb6
  clear hb6
  clear hc
  go_wp2_with fail
  have hc := do_any b A' n' k' _ t _ Hb.out (Nat.le_refl _) (by omega)
  refine (hc).mono ?_
  rintro e w7 ⟨rfl, hb7⟩
  have hbw7 := hbw6.trans (hb7.mono hbw6.size)
  have Ha7 := Lib.hid (RdP.step Ha.out hb7)
  clear Ha
  have Ha := Ha7
  clear Ha7
  have Hb7 := Lib.hid (RdP.step Hb.out hb7)
  clear Hb
  have Hb := Hb7
  clear Hb7
  clear hb7
  clear hc
  go_wp2_with fail
  have hc := beside_any a b A A' n n' k k' _ Ha.out Hb.out (by omega) (by omega)
  refine (hc).mono ?_
  rintro e w8 ⟨Ad, cd, rfl, hrd, hb8⟩
  have hbw8 := hbw7.trans (hb8.mono hbw7.size)
  have Ha8 := Lib.hid (RdP.step Ha.out hb8)
  clear Ha
  have Ha := Ha8
  clear Ha8
  have Hb8 := Lib.hid (RdP.step Hb.out hb8)
  clear Hb
  have Hb := Hb8
  clear Hb8
  clear hb8
  clear hc
  have Hd := Lib.hid hrd
  clear hrd
  go_wp2_with fail
  go_ret
  exact ⟨rfl, hbw8⟩
theorem applyBeside_e2 (a b : List Pt) (A A' : Option Addr) (n n' k k' : Nat) (s t : ByteArray) (hs : s.size ≤ 1048576) (ht : t.size ≤ 1048576) (w : World) (ha : RdP w w.heap.size A n k a) (hb : RdP w w.heap.size A' n' k' b) (ha1 : (n : Int) ≤ 1048576) (hb1 : (n' : Int) ≤ 1048576) (h1 : doE a s = 0) (h2 : doE b t ≠ 0) :
    Calls Try.prog 9 #[.slice A n k, .slice A' n' k', .string s, .string t] w fun e w' => e = .returned (.bool true) ∧ Below w.heap.size w w' := by
  have hbw0 : Below w.heap.size w w := Below.refl _ _
  have Ha := Lib.hid ha
  clear ha
  have Hb := Lib.hid hb
  clear hb
  have hne : (doE b t != 0) = true := by simpa using h2
  have Hh1 := Lib.hid h1
  clear h1
  have Hh2 := Lib.hid h2
  clear h2
  go_enter Try.func9, Try.ntmps9
  go_wp2_with fail
  have hc := put_any ⟨#[97]⟩ (by decide) w
  refine (hc).mono ?_
  rintro e w1 ⟨Ap, rfl, hrp, hb1⟩
  have hbw1 := hbw0.trans (hb1.mono hbw0.size)
  have Ha1 := Lib.hid (RdP.step Ha.out hb1)
  clear Ha
  have Ha := Ha1
  clear Ha1
  have Hb1 := Lib.hid (RdP.step Hb.out hb1)
  clear Hb
  have Hb := Hb1
  clear Hb1
  clear hb1
  clear hc
  have Hp := Lib.hid hrp
  clear hrp
  go_wp2_with fail
  have hc := put_any ⟨#[98]⟩ (by decide) w1
  refine (hc).mono ?_
  rintro e w2 ⟨Aq, rfl, hrq, hb2⟩
  have hbw2 := hbw1.trans (hb2.mono hbw1.size)
  have Ha2 := Lib.hid (RdP.step Ha.out hb2)
  clear Ha
  have Ha := Ha2
  clear Ha2
  have Hb2 := Lib.hid (RdP.step Hb.out hb2)
  clear Hb
  have Hb := Hb2
  clear Hb2
  have Hp2 := Lib.hid (RdP.step Hp.out hb2)
  clear Hp
  have Hp := Hp2
  clear Hp2
  clear hb2
  clear hc
  have Hq := Lib.hid hrq
  clear hrq
  go_wp2_with fail
  have hc := beside_any [(2, 0, ⟨#[97]⟩)] [(2, 0, ⟨#[98]⟩)] Ap Aq 1 1 1 1 _ Hp.out Hq.out (by decide) (by decide)
  rw [show normE ([(2, 0, ⟨#[97]⟩)] ++ [(2, 0, ⟨#[98]⟩)]) = 0 from by decide] at hc
  rw [show normL ([(2, 0, ⟨#[97]⟩)] ++ [(2, 0, ⟨#[98]⟩)]) = [(2, 0, ⟨#[97, 98]⟩)] from by decide] at hc
  refine (hc).mono ?_
  rintro e w3 ⟨Ar, cr, rfl, hrr, hb3⟩
  have hbw3 := hbw2.trans (hb3.mono hbw2.size)
  have Ha3 := Lib.hid (RdP.step Ha.out hb3)
  clear Ha
  have Ha := Ha3
  clear Ha3
  have Hb3 := Lib.hid (RdP.step Hb.out hb3)
  clear Hb
  have Hb := Hb3
  clear Hb3
  have Hp3 := Lib.hid (RdP.step Hp.out hb3)
  clear Hp
  have Hp := Hp3
  clear Hp3
  have Hq3 := Lib.hid (RdP.step Hq.out hb3)
  clear Hq
  have Hq := Hq3
  clear Hq3
  clear hb3
  clear hc
  have Hr := Lib.hid hrr
  clear hrr
  go_wp2_with fail
  clear Hp
  clear Hq
  have hc := put_any ⟨#[97, 98]⟩ (by decide) w3
  refine (hc).mono ?_
  rintro e w4 ⟨Ap2, rfl, hrp2, hb4⟩
  have hbw4 := hbw3.trans (hb4.mono hbw3.size)
  have Ha4 := Lib.hid (RdP.step Ha.out hb4)
  clear Ha
  have Ha := Ha4
  clear Ha4
  have Hb4 := Lib.hid (RdP.step Hb.out hb4)
  clear Hb
  have Hb := Hb4
  clear Hb4
  have Hr4 := Lib.hid (RdP.step Hr.out hb4)
  clear Hr
  have Hr := Hr4
  clear Hr4
  clear hb4
  clear hc
  have Hp2 := Lib.hid hrp2
  clear hrp2
  go_wp2_with fail
  refine (same_true [(2, 0, ⟨#[97, 98]⟩)] [(2, 0, ⟨#[97, 98]⟩)] Ar Ap2 _ _ cr 1 _ _ _ Hr.out Hp2.out rfl).mono ?_
  rintro e w5 ⟨rfl, hb5⟩
  have hbw5 := hbw4.trans (hb5.mono hbw4.size)
  have Ha5 := Lib.hid (RdP.step Ha.out hb5)
  clear Ha
  have Ha := Ha5
  clear Ha5
  have Hb5 := Lib.hid (RdP.step Hb.out hb5)
  clear Hb
  have Hb := Hb5
  clear Hb5
  have Hr5 := Lib.hid (RdP.step Hr.out hb5)
  clear Hr
  have Hr := Hr5
  clear Hr5
  have Hp25 := Lib.hid (RdP.step Hp2.out hb5)
  clear Hp2
  have Hp2 := Hp25
  clear Hp25
  clear hb5
  go_wp2_with fail
  clear Hr
  clear Hp2
  have hc := do_any a A n k _ s _ Ha.out (Nat.le_refl _) (by omega)
  rw [Hh1.out] at hc
  refine (hc).mono ?_
  rintro e w6 ⟨rfl, hb6⟩
  have hbw6 := hbw5.trans (hb6.mono hbw5.size)
  have Ha6 := Lib.hid (RdP.step Ha.out hb6)
  clear Ha
  have Ha := Ha6
  clear Ha6
  have Hb6 := Lib.hid (RdP.step Hb.out hb6)
  clear Hb
  have Hb := Hb6
  clear Hb6
  clear hb6
  clear hc
  go_wp2_with fail
  have hc := do_any b A' n' k' _ t _ Hb.out (Nat.le_refl _) (by omega)
  rw [do_err Hh2.out] at hc
  refine (hc).mono ?_
  rintro e w7 ⟨rfl, hb7⟩
  have hbw7 := hbw6.trans (hb7.mono hbw6.size)
  have Ha7 := Lib.hid (RdP.step Ha.out hb7)
  clear Ha
  have Ha := Ha7
  clear Ha7
  have Hb7 := Lib.hid (RdP.step Hb.out hb7)
  clear Hb
  have Hb := Hb7
  clear Hb7
  clear hb7
  clear hc
  go_wp2_with fail
  have hc := beside_any a b A A' n n' k k' _ Ha.out Hb.out (by omega) (by omega)
  refine (hc).mono ?_
  rintro e w8 ⟨Ad, cd, rfl, hrd, hb8⟩
  have hbw8 := hbw7.trans (hb8.mono hbw7.size)
  have Ha8 := Lib.hid (RdP.step Ha.out hb8)
  clear Ha
  have Ha := Ha8
  clear Ha8
  have Hb8 := Lib.hid (RdP.step Hb.out hb8)
  clear Hb
  have Hb := Hb8
  clear Hb8
  clear hb8
  clear hc
  have Hd := Lib.hid hrd
  clear hrd
  go_wp2_with fail
  go_ret
  exact ⟨rfl, hbw8⟩
theorem applyBeside_e3 (a b : List Pt) (A A' : Option Addr) (n n' k k' : Nat) (s t : ByteArray) (hs : s.size ≤ 1048576) (ht : t.size ≤ 1048576) (w : World) (ha : RdP w w.heap.size A n k a) (hb : RdP w w.heap.size A' n' k' b) (ha1 : (n : Int) ≤ 1048576) (hb1 : (n' : Int) ≤ 1048576) (h1 : doE a s = 0) (h2 : doE b t = 0) (h3 : normE (a ++ b) ≠ 0) :
    Calls Try.prog 9 #[.slice A n k, .slice A' n' k', .string s, .string t] w fun e w' => e = .returned (.bool true) ∧ Below w.heap.size w w' := by
  have hbw0 : Below w.heap.size w w := Below.refl _ _
  have Ha := Lib.hid ha
  clear ha
  have Hb := Lib.hid hb
  clear hb
  have hne : (normE (a ++ b) != 0) = true := by simpa using h3
  have Hh1 := Lib.hid h1
  clear h1
  have Hh2 := Lib.hid h2
  clear h2
  have Hh3 := Lib.hid h3
  clear h3
  go_enter Try.func9, Try.ntmps9
  go_wp2_with fail
  have hc := put_any ⟨#[97]⟩ (by decide) w
  refine (hc).mono ?_
  rintro e w1 ⟨Ap, rfl, hrp, hb1⟩
  have hbw1 := hbw0.trans (hb1.mono hbw0.size)
  have Ha1 := Lib.hid (RdP.step Ha.out hb1)
  clear Ha
  have Ha := Ha1
  clear Ha1
  have Hb1 := Lib.hid (RdP.step Hb.out hb1)
  clear Hb
  have Hb := Hb1
  clear Hb1
  clear hb1
  clear hc
  have Hp := Lib.hid hrp
  clear hrp
  go_wp2_with fail
  have hc := put_any ⟨#[98]⟩ (by decide) w1
  refine (hc).mono ?_
  rintro e w2 ⟨Aq, rfl, hrq, hb2⟩
  have hbw2 := hbw1.trans (hb2.mono hbw1.size)
  have Ha2 := Lib.hid (RdP.step Ha.out hb2)
  clear Ha
  have Ha := Ha2
  clear Ha2
  have Hb2 := Lib.hid (RdP.step Hb.out hb2)
  clear Hb
  have Hb := Hb2
  clear Hb2
  have Hp2 := Lib.hid (RdP.step Hp.out hb2)
  clear Hp
  have Hp := Hp2
  clear Hp2
  clear hb2
  clear hc
  have Hq := Lib.hid hrq
  clear hrq
  go_wp2_with fail
  have hc := beside_any [(2, 0, ⟨#[97]⟩)] [(2, 0, ⟨#[98]⟩)] Ap Aq 1 1 1 1 _ Hp.out Hq.out (by decide) (by decide)
  rw [show normE ([(2, 0, ⟨#[97]⟩)] ++ [(2, 0, ⟨#[98]⟩)]) = 0 from by decide] at hc
  rw [show normL ([(2, 0, ⟨#[97]⟩)] ++ [(2, 0, ⟨#[98]⟩)]) = [(2, 0, ⟨#[97, 98]⟩)] from by decide] at hc
  refine (hc).mono ?_
  rintro e w3 ⟨Ar, cr, rfl, hrr, hb3⟩
  have hbw3 := hbw2.trans (hb3.mono hbw2.size)
  have Ha3 := Lib.hid (RdP.step Ha.out hb3)
  clear Ha
  have Ha := Ha3
  clear Ha3
  have Hb3 := Lib.hid (RdP.step Hb.out hb3)
  clear Hb
  have Hb := Hb3
  clear Hb3
  have Hp3 := Lib.hid (RdP.step Hp.out hb3)
  clear Hp
  have Hp := Hp3
  clear Hp3
  have Hq3 := Lib.hid (RdP.step Hq.out hb3)
  clear Hq
  have Hq := Hq3
  clear Hq3
  clear hb3
  clear hc
  have Hr := Lib.hid hrr
  clear hrr
  go_wp2_with fail
  clear Hp
  clear Hq
  have hc := put_any ⟨#[97, 98]⟩ (by decide) w3
  refine (hc).mono ?_
  rintro e w4 ⟨Ap2, rfl, hrp2, hb4⟩
  have hbw4 := hbw3.trans (hb4.mono hbw3.size)
  have Ha4 := Lib.hid (RdP.step Ha.out hb4)
  clear Ha
  have Ha := Ha4
  clear Ha4
  have Hb4 := Lib.hid (RdP.step Hb.out hb4)
  clear Hb
  have Hb := Hb4
  clear Hb4
  have Hr4 := Lib.hid (RdP.step Hr.out hb4)
  clear Hr
  have Hr := Hr4
  clear Hr4
  clear hb4
  clear hc
  have Hp2 := Lib.hid hrp2
  clear hrp2
  go_wp2_with fail
  refine (same_true [(2, 0, ⟨#[97, 98]⟩)] [(2, 0, ⟨#[97, 98]⟩)] Ar Ap2 _ _ cr 1 _ _ _ Hr.out Hp2.out rfl).mono ?_
  rintro e w5 ⟨rfl, hb5⟩
  have hbw5 := hbw4.trans (hb5.mono hbw4.size)
  have Ha5 := Lib.hid (RdP.step Ha.out hb5)
  clear Ha
  have Ha := Ha5
  clear Ha5
  have Hb5 := Lib.hid (RdP.step Hb.out hb5)
  clear Hb
  have Hb := Hb5
  clear Hb5
  have Hr5 := Lib.hid (RdP.step Hr.out hb5)
  clear Hr
  have Hr := Hr5
  clear Hr5
  have Hp25 := Lib.hid (RdP.step Hp2.out hb5)
  clear Hp2
  have Hp2 := Hp25
  clear Hp25
  clear hb5
  go_wp2_with fail
  clear Hr
  clear Hp2
  have hc := do_any a A n k _ s _ Ha.out (Nat.le_refl _) (by omega)
  rw [Hh1.out] at hc
  refine (hc).mono ?_
  rintro e w6 ⟨rfl, hb6⟩
  have hbw6 := hbw5.trans (hb6.mono hbw5.size)
  have Ha6 := Lib.hid (RdP.step Ha.out hb6)
  clear Ha
  have Ha := Ha6
  clear Ha6
  have Hb6 := Lib.hid (RdP.step Hb.out hb6)
  clear Hb
  have Hb := Hb6
  clear Hb6
  clear hb6
  clear hc
  go_wp2_with fail
  have hc := do_any b A' n' k' _ t _ Hb.out (Nat.le_refl _) (by omega)
  rw [Hh2.out] at hc
  refine (hc).mono ?_
  rintro e w7 ⟨rfl, hb7⟩
  have hbw7 := hbw6.trans (hb7.mono hbw6.size)
  have Ha7 := Lib.hid (RdP.step Ha.out hb7)
  clear Ha
  have Ha := Ha7
  clear Ha7
  have Hb7 := Lib.hid (RdP.step Hb.out hb7)
  clear Hb
  have Hb := Hb7
  clear Hb7
  clear hb7
  clear hc
  go_wp2_with fail
  have hc := beside_any a b A A' n n' k k' _ Ha.out Hb.out (by omega) (by omega)
  refine (hc).mono ?_
  rintro e w8 ⟨Ad, cd, rfl, hrd, hb8⟩
  have hbw8 := hbw7.trans (hb8.mono hbw7.size)
  have Ha8 := Lib.hid (RdP.step Ha.out hb8)
  clear Ha
  have Ha := Ha8
  clear Ha8
  have Hb8 := Lib.hid (RdP.step Hb.out hb8)
  clear Hb
  have Hb := Hb8
  clear Hb8
  clear hb8
  clear hc
  have Hd := Lib.hid hrd
  clear hrd
  go_wp2_with fail
  go_ret
  exact ⟨rfl, hbw8⟩
theorem applyBeside_ok (a b : List Pt) (A A' : Option Addr) (n n' k k' : Nat) (s t : ByteArray) (hs : s.size ≤ 1048576) (ht : t.size ≤ 1048576) (w : World) (ha : RdP w w.heap.size A n k a) (hb : RdP w w.heap.size A' n' k' b) (ha1 : (n : Int) ≤ 1048576) (hb1 : (n' : Int) ≤ 1048576) (h1 : doE a s = 0) (h2 : doE b t = 0) (h3 : normE (a ++ b) = 0) :
    Calls Try.prog 9 #[.slice A n k, .slice A' n' k', .string s, .string t] w fun e w' => e = .returned (.bool true) ∧ Below w.heap.size w w' := by
  have hbw0 : Below w.heap.size w w := Below.refl _ _
  have Ha := Lib.hid ha
  clear ha
  have Hb := Lib.hid hb
  clear hb
  have Hh1 := Lib.hid h1
  clear h1
  have Hh2 := Lib.hid h2
  clear h2
  have Hh3 := Lib.hid h3
  clear h3
  go_enter Try.func9, Try.ntmps9
  go_wp2_with fail
  have hc := put_any ⟨#[97]⟩ (by decide) w
  refine (hc).mono ?_
  rintro e w1 ⟨Ap, rfl, hrp, hb1⟩
  have hbw1 := hbw0.trans (hb1.mono hbw0.size)
  have Ha1 := Lib.hid (RdP.step Ha.out hb1)
  clear Ha
  have Ha := Ha1
  clear Ha1
  have Hb1 := Lib.hid (RdP.step Hb.out hb1)
  clear Hb
  have Hb := Hb1
  clear Hb1
  clear hb1
  clear hc
  have Hp := Lib.hid hrp
  clear hrp
  go_wp2_with fail
  have hc := put_any ⟨#[98]⟩ (by decide) w1
  refine (hc).mono ?_
  rintro e w2 ⟨Aq, rfl, hrq, hb2⟩
  have hbw2 := hbw1.trans (hb2.mono hbw1.size)
  have Ha2 := Lib.hid (RdP.step Ha.out hb2)
  clear Ha
  have Ha := Ha2
  clear Ha2
  have Hb2 := Lib.hid (RdP.step Hb.out hb2)
  clear Hb
  have Hb := Hb2
  clear Hb2
  have Hp2 := Lib.hid (RdP.step Hp.out hb2)
  clear Hp
  have Hp := Hp2
  clear Hp2
  clear hb2
  clear hc
  have Hq := Lib.hid hrq
  clear hrq
  go_wp2_with fail
  have hc := beside_any [(2, 0, ⟨#[97]⟩)] [(2, 0, ⟨#[98]⟩)] Ap Aq 1 1 1 1 _ Hp.out Hq.out (by decide) (by decide)
  rw [show normE ([(2, 0, ⟨#[97]⟩)] ++ [(2, 0, ⟨#[98]⟩)]) = 0 from by decide] at hc
  rw [show normL ([(2, 0, ⟨#[97]⟩)] ++ [(2, 0, ⟨#[98]⟩)]) = [(2, 0, ⟨#[97, 98]⟩)] from by decide] at hc
  refine (hc).mono ?_
  rintro e w3 ⟨Ar, cr, rfl, hrr, hb3⟩
  have hbw3 := hbw2.trans (hb3.mono hbw2.size)
  have Ha3 := Lib.hid (RdP.step Ha.out hb3)
  clear Ha
  have Ha := Ha3
  clear Ha3
  have Hb3 := Lib.hid (RdP.step Hb.out hb3)
  clear Hb
  have Hb := Hb3
  clear Hb3
  have Hp3 := Lib.hid (RdP.step Hp.out hb3)
  clear Hp
  have Hp := Hp3
  clear Hp3
  have Hq3 := Lib.hid (RdP.step Hq.out hb3)
  clear Hq
  have Hq := Hq3
  clear Hq3
  clear hb3
  clear hc
  have Hr := Lib.hid hrr
  clear hrr
  go_wp2_with fail
  clear Hp
  clear Hq
  have hc := put_any ⟨#[97, 98]⟩ (by decide) w3
  refine (hc).mono ?_
  rintro e w4 ⟨Ap2, rfl, hrp2, hb4⟩
  have hbw4 := hbw3.trans (hb4.mono hbw3.size)
  have Ha4 := Lib.hid (RdP.step Ha.out hb4)
  clear Ha
  have Ha := Ha4
  clear Ha4
  have Hb4 := Lib.hid (RdP.step Hb.out hb4)
  clear Hb
  have Hb := Hb4
  clear Hb4
  have Hr4 := Lib.hid (RdP.step Hr.out hb4)
  clear Hr
  have Hr := Hr4
  clear Hr4
  clear hb4
  clear hc
  have Hp2 := Lib.hid hrp2
  clear hrp2
  go_wp2_with fail
  refine (same_true [(2, 0, ⟨#[97, 98]⟩)] [(2, 0, ⟨#[97, 98]⟩)] Ar Ap2 _ _ cr 1 _ _ _ Hr.out Hp2.out rfl).mono ?_
  rintro e w5 ⟨rfl, hb5⟩
  have hbw5 := hbw4.trans (hb5.mono hbw4.size)
  have Ha5 := Lib.hid (RdP.step Ha.out hb5)
  clear Ha
  have Ha := Ha5
  clear Ha5
  have Hb5 := Lib.hid (RdP.step Hb.out hb5)
  clear Hb
  have Hb := Hb5
  clear Hb5
  have Hr5 := Lib.hid (RdP.step Hr.out hb5)
  clear Hr
  have Hr := Hr5
  clear Hr5
  have Hp25 := Lib.hid (RdP.step Hp2.out hb5)
  clear Hp2
  have Hp2 := Hp25
  clear Hp25
  clear hb5
  go_wp2_with fail
  clear Hr
  clear Hp2
  have hc := do_any a A n k _ s _ Ha.out (Nat.le_refl _) (by omega)
  rw [Hh1.out] at hc
  refine (hc).mono ?_
  rintro e w6 ⟨rfl, hb6⟩
  have hbw6 := hbw5.trans (hb6.mono hbw5.size)
  have Ha6 := Lib.hid (RdP.step Ha.out hb6)
  clear Ha
  have Ha := Ha6
  clear Ha6
  have Hb6 := Lib.hid (RdP.step Hb.out hb6)
  clear Hb
  have Hb := Hb6
  clear Hb6
  clear hb6
  clear hc
  go_wp2_with fail
  have hc := do_any b A' n' k' _ t _ Hb.out (Nat.le_refl _) (by omega)
  rw [Hh2.out] at hc
  refine (hc).mono ?_
  rintro e w7 ⟨rfl, hb7⟩
  have hbw7 := hbw6.trans (hb7.mono hbw6.size)
  have Ha7 := Lib.hid (RdP.step Ha.out hb7)
  clear Ha
  have Ha := Ha7
  clear Ha7
  have Hb7 := Lib.hid (RdP.step Hb.out hb7)
  clear Hb
  have Hb := Hb7
  clear Hb7
  clear hb7
  clear hc
  go_wp2_with fail
  have hc := beside_any a b A A' n n' k k' _ Ha.out Hb.out (by omega) (by omega)
  rw [Hh3.out] at hc
  refine (hc).mono ?_
  rintro e w8 ⟨Ad, cd, rfl, hrd, hb8⟩
  have hbw8 := hbw7.trans (hb8.mono hbw7.size)
  have Ha8 := Lib.hid (RdP.step Ha.out hb8)
  clear Ha
  have Ha := Ha8
  clear Ha8
  have Hb8 := Lib.hid (RdP.step Hb.out hb8)
  clear Hb
  have Hb := Hb8
  clear Hb8
  clear hb8
  clear hc
  have Hd := Lib.hid hrd
  clear hrd
  go_wp2_with fail
  have HJ := Lib.hid (beside_do Hh1.out Hh2.out Hh3.out)
  have hz1 := do_size_any a s
  have hz2 := do_size_any b t
  have hc := do_any (normL (a ++ b)) Ad ((normL (a ++ b)).length) cd _ (s ++ t) _ Hd.out (Nat.le_refl _) (by rw [ByteArray.size_append]; omega)
  rw [HJ.out.1] at hc
  rw [HJ.out.2] at hc
  refine (hc).mono ?_
  rintro e w9 ⟨rfl, hb9⟩
  have hbw9 := hbw8.trans (hb9.mono hbw8.size)
  have Ha9 := Lib.hid (RdP.step Ha.out hb9)
  clear Ha
  have Ha := Ha9
  clear Ha9
  have Hb9 := Lib.hid (RdP.step Hb.out hb9)
  clear Hb
  have Hb := Hb9
  clear Hb9
  have Hd9 := Lib.hid (RdP.step Hd.out hb9)
  clear Hd
  have Hd := Hd9
  clear Hd9
  clear hb9
  clear hc
  go_wp2_with fail
  go_ret
  exact ⟨rfl, hbw9⟩
theorem walk_ApplyBeside (v : Value) (a : List Pt) (v' : Value) (b : List Pt) (s : ByteArray) (hs : s.size ≤ 1048576) (t : ByteArray) (ht : t.size ≤ 1048576) (w : World) (ha : IsPartsU w v a) (hb : IsPartsU w v' b) :
    Calls Try.prog 9 #[v, v', .string s, .string t] w fun e w' => e = .returned (.bool true) ∧ Below w.heap.size w w' := by
  obtain ⟨A, n, k, rfl, ha, ha1⟩ := ha
  obtain ⟨A', n', k', rfl, hb, hb1⟩ := hb
  by_cases h1 : doE a s = 0
  · by_cases h2 : doE b t = 0
    · by_cases h3 : normE (a ++ b) = 0
      · exact applyBeside_ok a b A A' n n' k k' s t hs ht w ha hb ha1 hb1 h1 h2 h3
      · exact applyBeside_e3 a b A A' n n' k k' s t hs ht w ha hb ha1 hb1 h1 h2 h3
    · exact applyBeside_e2 a b A A' n n' k k' s t hs ht w ha hb ha1 hb1 h1 h2
  · exact applyBeside_e1 a b A A' n n' k k' s t hs ht w ha hb ha1 hb1 h1
end Go.Proofs.Ytgocddkoancdiaa
