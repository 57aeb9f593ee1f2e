/- CompDoes: the walk. Two as one do what one does and then the other. -/
import Derived.Test.YtgocddkoancdiaaComp
import Derived.Test.YtgocddkoancdiaaApply
import Derived.Test.YtgocddkoancdiaaTurnLaw
import Derived.Test.YtgocddkoancdiaaSame
import Derived.Test.YtgocddkoancdiaaOpenParts
namespace Go.Proofs.Ytgocddkoancdiaa
open Go.ChangeShapes Go.WideShapes Go.RowKit
set_option linter.unusedVariables false
set_option linter.unusedSimpArgs false
set_option maxRecDepth 100000
set_option maxHeartbeats 4000000


theorem compDoes_e1 (a b : List Pt) (A A' : Option Addr) (n n' k k' : Nat) (s : ByteArray) (hs : s.size ≤ 140737488351232) (w : World) (ha : RdP w w.heap.size A n k a) (hb : RdP w w.heap.size A' n' k' b) (h1 : doE a s ≠ 0) :
    Calls Try.prog 10 #[.slice A n k, .slice A' n' k', .string s] w fun e w' => e = .returned (.bool true) ∧ Below w.heap.size w w' := by
  have hbw0 : Below w.heap.size w w := Below.refl _ _
  have Ha := Lib.hid ha
  clear ha
  have Hb := Lib.hid hb
  clear hb
  have hne : (doE a s != 0) = true := by simpa using h1
  have H1 := Lib.hid h1
  clear h1
  go_enter Try.func10, Try.ntmps10
  go_wp2_with fail
  have hc := put_any ⟨#[97, 98]⟩ (by decide) w
  refine (hc).mono ?_
  rintro e w1 ⟨Ap, rfl, hrp, hb1⟩
  have hbw1 := hbw0.trans (hb1.mono hbw0.size)
  have Ha1 := Lib.hid (RdP.step Ha.out hb1)
  clear Ha
  have Ha := Ha1
  clear Ha1
  have Hb1 := Lib.hid (RdP.step Hb.out hb1)
  clear Hb
  have Hb := Hb1
  clear Hb1
  clear hb1
  clear hc
  have Hp := Lib.hid hrp
  clear hrp
  go_wp2_with fail
  have hrq := RdP.builtS w1 #[.int .i64 3, .int .i64 1, .string ⟨#[]⟩, .int .i64 1, .int .i64 1, .string ⟨#[]⟩] [(3, 1, emp), (1, 1, emp)] 2 rfl rfl (by decide) (by decide)
  have hbw2 := hbw1.alloc hbw1.size (.cells #[.int .i64 3, .int .i64 1, .string ⟨#[]⟩, .int .i64 1, .int .i64 1, .string ⟨#[]⟩] 28)
  have Ha2 := Lib.hid (RdP.stepA Ha.out (.cells #[.int .i64 3, .int .i64 1, .string ⟨#[]⟩, .int .i64 1, .int .i64 1, .string ⟨#[]⟩] 28))
  clear Ha
  have Ha := Ha2
  clear Ha2
  have Hb2 := Lib.hid (RdP.stepA Hb.out (.cells #[.int .i64 3, .int .i64 1, .string ⟨#[]⟩, .int .i64 1, .int .i64 1, .string ⟨#[]⟩] 28))
  clear Hb
  have Hb := Hb2
  clear Hb2
  have Hp2 := Lib.hid (RdP.stepA Hp.out (.cells #[.int .i64 3, .int .i64 1, .string ⟨#[]⟩, .int .i64 1, .int .i64 1, .string ⟨#[]⟩] 28))
  clear Hp
  have Hp := Hp2
  clear Hp2
  have Hq := Lib.hid hrq
  clear hrq
  have hc := comp_rd [(2, 0, ⟨#[97, 98]⟩)] [(3, 1, emp), (1, 1, emp)] Ap (some ⟨w1.heap.size, 0, none⟩) 1 2 1 2 _ Hp.out Hq.out
  rw [show compE [(2, 0, ⟨#[97, 98]⟩)] [(3, 1, emp), (1, 1, emp)] = 0 from by decide] at hc
  rw [show compL [(2, 0, ⟨#[97, 98]⟩)] [(3, 1, emp), (1, 1, emp)] = [(2, 0, ⟨#[98]⟩)] from by decide] at hc
  refine (hc).mono ?_
  rintro e w3 ⟨Ar, cr, rfl, hrr, hb3⟩
  have hbw3 := hbw2.trans (hb3.mono hbw2.size)
  have Ha3 := Lib.hid (RdP.step Ha.out hb3)
  clear Ha
  have Ha := Ha3
  clear Ha3
  have Hb3 := Lib.hid (RdP.step Hb.out hb3)
  clear Hb
  have Hb := Hb3
  clear Hb3
  have Hp3 := Lib.hid (RdP.step Hp.out hb3)
  clear Hp
  have Hp := Hp3
  clear Hp3
  have Hq3 := Lib.hid (RdP.step Hq.out hb3)
  clear Hq
  have Hq := Hq3
  clear Hq3
  clear hb3
  clear hc
  have Hr := Lib.hid hrr
  clear hrr
  go_wp2_with fail
  clear Hp
  clear Hq
  have hc := put_any ⟨#[98]⟩ (by decide) w3
  refine (hc).mono ?_
  rintro e w4 ⟨Ap2, rfl, hrp2, hb4⟩
  have hbw4 := hbw3.trans (hb4.mono hbw3.size)
  have Ha4 := Lib.hid (RdP.step Ha.out hb4)
  clear Ha
  have Ha := Ha4
  clear Ha4
  have Hb4 := Lib.hid (RdP.step Hb.out hb4)
  clear Hb
  have Hb := Hb4
  clear Hb4
  have Hr4 := Lib.hid (RdP.step Hr.out hb4)
  clear Hr
  have Hr := Hr4
  clear Hr4
  clear hb4
  clear hc
  have Hp2 := Lib.hid hrp2
  clear hrp2
  go_wp2_with fail
  refine (same_true [(2, 0, ⟨#[98]⟩)] [(2, 0, ⟨#[98]⟩)] Ar Ap2 _ _ cr 1 _ _ _ Hr.out Hp2.out rfl).mono ?_
  rintro e w5 ⟨rfl, hb5⟩
  have hbw5 := hbw4.trans (hb5.mono hbw4.size)
  have Ha5 := Lib.hid (RdP.step Ha.out hb5)
  clear Ha
  have Ha := Ha5
  clear Ha5
  have Hb5 := Lib.hid (RdP.step Hb.out hb5)
  clear Hb
  have Hb := Hb5
  clear Hb5
  have Hr5 := Lib.hid (RdP.step Hr.out hb5)
  clear Hr
  have Hr := Hr5
  clear Hr5
  have Hp25 := Lib.hid (RdP.step Hp2.out hb5)
  clear Hp2
  have Hp2 := Hp25
  clear Hp25
  clear hb5
  go_wp2_with fail
  clear Hr
  clear Hp2
  have hc := do_any a A n k _ s _ Ha.out (Nat.le_refl _) (by omega)
  rw [do_err H1.out] at hc
  refine (hc).mono ?_
  rintro e w6 ⟨rfl, hb6⟩
  have hbw6 := hbw5.trans (hb6.mono hbw5.size)
  have Ha6 := Lib.hid (RdP.step Ha.out hb6)
  clear Ha
  have Ha := Ha6
  clear Ha6
  have Hb6 := Lib.hid (RdP.step Hb.out hb6)
  clear Hb
  have Hb := Hb6
  clear Hb6
  clear hb6
  clear hc
  go_wp2_with fail
  have hc := do_any b A' n' k' _ ⟨#[]⟩ _ Hb.out (Nat.le_refl _) (by decide)
  refine (hc).mono ?_
  rintro e w7 ⟨rfl, hb7⟩
  have hbw7 := hbw6.trans (hb7.mono hbw6.size)
  have Ha7 := Lib.hid (RdP.step Ha.out hb7)
  clear Ha
  have Ha := Ha7
  clear Ha7
  have Hb7 := Lib.hid (RdP.step Hb.out hb7)
  clear Hb
  have Hb := Hb7
  clear Hb7
  clear hb7
  clear hc
  go_wp2_with fail
  have hc := comp_rd a b A A' n n' k k' _ Ha.out Hb.out
  refine (hc).mono ?_
  rintro e w8 ⟨Ad, cd, rfl, hrd, hb8⟩
  have hbw8 := hbw7.trans (hb8.mono hbw7.size)
  have Ha8 := Lib.hid (RdP.step Ha.out hb8)
  clear Ha
  have Ha := Ha8
  clear Ha8
  have Hb8 := Lib.hid (RdP.step Hb.out hb8)
  clear Hb
  have Hb := Hb8
  clear Hb8
  clear hb8
  clear hc
  have Hd := Lib.hid hrd
  clear hrd
  go_wp2_with fail
  go_ret
  exact ⟨rfl, hbw8⟩
theorem compDoes_e2 (a b : List Pt) (A A' : Option Addr) (n n' k k' : Nat) (s : ByteArray) (hs : s.size ≤ 140737488351232) (w : World) (ha : RdP w w.heap.size A n k a) (hb : RdP w w.heap.size A' n' k' b) (h1 : doE a s = 0) (h2 : doE b (doS a s) ≠ 0) :
    Calls Try.prog 10 #[.slice A n k, .slice A' n' k', .string s] w fun e w' => e = .returned (.bool true) ∧ Below w.heap.size w w' := by
  have hbw0 : Below w.heap.size w w := Below.refl _ _
  have Ha := Lib.hid ha
  clear ha
  have Hb := Lib.hid hb
  clear hb
  have H1 := Lib.hid h1
  clear h1
  have hne : (doE b (doS a s) != 0) = true := by simpa using h2
  have H2 := Lib.hid h2
  clear h2
  go_enter Try.func10, Try.ntmps10
  go_wp2_with fail
  have hc := put_any ⟨#[97, 98]⟩ (by decide) w
  refine (hc).mono ?_
  rintro e w1 ⟨Ap, rfl, hrp, hb1⟩
  have hbw1 := hbw0.trans (hb1.mono hbw0.size)
  have Ha1 := Lib.hid (RdP.step Ha.out hb1)
  clear Ha
  have Ha := Ha1
  clear Ha1
  have Hb1 := Lib.hid (RdP.step Hb.out hb1)
  clear Hb
  have Hb := Hb1
  clear Hb1
  clear hb1
  clear hc
  have Hp := Lib.hid hrp
  clear hrp
  go_wp2_with fail
  have hrq := RdP.builtS w1 #[.int .i64 3, .int .i64 1, .string ⟨#[]⟩, .int .i64 1, .int .i64 1, .string ⟨#[]⟩] [(3, 1, emp), (1, 1, emp)] 2 rfl rfl (by decide) (by decide)
  have hbw2 := hbw1.alloc hbw1.size (.cells #[.int .i64 3, .int .i64 1, .string ⟨#[]⟩, .int .i64 1, .int .i64 1, .string ⟨#[]⟩] 28)
  have Ha2 := Lib.hid (RdP.stepA Ha.out (.cells #[.int .i64 3, .int .i64 1, .string ⟨#[]⟩, .int .i64 1, .int .i64 1, .string ⟨#[]⟩] 28))
  clear Ha
  have Ha := Ha2
  clear Ha2
  have Hb2 := Lib.hid (RdP.stepA Hb.out (.cells #[.int .i64 3, .int .i64 1, .string ⟨#[]⟩, .int .i64 1, .int .i64 1, .string ⟨#[]⟩] 28))
  clear Hb
  have Hb := Hb2
  clear Hb2
  have Hp2 := Lib.hid (RdP.stepA Hp.out (.cells #[.int .i64 3, .int .i64 1, .string ⟨#[]⟩, .int .i64 1, .int .i64 1, .string ⟨#[]⟩] 28))
  clear Hp
  have Hp := Hp2
  clear Hp2
  have Hq := Lib.hid hrq
  clear hrq
  have hc := comp_rd [(2, 0, ⟨#[97, 98]⟩)] [(3, 1, emp), (1, 1, emp)] Ap (some ⟨w1.heap.size, 0, none⟩) 1 2 1 2 _ Hp.out Hq.out
  rw [show compE [(2, 0, ⟨#[97, 98]⟩)] [(3, 1, emp), (1, 1, emp)] = 0 from by decide] at hc
  rw [show compL [(2, 0, ⟨#[97, 98]⟩)] [(3, 1, emp), (1, 1, emp)] = [(2, 0, ⟨#[98]⟩)] from by decide] at hc
  refine (hc).mono ?_
  rintro e w3 ⟨Ar, cr, rfl, hrr, hb3⟩
  have hbw3 := hbw2.trans (hb3.mono hbw2.size)
  have Ha3 := Lib.hid (RdP.step Ha.out hb3)
  clear Ha
  have Ha := Ha3
  clear Ha3
  have Hb3 := Lib.hid (RdP.step Hb.out hb3)
  clear Hb
  have Hb := Hb3
  clear Hb3
  have Hp3 := Lib.hid (RdP.step Hp.out hb3)
  clear Hp
  have Hp := Hp3
  clear Hp3
  have Hq3 := Lib.hid (RdP.step Hq.out hb3)
  clear Hq
  have Hq := Hq3
  clear Hq3
  clear hb3
  clear hc
  have Hr := Lib.hid hrr
  clear hrr
  go_wp2_with fail
  clear Hp
  clear Hq
  have hc := put_any ⟨#[98]⟩ (by decide) w3
  refine (hc).mono ?_
  rintro e w4 ⟨Ap2, rfl, hrp2, hb4⟩
  have hbw4 := hbw3.trans (hb4.mono hbw3.size)
  have Ha4 := Lib.hid (RdP.step Ha.out hb4)
  clear Ha
  have Ha := Ha4
  clear Ha4
  have Hb4 := Lib.hid (RdP.step Hb.out hb4)
  clear Hb
  have Hb := Hb4
  clear Hb4
  have Hr4 := Lib.hid (RdP.step Hr.out hb4)
  clear Hr
  have Hr := Hr4
  clear Hr4
  clear hb4
  clear hc
  have Hp2 := Lib.hid hrp2
  clear hrp2
  go_wp2_with fail
  refine (same_true [(2, 0, ⟨#[98]⟩)] [(2, 0, ⟨#[98]⟩)] Ar Ap2 _ _ cr 1 _ _ _ Hr.out Hp2.out rfl).mono ?_
  rintro e w5 ⟨rfl, hb5⟩
  have hbw5 := hbw4.trans (hb5.mono hbw4.size)
  have Ha5 := Lib.hid (RdP.step Ha.out hb5)
  clear Ha
  have Ha := Ha5
  clear Ha5
  have Hb5 := Lib.hid (RdP.step Hb.out hb5)
  clear Hb
  have Hb := Hb5
  clear Hb5
  have Hr5 := Lib.hid (RdP.step Hr.out hb5)
  clear Hr
  have Hr := Hr5
  clear Hr5
  have Hp25 := Lib.hid (RdP.step Hp2.out hb5)
  clear Hp2
  have Hp2 := Hp25
  clear Hp25
  clear hb5
  go_wp2_with fail
  clear Hr
  clear Hp2
  have hc := do_any a A n k _ s _ Ha.out (Nat.le_refl _) (by omega)
  rw [H1.out] at hc
  refine (hc).mono ?_
  rintro e w6 ⟨rfl, hb6⟩
  have hbw6 := hbw5.trans (hb6.mono hbw5.size)
  have Ha6 := Lib.hid (RdP.step Ha.out hb6)
  clear Ha
  have Ha := Ha6
  clear Ha6
  have Hb6 := Lib.hid (RdP.step Hb.out hb6)
  clear Hb
  have Hb := Hb6
  clear Hb6
  clear hb6
  clear hc
  go_wp2_with fail
  have hc := do_any b A' n' k' _ (doS a s) _ Hb.out (Nat.le_refl _) (by have := do_size_any a s; omega)
  refine (hc).mono ?_
  rintro e w7 ⟨rfl, hb7⟩
  have hbw7 := hbw6.trans (hb7.mono hbw6.size)
  have Ha7 := Lib.hid (RdP.step Ha.out hb7)
  clear Ha
  have Ha := Ha7
  clear Ha7
  have Hb7 := Lib.hid (RdP.step Hb.out hb7)
  clear Hb
  have Hb := Hb7
  clear Hb7
  clear hb7
  clear hc
  go_wp2_with fail
  have hc := comp_rd a b A A' n n' k k' _ Ha.out Hb.out
  refine (hc).mono ?_
  rintro e w8 ⟨Ad, cd, rfl, hrd, hb8⟩
  have hbw8 := hbw7.trans (hb8.mono hbw7.size)
  have Ha8 := Lib.hid (RdP.step Ha.out hb8)
  clear Ha
  have Ha := Ha8
  clear Ha8
  have Hb8 := Lib.hid (RdP.step Hb.out hb8)
  clear Hb
  have Hb := Hb8
  clear Hb8
  clear hb8
  clear hc
  have Hd := Lib.hid hrd
  clear hrd
  go_wp2_with fail
  go_ret
  exact ⟨rfl, hbw8⟩
theorem compDoes_ok (a b : List Pt) (A A' : Option Addr) (n n' k k' : Nat) (s : ByteArray) (hs : s.size ≤ 140737488351232) (w : World) (ha : RdP w w.heap.size A n k a) (hb : RdP w w.heap.size A' n' k' b) (h1 : doE a s = 0) (h2 : doE b (doS a s) = 0) :
    Calls Try.prog 10 #[.slice A n k, .slice A' n' k', .string s] w fun e w' => e = .returned (.bool true) ∧ Below w.heap.size w w' := by
  have hbw0 : Below w.heap.size w w := Below.refl _ _
  have Ha := Lib.hid ha
  clear ha
  have Hb := Lib.hid hb
  clear hb
  have H1 := Lib.hid h1
  clear h1
  have H2 := Lib.hid h2
  clear h2
  go_enter Try.func10, Try.ntmps10
  go_wp2_with fail
  have hc := put_any ⟨#[97, 98]⟩ (by decide) w
  refine (hc).mono ?_
  rintro e w1 ⟨Ap, rfl, hrp, hb1⟩
  have hbw1 := hbw0.trans (hb1.mono hbw0.size)
  have Ha1 := Lib.hid (RdP.step Ha.out hb1)
  clear Ha
  have Ha := Ha1
  clear Ha1
  have Hb1 := Lib.hid (RdP.step Hb.out hb1)
  clear Hb
  have Hb := Hb1
  clear Hb1
  clear hb1
  clear hc
  have Hp := Lib.hid hrp
  clear hrp
  go_wp2_with fail
  have hrq := RdP.builtS w1 #[.int .i64 3, .int .i64 1, .string ⟨#[]⟩, .int .i64 1, .int .i64 1, .string ⟨#[]⟩] [(3, 1, emp), (1, 1, emp)] 2 rfl rfl (by decide) (by decide)
  have hbw2 := hbw1.alloc hbw1.size (.cells #[.int .i64 3, .int .i64 1, .string ⟨#[]⟩, .int .i64 1, .int .i64 1, .string ⟨#[]⟩] 28)
  have Ha2 := Lib.hid (RdP.stepA Ha.out (.cells #[.int .i64 3, .int .i64 1, .string ⟨#[]⟩, .int .i64 1, .int .i64 1, .string ⟨#[]⟩] 28))
  clear Ha
  have Ha := Ha2
  clear Ha2
  have Hb2 := Lib.hid (RdP.stepA Hb.out (.cells #[.int .i64 3, .int .i64 1, .string ⟨#[]⟩, .int .i64 1, .int .i64 1, .string ⟨#[]⟩] 28))
  clear Hb
  have Hb := Hb2
  clear Hb2
  have Hp2 := Lib.hid (RdP.stepA Hp.out (.cells #[.int .i64 3, .int .i64 1, .string ⟨#[]⟩, .int .i64 1, .int .i64 1, .string ⟨#[]⟩] 28))
  clear Hp
  have Hp := Hp2
  clear Hp2
  have Hq := Lib.hid hrq
  clear hrq
  have hc := comp_rd [(2, 0, ⟨#[97, 98]⟩)] [(3, 1, emp), (1, 1, emp)] Ap (some ⟨w1.heap.size, 0, none⟩) 1 2 1 2 _ Hp.out Hq.out
  rw [show compE [(2, 0, ⟨#[97, 98]⟩)] [(3, 1, emp), (1, 1, emp)] = 0 from by decide] at hc
  rw [show compL [(2, 0, ⟨#[97, 98]⟩)] [(3, 1, emp), (1, 1, emp)] = [(2, 0, ⟨#[98]⟩)] from by decide] at hc
  refine (hc).mono ?_
  rintro e w3 ⟨Ar, cr, rfl, hrr, hb3⟩
  have hbw3 := hbw2.trans (hb3.mono hbw2.size)
  have Ha3 := Lib.hid (RdP.step Ha.out hb3)
  clear Ha
  have Ha := Ha3
  clear Ha3
  have Hb3 := Lib.hid (RdP.step Hb.out hb3)
  clear Hb
  have Hb := Hb3
  clear Hb3
  have Hp3 := Lib.hid (RdP.step Hp.out hb3)
  clear Hp
  have Hp := Hp3
  clear Hp3
  have Hq3 := Lib.hid (RdP.step Hq.out hb3)
  clear Hq
  have Hq := Hq3
  clear Hq3
  clear hb3
  clear hc
  have Hr := Lib.hid hrr
  clear hrr
  go_wp2_with fail
  clear Hp
  clear Hq
  have hc := put_any ⟨#[98]⟩ (by decide) w3
  refine (hc).mono ?_
  rintro e w4 ⟨Ap2, rfl, hrp2, hb4⟩
  have hbw4 := hbw3.trans (hb4.mono hbw3.size)
  have Ha4 := Lib.hid (RdP.step Ha.out hb4)
  clear Ha
  have Ha := Ha4
  clear Ha4
  have Hb4 := Lib.hid (RdP.step Hb.out hb4)
  clear Hb
  have Hb := Hb4
  clear Hb4
  have Hr4 := Lib.hid (RdP.step Hr.out hb4)
  clear Hr
  have Hr := Hr4
  clear Hr4
  clear hb4
  clear hc
  have Hp2 := Lib.hid hrp2
  clear hrp2
  go_wp2_with fail
  refine (same_true [(2, 0, ⟨#[98]⟩)] [(2, 0, ⟨#[98]⟩)] Ar Ap2 _ _ cr 1 _ _ _ Hr.out Hp2.out rfl).mono ?_
  rintro e w5 ⟨rfl, hb5⟩
  have hbw5 := hbw4.trans (hb5.mono hbw4.size)
  have Ha5 := Lib.hid (RdP.step Ha.out hb5)
  clear Ha
  have Ha := Ha5
  clear Ha5
  have Hb5 := Lib.hid (RdP.step Hb.out hb5)
  clear Hb
  have Hb := Hb5
  clear Hb5
  have Hr5 := Lib.hid (RdP.step Hr.out hb5)
  clear Hr
  have Hr := Hr5
  clear Hr5
  have Hp25 := Lib.hid (RdP.step Hp2.out hb5)
  clear Hp2
  have Hp2 := Hp25
  clear Hp25
  clear hb5
  go_wp2_with fail
  clear Hr
  clear Hp2
  have HJ := Lib.hid (comp_do H1.out H2.out)
  have hc := do_any a A n k _ s _ Ha.out (Nat.le_refl _) (by omega)
  rw [H1.out] at hc
  refine (hc).mono ?_
  rintro e w6 ⟨rfl, hb6⟩
  have hbw6 := hbw5.trans (hb6.mono hbw5.size)
  have Ha6 := Lib.hid (RdP.step Ha.out hb6)
  clear Ha
  have Ha := Ha6
  clear Ha6
  have Hb6 := Lib.hid (RdP.step Hb.out hb6)
  clear Hb
  have Hb := Hb6
  clear Hb6
  clear hb6
  clear hc
  go_wp2_with fail
  have hc := do_any b A' n' k' _ (doS a s) _ Hb.out (Nat.le_refl _) (by have := do_size_any a s; omega)
  rw [H2.out] at hc
  refine (hc).mono ?_
  rintro e w7 ⟨rfl, hb7⟩
  have hbw7 := hbw6.trans (hb7.mono hbw6.size)
  have Ha7 := Lib.hid (RdP.step Ha.out hb7)
  clear Ha
  have Ha := Ha7
  clear Ha7
  have Hb7 := Lib.hid (RdP.step Hb.out hb7)
  clear Hb
  have Hb := Hb7
  clear Hb7
  clear hb7
  clear hc
  go_wp2_with fail
  have hc := comp_rd a b A A' n n' k k' _ Ha.out Hb.out
  rw [HJ.out.1] at hc
  refine (hc).mono ?_
  rintro e w8 ⟨Ad, cd, rfl, hrd, hb8⟩
  have hbw8 := hbw7.trans (hb8.mono hbw7.size)
  have Ha8 := Lib.hid (RdP.step Ha.out hb8)
  clear Ha
  have Ha := Ha8
  clear Ha8
  have Hb8 := Lib.hid (RdP.step Hb.out hb8)
  clear Hb
  have Hb := Hb8
  clear Hb8
  clear hb8
  clear hc
  have Hd := Lib.hid hrd
  clear hrd
  go_wp2_with fail
  have hc := do_any (compL a b) Ad ((compL a b).length) cd _ s _ Hd.out (Nat.le_refl _) (by omega)
  rw [HJ.out.2.1] at hc
  rw [HJ.out.2.2] at hc
  refine (hc).mono ?_
  rintro e w9 ⟨rfl, hb9⟩
  have hbw9 := hbw8.trans (hb9.mono hbw8.size)
  have Ha9 := Lib.hid (RdP.step Ha.out hb9)
  clear Ha
  have Ha := Ha9
  clear Ha9
  have Hb9 := Lib.hid (RdP.step Hb.out hb9)
  clear Hb
  have Hb := Hb9
  clear Hb9
  have Hd9 := Lib.hid (RdP.step Hd.out hb9)
  clear Hd
  have Hd := Hd9
  clear Hd9
  clear hb9
  clear hc
  go_wp2_with fail
  go_ret
  exact ⟨rfl, hbw9⟩
theorem walk_CompDoes (v : Value) (a : List Pt) (v' : Value) (b : List Pt) (s : ByteArray) (hs : s.size ≤ 140737488351232) (w : World) (ha : IsParts w v a) (hb : IsParts w v' b) :
    Calls Try.prog 10 #[v, v', .string s] w fun e w' => e = .returned (.bool true) ∧ Below w.heap.size w w' := by
  obtain ⟨A, n, k, rfl, ha⟩ := ha
  obtain ⟨A', n', k', rfl, hb⟩ := hb
  by_cases h1 : doE a s = 0
  · by_cases h2 : doE b (doS a s) = 0
    · exact compDoes_ok a b A A' n n' k k' s hs w ha hb h1 h2
    · exact compDoes_e2 a b A A' n n' k k' s hs w ha hb h1 h2
  · exact compDoes_e1 a b A A' n n' k k' s hs w ha hb h1
end Go.Proofs.Ytgocddkoancdiaa
