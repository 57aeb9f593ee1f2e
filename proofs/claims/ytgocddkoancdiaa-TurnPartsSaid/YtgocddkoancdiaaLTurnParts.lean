/- TurnParts: the walk. Two as one, turned, are the second turned, and then the first. -/
import Derived.Test.YtgocddkoancdiaaComp
import Derived.Test.YtgocddkoancdiaaTurn
import Derived.Test.YtgocddkoancdiaaSame
import Derived.Test.YtgocddkoancdiaaOpenParts
namespace Go.Proofs.Ytgocddkoancdiaa
open Go.ChangeShapes Go.WideShapes Go.RowKit
set_option linter.unusedVariables false
set_option linter.unusedSimpArgs false
set_option maxRecDepth 100000
set_option maxHeartbeats 4000000


theorem turnParts_e1 (a b : List Pt) (A A' : Option Addr) (n n' k k' : Nat) (s : ByteArray) (hs : s.size ≤ 140737488351232) (w : World) (ha : RdP w w.heap.size A n k a) (hb : RdP w w.heap.size A' n' k' b) (h1 : doE a s ≠ 0) :
    Calls Try.prog 13 #[.slice A n k, .slice A' n' k', .string s] w fun e w' => e = .returned (.bool true) ∧ Below w.heap.size w w' := by
  have hbw0 : Below w.heap.size w w := Below.refl _ _
  have Ha := Lib.hid ha
  clear ha
  have Hb := Lib.hid hb
  clear hb
  have hne : (doE a s != 0) = true := by simpa using h1
  have H1 := Lib.hid h1
  clear h1
  go_enter Try.func13, Try.ntmps13
  go_wp2_with fail
  have hc := put_any ⟨#[97]⟩ (by decide) w
  refine (hc).mono ?_
  rintro e w1 ⟨Ap, rfl, hrp, hb1⟩
  have hbw1 := hbw0.trans (hb1.mono hbw0.size)
  have Ha1 := Lib.hid (RdP.step Ha.out hb1)
  clear Ha
  have Ha := Ha1
  clear Ha1
  have Hb1 := Lib.hid (RdP.step Hb.out hb1)
  clear Hb
  have Hb := Hb1
  clear Hb1
  clear hb1
  clear hc
  have Hp := Lib.hid hrp
  clear hrp
  go_wp2_with fail
  have hc := turn_rd [(2, 0, ⟨#[97]⟩)] Ap 1 1 _ ⟨#[]⟩ _ Hp.out (Nat.le_refl _) (by decide)
  rw [show doE [(2, 0, ⟨#[97]⟩)] ⟨#[]⟩ = 0 from by decide] at hc
  rw [show turnL [(2, 0, ⟨#[97]⟩)] ⟨#[]⟩ = [(3, 1, emp)] from by decide] at hc
  refine (hc).mono ?_
  rintro e w2 ⟨Ar, cr, rfl, hrr, hb2⟩
  have hbw2 := hbw1.trans (hb2.mono hbw1.size)
  have Ha2 := Lib.hid (RdP.step Ha.out hb2)
  clear Ha
  have Ha := Ha2
  clear Ha2
  have Hb2 := Lib.hid (RdP.step Hb.out hb2)
  clear Hb
  have Hb := Hb2
  clear Hb2
  have Hp2 := Lib.hid (RdP.step Hp.out hb2)
  clear Hp
  have Hp := Hp2
  clear Hp2
  clear hb2
  clear hc
  have Hr := Lib.hid hrr
  clear hrr
  go_wp2_with fail
  clear Hp
  have hrq := RdP.builtS w2 #[.int .i64 3, .int .i64 1, .string ⟨#[]⟩] [(3, 1, emp)] 1 rfl rfl (by decide) (by decide)
  have hbw3 := hbw2.alloc hbw2.size (.cells #[.int .i64 3, .int .i64 1, .string ⟨#[]⟩] 28)
  have Ha3 := Lib.hid (RdP.stepA Ha.out (.cells #[.int .i64 3, .int .i64 1, .string ⟨#[]⟩] 28))
  clear Ha
  have Ha := Ha3
  clear Ha3
  have Hb3 := Lib.hid (RdP.stepA Hb.out (.cells #[.int .i64 3, .int .i64 1, .string ⟨#[]⟩] 28))
  clear Hb
  have Hb := Hb3
  clear Hb3
  have Hr3 := Lib.hid (RdP.stepA Hr.out (.cells #[.int .i64 3, .int .i64 1, .string ⟨#[]⟩] 28))
  clear Hr
  have Hr := Hr3
  clear Hr3
  have Hq := Lib.hid hrq
  clear hrq
  refine (same_true [(3, 1, emp)] [(3, 1, emp)] Ar (some ⟨w2.heap.size, 0, none⟩) _ _ cr 1 _ _ _ Hr.out Hq.out rfl).mono ?_
  rintro e w4 ⟨rfl, hb4⟩
  have hbw4 := hbw3.trans (hb4.mono hbw3.size)
  have Ha4 := Lib.hid (RdP.step Ha.out hb4)
  clear Ha
  have Ha := Ha4
  clear Ha4
  have Hb4 := Lib.hid (RdP.step Hb.out hb4)
  clear Hb
  have Hb := Hb4
  clear Hb4
  have Hr4 := Lib.hid (RdP.step Hr.out hb4)
  clear Hr
  have Hr := Hr4
  clear Hr4
  have Hq4 := Lib.hid (RdP.step Hq.out hb4)
  clear Hq
  have Hq := Hq4
  clear Hq4
  clear hb4
  go_wp2_with fail
  clear Hr
  clear Hq
  have hc := do_any a A n k _ s _ Ha.out (Nat.le_refl _) (by omega)
  rw [do_err H1.out] at hc
  refine (hc).mono ?_
  rintro e w5 ⟨rfl, hb5⟩
  have hbw5 := hbw4.trans (hb5.mono hbw4.size)
  have Ha5 := Lib.hid (RdP.step Ha.out hb5)
  clear Ha
  have Ha := Ha5
  clear Ha5
  have Hb5 := Lib.hid (RdP.step Hb.out hb5)
  clear Hb
  have Hb := Hb5
  clear Hb5
  clear hb5
  clear hc
  go_wp2_with fail
  have hc := comp_rd a b A A' n n' k k' _ Ha.out Hb.out
  refine (hc).mono ?_
  rintro e w6 ⟨Ad, cd, rfl, hrd, hb6⟩
  have hbw6 := hbw5.trans (hb6.mono hbw5.size)
  have Ha6 := Lib.hid (RdP.step Ha.out hb6)
  clear Ha
  have Ha := Ha6
  clear Ha6
  have Hb6 := Lib.hid (RdP.step Hb.out hb6)
  clear Hb
  have Hb := Hb6
  clear Hb6
  clear hb6
  clear hc
  have Hd := Lib.hid hrd
  clear hrd
  go_wp2_with fail
  go_ret
  exact ⟨rfl, hbw6⟩
theorem turnParts_e2 (a b : List Pt) (A A' : Option Addr) (n n' k k' : Nat) (s : ByteArray) (hs : s.size ≤ 140737488351232) (w : World) (ha : RdP w w.heap.size A n k a) (hb : RdP w w.heap.size A' n' k' b) (h1 : doE a s = 0) (h2 : compE a b ≠ 0) :
    Calls Try.prog 13 #[.slice A n k, .slice A' n' k', .string s] w fun e w' => e = .returned (.bool true) ∧ Below w.heap.size w w' := by
  have hbw0 : Below w.heap.size w w := Below.refl _ _
  have Ha := Lib.hid ha
  clear ha
  have Hb := Lib.hid hb
  clear hb
  have H1 := Lib.hid h1
  clear h1
  have hne : (compE a b != 0) = true := by simpa using h2
  have H2 := Lib.hid h2
  clear h2
  go_enter Try.func13, Try.ntmps13
  go_wp2_with fail
  have hc := put_any ⟨#[97]⟩ (by decide) w
  refine (hc).mono ?_
  rintro e w1 ⟨Ap, rfl, hrp, hb1⟩
  have hbw1 := hbw0.trans (hb1.mono hbw0.size)
  have Ha1 := Lib.hid (RdP.step Ha.out hb1)
  clear Ha
  have Ha := Ha1
  clear Ha1
  have Hb1 := Lib.hid (RdP.step Hb.out hb1)
  clear Hb
  have Hb := Hb1
  clear Hb1
  clear hb1
  clear hc
  have Hp := Lib.hid hrp
  clear hrp
  go_wp2_with fail
  have hc := turn_rd [(2, 0, ⟨#[97]⟩)] Ap 1 1 _ ⟨#[]⟩ _ Hp.out (Nat.le_refl _) (by decide)
  rw [show doE [(2, 0, ⟨#[97]⟩)] ⟨#[]⟩ = 0 from by decide] at hc
  rw [show turnL [(2, 0, ⟨#[97]⟩)] ⟨#[]⟩ = [(3, 1, emp)] from by decide] at hc
  refine (hc).mono ?_
  rintro e w2 ⟨Ar, cr, rfl, hrr, hb2⟩
  have hbw2 := hbw1.trans (hb2.mono hbw1.size)
  have Ha2 := Lib.hid (RdP.step Ha.out hb2)
  clear Ha
  have Ha := Ha2
  clear Ha2
  have Hb2 := Lib.hid (RdP.step Hb.out hb2)
  clear Hb
  have Hb := Hb2
  clear Hb2
  have Hp2 := Lib.hid (RdP.step Hp.out hb2)
  clear Hp
  have Hp := Hp2
  clear Hp2
  clear hb2
  clear hc
  have Hr := Lib.hid hrr
  clear hrr
  go_wp2_with fail
  clear Hp
  have hrq := RdP.builtS w2 #[.int .i64 3, .int .i64 1, .string ⟨#[]⟩] [(3, 1, emp)] 1 rfl rfl (by decide) (by decide)
  have hbw3 := hbw2.alloc hbw2.size (.cells #[.int .i64 3, .int .i64 1, .string ⟨#[]⟩] 28)
  have Ha3 := Lib.hid (RdP.stepA Ha.out (.cells #[.int .i64 3, .int .i64 1, .string ⟨#[]⟩] 28))
  clear Ha
  have Ha := Ha3
  clear Ha3
  have Hb3 := Lib.hid (RdP.stepA Hb.out (.cells #[.int .i64 3, .int .i64 1, .string ⟨#[]⟩] 28))
  clear Hb
  have Hb := Hb3
  clear Hb3
  have Hr3 := Lib.hid (RdP.stepA Hr.out (.cells #[.int .i64 3, .int .i64 1, .string ⟨#[]⟩] 28))
  clear Hr
  have Hr := Hr3
  clear Hr3
  have Hq := Lib.hid hrq
  clear hrq
  refine (same_true [(3, 1, emp)] [(3, 1, emp)] Ar (some ⟨w2.heap.size, 0, none⟩) _ _ cr 1 _ _ _ Hr.out Hq.out rfl).mono ?_
  rintro e w4 ⟨rfl, hb4⟩
  have hbw4 := hbw3.trans (hb4.mono hbw3.size)
  have Ha4 := Lib.hid (RdP.step Ha.out hb4)
  clear Ha
  have Ha := Ha4
  clear Ha4
  have Hb4 := Lib.hid (RdP.step Hb.out hb4)
  clear Hb
  have Hb := Hb4
  clear Hb4
  have Hr4 := Lib.hid (RdP.step Hr.out hb4)
  clear Hr
  have Hr := Hr4
  clear Hr4
  have Hq4 := Lib.hid (RdP.step Hq.out hb4)
  clear Hq
  have Hq := Hq4
  clear Hq4
  clear hb4
  go_wp2_with fail
  clear Hr
  clear Hq
  have hc := do_any a A n k _ s _ Ha.out (Nat.le_refl _) (by omega)
  rw [H1.out] at hc
  refine (hc).mono ?_
  rintro e w5 ⟨rfl, hb5⟩
  have hbw5 := hbw4.trans (hb5.mono hbw4.size)
  have Ha5 := Lib.hid (RdP.step Ha.out hb5)
  clear Ha
  have Ha := Ha5
  clear Ha5
  have Hb5 := Lib.hid (RdP.step Hb.out hb5)
  clear Hb
  have Hb := Hb5
  clear Hb5
  clear hb5
  clear hc
  go_wp2_with fail
  have hc := comp_rd a b A A' n n' k k' _ Ha.out Hb.out
  rw [comp_err H2.out] at hc
  refine (hc).mono ?_
  rintro e w6 ⟨Ad, cd, rfl, hrd, hb6⟩
  have hbw6 := hbw5.trans (hb6.mono hbw5.size)
  have Ha6 := Lib.hid (RdP.step Ha.out hb6)
  clear Ha
  have Ha := Ha6
  clear Ha6
  have Hb6 := Lib.hid (RdP.step Hb.out hb6)
  clear Hb
  have Hb := Hb6
  clear Hb6
  clear hb6
  clear hc
  have Hd := Lib.hid hrd
  clear hrd
  go_wp2_with fail
  go_ret
  exact ⟨rfl, hbw6⟩
theorem turnParts_ok (a b : List Pt) (A A' : Option Addr) (n n' k k' : Nat) (s : ByteArray) (hs : s.size ≤ 140737488351232) (w : World) (ha : RdP w w.heap.size A n k a) (hb : RdP w w.heap.size A' n' k' b) (h1 : doE a s = 0) (h2 : compE a b = 0) :
    Calls Try.prog 13 #[.slice A n k, .slice A' n' k', .string s] w fun e w' => e = .returned (.bool true) ∧ Below w.heap.size w w' := by
  have hbw0 : Below w.heap.size w w := Below.refl _ _
  have Ha := Lib.hid ha
  clear ha
  have Hb := Lib.hid hb
  clear hb
  have H1 := Lib.hid h1
  clear h1
  have H2 := Lib.hid h2
  clear h2
  go_enter Try.func13, Try.ntmps13
  go_wp2_with fail
  have hc := put_any ⟨#[97]⟩ (by decide) w
  refine (hc).mono ?_
  rintro e w1 ⟨Ap, rfl, hrp, hb1⟩
  have hbw1 := hbw0.trans (hb1.mono hbw0.size)
  have Ha1 := Lib.hid (RdP.step Ha.out hb1)
  clear Ha
  have Ha := Ha1
  clear Ha1
  have Hb1 := Lib.hid (RdP.step Hb.out hb1)
  clear Hb
  have Hb := Hb1
  clear Hb1
  clear hb1
  clear hc
  have Hp := Lib.hid hrp
  clear hrp
  go_wp2_with fail
  have hc := turn_rd [(2, 0, ⟨#[97]⟩)] Ap 1 1 _ ⟨#[]⟩ _ Hp.out (Nat.le_refl _) (by decide)
  rw [show doE [(2, 0, ⟨#[97]⟩)] ⟨#[]⟩ = 0 from by decide] at hc
  rw [show turnL [(2, 0, ⟨#[97]⟩)] ⟨#[]⟩ = [(3, 1, emp)] from by decide] at hc
  refine (hc).mono ?_
  rintro e w2 ⟨Ar, cr, rfl, hrr, hb2⟩
  have hbw2 := hbw1.trans (hb2.mono hbw1.size)
  have Ha2 := Lib.hid (RdP.step Ha.out hb2)
  clear Ha
  have Ha := Ha2
  clear Ha2
  have Hb2 := Lib.hid (RdP.step Hb.out hb2)
  clear Hb
  have Hb := Hb2
  clear Hb2
  have Hp2 := Lib.hid (RdP.step Hp.out hb2)
  clear Hp
  have Hp := Hp2
  clear Hp2
  clear hb2
  clear hc
  have Hr := Lib.hid hrr
  clear hrr
  go_wp2_with fail
  clear Hp
  have hrq := RdP.builtS w2 #[.int .i64 3, .int .i64 1, .string ⟨#[]⟩] [(3, 1, emp)] 1 rfl rfl (by decide) (by decide)
  have hbw3 := hbw2.alloc hbw2.size (.cells #[.int .i64 3, .int .i64 1, .string ⟨#[]⟩] 28)
  have Ha3 := Lib.hid (RdP.stepA Ha.out (.cells #[.int .i64 3, .int .i64 1, .string ⟨#[]⟩] 28))
  clear Ha
  have Ha := Ha3
  clear Ha3
  have Hb3 := Lib.hid (RdP.stepA Hb.out (.cells #[.int .i64 3, .int .i64 1, .string ⟨#[]⟩] 28))
  clear Hb
  have Hb := Hb3
  clear Hb3
  have Hr3 := Lib.hid (RdP.stepA Hr.out (.cells #[.int .i64 3, .int .i64 1, .string ⟨#[]⟩] 28))
  clear Hr
  have Hr := Hr3
  clear Hr3
  have Hq := Lib.hid hrq
  clear hrq
  refine (same_true [(3, 1, emp)] [(3, 1, emp)] Ar (some ⟨w2.heap.size, 0, none⟩) _ _ cr 1 _ _ _ Hr.out Hq.out rfl).mono ?_
  rintro e w4 ⟨rfl, hb4⟩
  have hbw4 := hbw3.trans (hb4.mono hbw3.size)
  have Ha4 := Lib.hid (RdP.step Ha.out hb4)
  clear Ha
  have Ha := Ha4
  clear Ha4
  have Hb4 := Lib.hid (RdP.step Hb.out hb4)
  clear Hb
  have Hb := Hb4
  clear Hb4
  have Hr4 := Lib.hid (RdP.step Hr.out hb4)
  clear Hr
  have Hr := Hr4
  clear Hr4
  have Hq4 := Lib.hid (RdP.step Hq.out hb4)
  clear Hq
  have Hq := Hq4
  clear Hq4
  clear hb4
  go_wp2_with fail
  clear Hr
  clear Hq
  have HJ := Lib.hid (turn_comp H1.out H2.out)
  have hc := do_any a A n k _ s _ Ha.out (Nat.le_refl _) (by omega)
  rw [H1.out] at hc
  refine (hc).mono ?_
  rintro e w5 ⟨rfl, hb5⟩
  have hbw5 := hbw4.trans (hb5.mono hbw4.size)
  have Ha5 := Lib.hid (RdP.step Ha.out hb5)
  clear Ha
  have Ha := Ha5
  clear Ha5
  have Hb5 := Lib.hid (RdP.step Hb.out hb5)
  clear Hb
  have Hb := Hb5
  clear Hb5
  clear hb5
  clear hc
  go_wp2_with fail
  have hc := comp_rd a b A A' n n' k k' _ Ha.out Hb.out
  rw [H2.out] at hc
  refine (hc).mono ?_
  rintro e w6 ⟨Ad, cd, rfl, hrd, hb6⟩
  have hbw6 := hbw5.trans (hb6.mono hbw5.size)
  have Ha6 := Lib.hid (RdP.step Ha.out hb6)
  clear Ha
  have Ha := Ha6
  clear Ha6
  have Hb6 := Lib.hid (RdP.step Hb.out hb6)
  clear Hb
  have Hb := Hb6
  clear Hb6
  clear hb6
  clear hc
  have Hd := Lib.hid hrd
  clear hrd
  go_wp2_with fail
  have hc := turn_rd (compL a b) Ad ((compL a b).length) cd _ s _ Hd.out (Nat.le_refl _) (by omega)
  rw [HJ.out.1] at hc
  refine (hc).mono ?_
  rintro e w7 ⟨Ax, cx, rfl, hrx, hb7⟩
  have hbw7 := hbw6.trans (hb7.mono hbw6.size)
  have Ha7 := Lib.hid (RdP.step Ha.out hb7)
  clear Ha
  have Ha := Ha7
  clear Ha7
  have Hb7 := Lib.hid (RdP.step Hb.out hb7)
  clear Hb
  have Hb := Hb7
  clear Hb7
  have Hd7 := Lib.hid (RdP.step Hd.out hb7)
  clear Hd
  have Hd := Hd7
  clear Hd7
  clear hb7
  clear hc
  have Hx := Lib.hid hrx
  clear hrx
  go_wp2_with fail
  have hc := turn_rd a A n k _ s _ Ha.out (Nat.le_refl _) (by omega)
  rw [H1.out] at hc
  refine (hc).mono ?_
  rintro e w8 ⟨Ap, cp, rfl, hrp, hb8⟩
  have hbw8 := hbw7.trans (hb8.mono hbw7.size)
  have Ha8 := Lib.hid (RdP.step Ha.out hb8)
  clear Ha
  have Ha := Ha8
  clear Ha8
  have Hb8 := Lib.hid (RdP.step Hb.out hb8)
  clear Hb
  have Hb := Hb8
  clear Hb8
  have Hd8 := Lib.hid (RdP.step Hd.out hb8)
  clear Hd
  have Hd := Hd8
  clear Hd8
  have Hx8 := Lib.hid (RdP.step Hx.out hb8)
  clear Hx
  have Hx := Hx8
  clear Hx8
  clear hb8
  clear hc
  have Hp := Lib.hid hrp
  clear hrp
  go_wp2_with fail
  have hc := turn_rd b A' n' k' _ (doS a s) _ Hb.out (Nat.le_refl _) (by have := do_size_any a s; omega)
  rw [HJ.out.2.1] at hc
  refine (hc).mono ?_
  rintro e w9 ⟨Aq, cq, rfl, hrq, hb9⟩
  have hbw9 := hbw8.trans (hb9.mono hbw8.size)
  have Ha9 := Lib.hid (RdP.step Ha.out hb9)
  clear Ha
  have Ha := Ha9
  clear Ha9
  have Hb9 := Lib.hid (RdP.step Hb.out hb9)
  clear Hb
  have Hb := Hb9
  clear Hb9
  have Hd9 := Lib.hid (RdP.step Hd.out hb9)
  clear Hd
  have Hd := Hd9
  clear Hd9
  have Hx9 := Lib.hid (RdP.step Hx.out hb9)
  clear Hx
  have Hx := Hx9
  clear Hx9
  have Hp9 := Lib.hid (RdP.step Hp.out hb9)
  clear Hp
  have Hp := Hp9
  clear Hp9
  clear hb9
  clear hc
  have Hq := Lib.hid hrq
  clear hrq
  go_wp2_with fail
  have hc := comp_rd (turnL b (doS a s)) (turnL a s) Aq Ap ((turnL b (doS a s)).length) ((turnL a s).length) cq cp _ Hq.out Hp.out
  rw [HJ.out.2.2.1] at hc
  rw [HJ.out.2.2.2] at hc
  refine (hc).mono ?_
  rintro e w10 ⟨Ay, cy, rfl, hry, hb10⟩
  have hbw10 := hbw9.trans (hb10.mono hbw9.size)
  have Ha10 := Lib.hid (RdP.step Ha.out hb10)
  clear Ha
  have Ha := Ha10
  clear Ha10
  have Hb10 := Lib.hid (RdP.step Hb.out hb10)
  clear Hb
  have Hb := Hb10
  clear Hb10
  have Hd10 := Lib.hid (RdP.step Hd.out hb10)
  clear Hd
  have Hd := Hd10
  clear Hd10
  have Hx10 := Lib.hid (RdP.step Hx.out hb10)
  clear Hx
  have Hx := Hx10
  clear Hx10
  have Hp10 := Lib.hid (RdP.step Hp.out hb10)
  clear Hp
  have Hp := Hp10
  clear Hp10
  have Hq10 := Lib.hid (RdP.step Hq.out hb10)
  clear Hq
  have Hq := Hq10
  clear Hq10
  clear hb10
  clear hc
  have Hy := Lib.hid hry
  clear hry
  go_wp2_with fail
  refine (same_true (turnL (compL a b) s) (turnL (compL a b) s) Ax Ay _ _ cx cy _ _ _ Hx.out Hy.out rfl).mono ?_
  rintro e w11 ⟨rfl, hb11⟩
  have hbw11 := hbw10.trans (hb11.mono hbw10.size)
  have Ha11 := Lib.hid (RdP.step Ha.out hb11)
  clear Ha
  have Ha := Ha11
  clear Ha11
  have Hb11 := Lib.hid (RdP.step Hb.out hb11)
  clear Hb
  have Hb := Hb11
  clear Hb11
  have Hd11 := Lib.hid (RdP.step Hd.out hb11)
  clear Hd
  have Hd := Hd11
  clear Hd11
  have Hx11 := Lib.hid (RdP.step Hx.out hb11)
  clear Hx
  have Hx := Hx11
  clear Hx11
  have Hp11 := Lib.hid (RdP.step Hp.out hb11)
  clear Hp
  have Hp := Hp11
  clear Hp11
  have Hq11 := Lib.hid (RdP.step Hq.out hb11)
  clear Hq
  have Hq := Hq11
  clear Hq11
  have Hy11 := Lib.hid (RdP.step Hy.out hb11)
  clear Hy
  have Hy := Hy11
  clear Hy11
  clear hb11
  go_wp2_with fail
  go_ret
  exact ⟨rfl, hbw11⟩
theorem walk_TurnParts (v : Value) (a : List Pt) (v' : Value) (b : List Pt) (s : ByteArray) (hs : s.size ≤ 140737488351232) (w : World) (ha : IsParts w v a) (hb : IsParts w v' b) :
    Calls Try.prog 13 #[v, v', .string s] w fun e w' => e = .returned (.bool true) ∧ Below w.heap.size w w' := by
  obtain ⟨A, n, k, rfl, ha⟩ := ha
  obtain ⟨A', n', k', rfl, hb⟩ := hb
  by_cases h1 : doE a s = 0
  · by_cases h2 : compE a b = 0
    · exact turnParts_ok a b A A' n n' k k' s hs w ha hb h1 h2
    · exact turnParts_e2 a b A A' n n' k k' s hs w ha hb h1 h2
  · exact turnParts_e1 a b A A' n n' k k' s hs w ha hb h1
end Go.Proofs.Ytgocddkoancdiaa
