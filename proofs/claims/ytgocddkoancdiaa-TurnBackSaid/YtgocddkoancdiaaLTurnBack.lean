/- TurnBack: the walk. What is done and turned is as it was. -/
import Derived.Test.YtgocddkoancdiaaTurn
import Derived.Test.YtgocddkoancdiaaSame
import Derived.Test.YtgocddkoancdiaaOpenParts
namespace Go.Proofs.Ytgocddkoancdiaa
open Go.ChangeShapes Go.WideShapes Go.RowKit
set_option linter.unusedVariables false
set_option linter.unusedSimpArgs false
set_option maxRecDepth 100000
set_option maxHeartbeats 4000000


theorem turnBack_e1 (a : List Pt) (A : Option Addr) (n k : Nat) (s : ByteArray) (hs : s.size ≤ 140737488351232) (w : World) (ha : RdP w w.heap.size A n k a) (h1 : doE a s ≠ 0) :
    Calls Try.prog 6 #[.slice A n k, .string s] w fun e w' => e = .returned (.bool true) ∧ Below w.heap.size w w' := by
  have hbw0 : Below w.heap.size w w := Below.refl _ _
  have Ha := Lib.hid ha
  clear ha
  have hne : (doE a s != 0) = true := by simpa using h1
  have H1 := Lib.hid h1
  clear h1
  go_enter Try.func6, Try.ntmps6
  go_wp2_with fail
  have hrq := RdP.builtS w #[.int .i64 3, .int .i64 2, .string ⟨#[]⟩] [(3, 2, emp)] 1 rfl rfl (by decide) (by decide)
  have hbw1 := hbw0.alloc hbw0.size (.cells #[.int .i64 3, .int .i64 2, .string ⟨#[]⟩] 28)
  have Ha1 := Lib.hid (RdP.stepA Ha.out (.cells #[.int .i64 3, .int .i64 2, .string ⟨#[]⟩] 28))
  clear Ha
  have Ha := Ha1
  clear Ha1
  have Hq := Lib.hid hrq
  clear hrq
  have hc := turn_rd [(3, 2, emp)] (some ⟨w.heap.size, 0, none⟩) 1 1 _ (⟨#[97, 98]⟩) _ Hq.out (Nat.le_refl _) (by decide)
  rw [show doE [(3, 2, emp)] ⟨#[97, 98]⟩ = 0 from by decide] at hc
  rw [show turnL [(3, 2, emp)] ⟨#[97, 98]⟩ = [(2, 0, ⟨#[97, 98]⟩)] from by decide] at hc
  refine (hc).mono ?_
  rintro e w2 ⟨Ar, cr, rfl, hrr, hb2⟩
  have hbw2 := hbw1.trans (hb2.mono hbw1.size)
  have Ha2 := Lib.hid (RdP.step Ha.out hb2)
  clear Ha
  have Ha := Ha2
  clear Ha2
  have Hq2 := Lib.hid (RdP.step Hq.out hb2)
  clear Hq
  have Hq := Hq2
  clear Hq2
  clear hb2
  clear hc
  have Hr := Lib.hid hrr
  clear hrr
  go_wp2_with fail
  clear Hq
  have hc := put_any ⟨#[97, 98]⟩ (by decide) w2
  refine (hc).mono ?_
  rintro e w3 ⟨Ap2, rfl, hrp2, hb3⟩
  have hbw3 := hbw2.trans (hb3.mono hbw2.size)
  have Ha3 := Lib.hid (RdP.step Ha.out hb3)
  clear Ha
  have Ha := Ha3
  clear Ha3
  have Hr3 := Lib.hid (RdP.step Hr.out hb3)
  clear Hr
  have Hr := Hr3
  clear Hr3
  clear hb3
  clear hc
  have Hp2 := Lib.hid hrp2
  clear hrp2
  go_wp2_with fail
  refine (same_true [(2, 0, ⟨#[97, 98]⟩)] [(2, 0, ⟨#[97, 98]⟩)] Ar Ap2 _ _ cr 1 _ _ _ Hr.out Hp2.out rfl).mono ?_
  rintro e w4 ⟨rfl, hb4⟩
  have hbw4 := hbw3.trans (hb4.mono hbw3.size)
  have Ha4 := Lib.hid (RdP.step Ha.out hb4)
  clear Ha
  have Ha := Ha4
  clear Ha4
  have Hr4 := Lib.hid (RdP.step Hr.out hb4)
  clear Hr
  have Hr := Hr4
  clear Hr4
  have Hp24 := Lib.hid (RdP.step Hp2.out hb4)
  clear Hp2
  have Hp2 := Hp24
  clear Hp24
  clear hb4
  go_wp2_with fail
  clear Hr
  clear Hp2
  have hc := turn_rd a A n k _ s _ Ha.out (Nat.le_refl _) (by omega)
  rw [turn_err H1.out] at hc
  refine (hc).mono ?_
  rintro e w5 ⟨Ax, cx, rfl, hrx, hb5⟩
  have hbw5 := hbw4.trans (hb5.mono hbw4.size)
  have Ha5 := Lib.hid (RdP.step Ha.out hb5)
  clear Ha
  have Ha := Ha5
  clear Ha5
  clear hb5
  clear hc
  have Hx := Lib.hid hrx
  clear hrx
  go_wp2_with fail
  have hc := do_any a A n k _ s _ Ha.out (Nat.le_refl _) (by omega)
  rw [do_err H1.out] at hc
  refine (hc).mono ?_
  rintro e w6 ⟨rfl, hb6⟩
  have hbw6 := hbw5.trans (hb6.mono hbw5.size)
  have Ha6 := Lib.hid (RdP.step Ha.out hb6)
  clear Ha
  have Ha := Ha6
  clear Ha6
  have Hx6 := Lib.hid (RdP.step Hx.out hb6)
  clear Hx
  have Hx := Hx6
  clear Hx6
  clear hb6
  clear hc
  go_wp2_with fail
  go_ret
  exact ⟨rfl, hbw6⟩
theorem turnBack_ok (a : List Pt) (A : Option Addr) (n k : Nat) (s : ByteArray) (hs : s.size ≤ 140737488351232) (w : World) (ha : RdP w w.heap.size A n k a) (h1 : doE a s = 0) :
    Calls Try.prog 6 #[.slice A n k, .string s] w fun e w' => e = .returned (.bool true) ∧ Below w.heap.size w w' := by
  have hbw0 : Below w.heap.size w w := Below.refl _ _
  have Ha := Lib.hid ha
  clear ha
  have H1 := Lib.hid h1
  clear h1
  go_enter Try.func6, Try.ntmps6
  go_wp2_with fail
  have hrq := RdP.builtS w #[.int .i64 3, .int .i64 2, .string ⟨#[]⟩] [(3, 2, emp)] 1 rfl rfl (by decide) (by decide)
  have hbw1 := hbw0.alloc hbw0.size (.cells #[.int .i64 3, .int .i64 2, .string ⟨#[]⟩] 28)
  have Ha1 := Lib.hid (RdP.stepA Ha.out (.cells #[.int .i64 3, .int .i64 2, .string ⟨#[]⟩] 28))
  clear Ha
  have Ha := Ha1
  clear Ha1
  have Hq := Lib.hid hrq
  clear hrq
  have hc := turn_rd [(3, 2, emp)] (some ⟨w.heap.size, 0, none⟩) 1 1 _ (⟨#[97, 98]⟩) _ Hq.out (Nat.le_refl _) (by decide)
  rw [show doE [(3, 2, emp)] ⟨#[97, 98]⟩ = 0 from by decide] at hc
  rw [show turnL [(3, 2, emp)] ⟨#[97, 98]⟩ = [(2, 0, ⟨#[97, 98]⟩)] from by decide] at hc
  refine (hc).mono ?_
  rintro e w2 ⟨Ar, cr, rfl, hrr, hb2⟩
  have hbw2 := hbw1.trans (hb2.mono hbw1.size)
  have Ha2 := Lib.hid (RdP.step Ha.out hb2)
  clear Ha
  have Ha := Ha2
  clear Ha2
  have Hq2 := Lib.hid (RdP.step Hq.out hb2)
  clear Hq
  have Hq := Hq2
  clear Hq2
  clear hb2
  clear hc
  have Hr := Lib.hid hrr
  clear hrr
  go_wp2_with fail
  clear Hq
  have hc := put_any ⟨#[97, 98]⟩ (by decide) w2
  refine (hc).mono ?_
  rintro e w3 ⟨Ap2, rfl, hrp2, hb3⟩
  have hbw3 := hbw2.trans (hb3.mono hbw2.size)
  have Ha3 := Lib.hid (RdP.step Ha.out hb3)
  clear Ha
  have Ha := Ha3
  clear Ha3
  have Hr3 := Lib.hid (RdP.step Hr.out hb3)
  clear Hr
  have Hr := Hr3
  clear Hr3
  clear hb3
  clear hc
  have Hp2 := Lib.hid hrp2
  clear hrp2
  go_wp2_with fail
  refine (same_true [(2, 0, ⟨#[97, 98]⟩)] [(2, 0, ⟨#[97, 98]⟩)] Ar Ap2 _ _ cr 1 _ _ _ Hr.out Hp2.out rfl).mono ?_
  rintro e w4 ⟨rfl, hb4⟩
  have hbw4 := hbw3.trans (hb4.mono hbw3.size)
  have Ha4 := Lib.hid (RdP.step Ha.out hb4)
  clear Ha
  have Ha := Ha4
  clear Ha4
  have Hr4 := Lib.hid (RdP.step Hr.out hb4)
  clear Hr
  have Hr := Hr4
  clear Hr4
  have Hp24 := Lib.hid (RdP.step Hp2.out hb4)
  clear Hp2
  have Hp2 := Hp24
  clear Hp24
  clear hb4
  go_wp2_with fail
  clear Hr
  clear Hp2
  have HJ := Lib.hid (turn_do H1.out)
  have hc := turn_rd a A n k _ s _ Ha.out (Nat.le_refl _) (by omega)
  rw [H1.out] at hc
  refine (hc).mono ?_
  rintro e w5 ⟨Ax, cx, rfl, hrx, hb5⟩
  have hbw5 := hbw4.trans (hb5.mono hbw4.size)
  have Ha5 := Lib.hid (RdP.step Ha.out hb5)
  clear Ha
  have Ha := Ha5
  clear Ha5
  clear hb5
  clear hc
  have Hx := Lib.hid hrx
  clear hrx
  go_wp2_with fail
  have hc := do_any a A n k _ s _ Ha.out (Nat.le_refl _) (by omega)
  rw [H1.out] at hc
  refine (hc).mono ?_
  rintro e w6 ⟨rfl, hb6⟩
  have hbw6 := hbw5.trans (hb6.mono hbw5.size)
  have Ha6 := Lib.hid (RdP.step Ha.out hb6)
  clear Ha
  have Ha := Ha6
  clear Ha6
  have Hx6 := Lib.hid (RdP.step Hx.out hb6)
  clear Hx
  have Hx := Hx6
  clear Hx6
  clear hb6
  clear hc
  go_wp2_with fail
  have hc := do_any (turnL a s) Ax ((turnL a s).length) cx _ (doS a s) _ Hx.out (Nat.le_refl _) (by have := do_size_any a s; omega)
  rw [HJ.out.1] at hc
  rw [HJ.out.2.1] at hc
  refine (hc).mono ?_
  rintro e w7 ⟨rfl, hb7⟩
  have hbw7 := hbw6.trans (hb7.mono hbw6.size)
  have Ha7 := Lib.hid (RdP.step Ha.out hb7)
  clear Ha
  have Ha := Ha7
  clear Ha7
  have Hx7 := Lib.hid (RdP.step Hx.out hb7)
  clear Hx
  have Hx := Hx7
  clear Hx7
  clear hb7
  clear hc
  go_wp2_with fail
  have hc := turn_rd (turnL a s) Ax ((turnL a s).length) cx _ (doS a s) _ Hx.out (Nat.le_refl _) (by have := do_size_any a s; omega)
  rw [HJ.out.1] at hc
  rw [HJ.out.2.2] at hc
  refine (hc).mono ?_
  rintro e w8 ⟨Ay, cy, rfl, hry, hb8⟩
  have hbw8 := hbw7.trans (hb8.mono hbw7.size)
  have Ha8 := Lib.hid (RdP.step Ha.out hb8)
  clear Ha
  have Ha := Ha8
  clear Ha8
  have Hx8 := Lib.hid (RdP.step Hx.out hb8)
  clear Hx
  have Hx := Hx8
  clear Hx8
  clear hb8
  clear hc
  have Hy := Lib.hid hry
  clear hry
  go_wp2_with fail
  refine (same_true a a Ay A _ _ cy k _ _ _ Hy.out Ha.out rfl).mono ?_
  rintro e w9 ⟨rfl, hb9⟩
  have hbw9 := hbw8.trans (hb9.mono hbw8.size)
  have Ha9 := Lib.hid (RdP.step Ha.out hb9)
  clear Ha
  have Ha := Ha9
  clear Ha9
  have Hx9 := Lib.hid (RdP.step Hx.out hb9)
  clear Hx
  have Hx := Hx9
  clear Hx9
  have Hy9 := Lib.hid (RdP.step Hy.out hb9)
  clear Hy
  have Hy := Hy9
  clear Hy9
  clear hb9
  go_wp2_with fail
  go_ret
  exact ⟨rfl, hbw9⟩
theorem walk_TurnBack (v : Value) (a : List Pt) (s : ByteArray) (hs : s.size ≤ 140737488351232) (w : World) (ha : IsParts w v a) :
    Calls Try.prog 6 #[v, .string s] w fun e w' => e = .returned (.bool true) ∧ Below w.heap.size w w' := by
  obtain ⟨A, n, k, rfl, ha⟩ := ha
  by_cases h1 : doE a s = 0
  · exact turnBack_ok a A n k s hs w ha h1
  · exact turnBack_e1 a A n k s hs w ha h1
end Go.Proofs.Ytgocddkoancdiaa
