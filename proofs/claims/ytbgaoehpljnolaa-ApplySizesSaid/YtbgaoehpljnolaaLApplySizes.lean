/- ApplySizes: the walk. What comes of a text is as long as Sizes says. -/
import Derived.Test.YtbgaoehpljnolaaApply
import Derived.Test.YtbgaoehpljnolaaSame
import Derived.Test.YtbgaoehpljnolaaOpenParts
namespace Go.Proofs.Ytbgaoehpljnolaa
open Go.ChangeShapes Go.WideShapes Go.RowKit
set_option linter.unusedVariables false
set_option linter.unusedSimpArgs false
set_option maxRecDepth 100000
set_option maxHeartbeats 4000000


theorem applySizes_err_s (a : List Pt) (A : Option Addr) (n k : Nat) (s : ByteArray) (hs : s.size ≤ 140737488351232) (w : World) (ha : RdP w w.heap.size A n k a) (h1 : doE a s ≠ 0) (h5 : (s.size : Int) ≤ 500) :
    Calls Try.prog 8 #[.slice A n k, .string s] w fun e w' => e = .returned (.bool true) ∧ Below w.heap.size w w' := by
  have hbw0 : Below w.heap.size w w := Below.refl _ _
  have Ha := Lib.hid ha
  clear ha
  have hne : (doE a s != 0) = true := by simpa using h1
  have HA := Lib.hid (do_all (s := s) (by omega))
  have H1 := Lib.hid h1
  clear h1
  go_enter Try.func8, Try.ntmps8
  have hrp := RdP.builtS w #[.int .i64 1, .int .i64 1, .string ⟨#[]⟩, .int .i64 2, .int .i64 0, .string ⟨#[120]⟩, .int .i64 3, .int .i64 1, .string ⟨#[]⟩] [(1, 1, emp), (2, 0, ⟨#[120]⟩), (3, 1, emp)] 3 rfl rfl (by decide) (by decide)
  have hbw1 := hbw0.alloc hbw0.size (.cells #[.int .i64 1, .int .i64 1, .string ⟨#[]⟩, .int .i64 2, .int .i64 0, .string ⟨#[120]⟩, .int .i64 3, .int .i64 1, .string ⟨#[]⟩] 59)
  have Ha1 := Lib.hid (RdP.stepA Ha.out (.cells #[.int .i64 1, .int .i64 1, .string ⟨#[]⟩, .int .i64 2, .int .i64 0, .string ⟨#[120]⟩, .int .i64 3, .int .i64 1, .string ⟨#[]⟩] 59))
  clear Ha
  have Ha := Ha1
  clear Ha1
  have Hp := Lib.hid hrp
  clear hrp
  go_wp2_with fail
  have hc := do_any [(1, 1, emp), (2, 0, ⟨#[120]⟩), (3, 1, emp)] (some ⟨w.heap.size, 0, none⟩) 3 3 _ (⟨#[97, 98]⟩) _ Hp.out (Nat.le_refl _) (by decide)
  rw [show doE [(1, 1, emp), (2, 0, ⟨#[120]⟩), (3, 1, emp)] ⟨#[97, 98]⟩ = 0 from by decide] at hc
  rw [show doS [(1, 1, emp), (2, 0, ⟨#[120]⟩), (3, 1, emp)] ⟨#[97, 98]⟩ = ⟨#[97, 120]⟩ from by decide] at hc
  refine (hc).mono ?_
  rintro e w2 ⟨rfl, hb2⟩
  have hbw2 := hbw1.trans (hb2.mono hbw1.size)
  have Ha2 := Lib.hid (RdP.step Ha.out hb2)
  clear Ha
  have Ha := Ha2
  clear Ha2
  have Hp2 := Lib.hid (RdP.step Hp.out hb2)
  clear Hp
  have Hp := Hp2
  clear Hp2
  clear hb2
  clear hc
  go_wp2_with fail
  clear Hp
  have hc := all_any (s.size : Int) w2
  refine (hc).mono ?_
  rintro e w3 ⟨Au, cu, rfl, hru, hb3⟩
  have hbw3 := hbw2.trans (hb3.mono hbw2.size)
  have Ha3 := Lib.hid (RdP.step Ha.out hb3)
  clear Ha
  have Ha := Ha3
  clear Ha3
  clear hb3
  clear hc
  have Hu := Lib.hid hru
  clear hru
  go_wp2_with fail
  have hc := do_any (allL (s.size : Int)) Au ((allL (s.size : Int)).length) cu _ s _ Hu.out (Nat.le_refl _) (by omega)
  rw [HA.out.1] at hc
  rw [HA.out.2] at hc
  refine (hc).mono ?_
  rintro e w4 ⟨rfl, hb4⟩
  have hbw4 := hbw3.trans (hb4.mono hbw3.size)
  have Ha4 := Lib.hid (RdP.step Ha.out hb4)
  clear Ha
  have Ha := Ha4
  clear Ha4
  have Hu4 := Lib.hid (RdP.step Hu.out hb4)
  clear Hu
  have Hu := Hu4
  clear Hu4
  clear hb4
  clear hc
  go_wp2_with fail
  clear Hu
  have hc := do_any a A n k _ s _ Ha.out (Nat.le_refl _) (by omega)
  rw [do_err H1.out] at hc
  refine (hc).mono ?_
  rintro e w5 ⟨rfl, hb5⟩
  have hbw5 := hbw4.trans (hb5.mono hbw4.size)
  have Ha5 := Lib.hid (RdP.step Ha.out hb5)
  clear Ha
  have Ha := Ha5
  clear Ha5
  clear hb5
  clear hc
  go_wp2_with fail
  refine (fits_any a A n k _ s.size _ Ha.out (Nat.le_refl _)).mono ?_
  rintro e w6 ⟨rfl, hb6⟩
  have hbw6 := hbw5.trans (hb6.mono hbw5.size)
  have Ha6 := Lib.hid (RdP.step Ha.out hb6)
  clear Ha
  have Ha := Ha6
  clear Ha6
  clear hb6
  rw [show fitsE a s.size = doE a s from rfl]
  go_wp2_with fail
  go_ret
  exact ⟨rfl, hbw6⟩
theorem applySizes_err_l (a : List Pt) (A : Option Addr) (n k : Nat) (s : ByteArray) (hs : s.size ≤ 140737488351232) (w : World) (ha : RdP w w.heap.size A n k a) (h1 : doE a s ≠ 0) (h5 : (500 : Int) < s.size) :
    Calls Try.prog 8 #[.slice A n k, .string s] w fun e w' => e = .returned (.bool true) ∧ Below w.heap.size w w' := by
  have hbw0 : Below w.heap.size w w := Below.refl _ _
  have Ha := Lib.hid ha
  clear ha
  have hne : (doE a s != 0) = true := by simpa using h1
  have H1 := Lib.hid h1
  clear h1
  go_enter Try.func8, Try.ntmps8
  have hrp := RdP.builtS w #[.int .i64 1, .int .i64 1, .string ⟨#[]⟩, .int .i64 2, .int .i64 0, .string ⟨#[120]⟩, .int .i64 3, .int .i64 1, .string ⟨#[]⟩] [(1, 1, emp), (2, 0, ⟨#[120]⟩), (3, 1, emp)] 3 rfl rfl (by decide) (by decide)
  have hbw1 := hbw0.alloc hbw0.size (.cells #[.int .i64 1, .int .i64 1, .string ⟨#[]⟩, .int .i64 2, .int .i64 0, .string ⟨#[120]⟩, .int .i64 3, .int .i64 1, .string ⟨#[]⟩] 59)
  have Ha1 := Lib.hid (RdP.stepA Ha.out (.cells #[.int .i64 1, .int .i64 1, .string ⟨#[]⟩, .int .i64 2, .int .i64 0, .string ⟨#[120]⟩, .int .i64 3, .int .i64 1, .string ⟨#[]⟩] 59))
  clear Ha
  have Ha := Ha1
  clear Ha1
  have Hp := Lib.hid hrp
  clear hrp
  go_wp2_with fail
  have hc := do_any [(1, 1, emp), (2, 0, ⟨#[120]⟩), (3, 1, emp)] (some ⟨w.heap.size, 0, none⟩) 3 3 _ (⟨#[97, 98]⟩) _ Hp.out (Nat.le_refl _) (by decide)
  rw [show doE [(1, 1, emp), (2, 0, ⟨#[120]⟩), (3, 1, emp)] ⟨#[97, 98]⟩ = 0 from by decide] at hc
  rw [show doS [(1, 1, emp), (2, 0, ⟨#[120]⟩), (3, 1, emp)] ⟨#[97, 98]⟩ = ⟨#[97, 120]⟩ from by decide] at hc
  refine (hc).mono ?_
  rintro e w2 ⟨rfl, hb2⟩
  have hbw2 := hbw1.trans (hb2.mono hbw1.size)
  have Ha2 := Lib.hid (RdP.step Ha.out hb2)
  clear Ha
  have Ha := Ha2
  clear Ha2
  have Hp2 := Lib.hid (RdP.step Hp.out hb2)
  clear Hp
  have Hp := Hp2
  clear Hp2
  clear hb2
  clear hc
  go_wp2_with fail
  clear Hp
  have hc := all_any (s.size : Int) w2
  refine (hc).mono ?_
  rintro e w3 ⟨Au, cu, rfl, hru, hb3⟩
  have hbw3 := hbw2.trans (hb3.mono hbw2.size)
  have Ha3 := Lib.hid (RdP.step Ha.out hb3)
  clear Ha
  have Ha := Ha3
  clear Ha3
  clear hb3
  clear hc
  have Hu := Lib.hid hru
  clear hru
  go_wp2_with fail
  have hc := do_any (allL (s.size : Int)) Au ((allL (s.size : Int)).length) cu _ s _ Hu.out (Nat.le_refl _) (by omega)
  refine (hc).mono ?_
  rintro e w4 ⟨rfl, hb4⟩
  have hbw4 := hbw3.trans (hb4.mono hbw3.size)
  have Ha4 := Lib.hid (RdP.step Ha.out hb4)
  clear Ha
  have Ha := Ha4
  clear Ha4
  have Hu4 := Lib.hid (RdP.step Hu.out hb4)
  clear Hu
  have Hu := Hu4
  clear Hu4
  clear hb4
  clear hc
  go_wp2_with fail
  clear Hu
  have hc := do_any a A n k _ s _ Ha.out (Nat.le_refl _) (by omega)
  rw [do_err H1.out] at hc
  refine (hc).mono ?_
  rintro e w5 ⟨rfl, hb5⟩
  have hbw5 := hbw4.trans (hb5.mono hbw4.size)
  have Ha5 := Lib.hid (RdP.step Ha.out hb5)
  clear Ha
  have Ha := Ha5
  clear Ha5
  clear hb5
  clear hc
  go_wp2_with fail
  refine (fits_any a A n k _ s.size _ Ha.out (Nat.le_refl _)).mono ?_
  rintro e w6 ⟨rfl, hb6⟩
  have hbw6 := hbw5.trans (hb6.mono hbw5.size)
  have Ha6 := Lib.hid (RdP.step Ha.out hb6)
  clear Ha
  have Ha := Ha6
  clear Ha6
  clear hb6
  rw [show fitsE a s.size = doE a s from rfl]
  go_wp2_with fail
  go_ret
  exact ⟨rfl, hbw6⟩
theorem applySizes_ok (a : List Pt) (A : Option Addr) (n k : Nat) (s : ByteArray) (hs : s.size ≤ 140737488351232) (w : World) (ha : RdP w w.heap.size A n k a) (h1 : doE a s = 0) (h5 : (s.size : Int) ≤ 500) :
    Calls Try.prog 8 #[.slice A n k, .string s] w fun e w' => e = .returned (.bool true) ∧ Below w.heap.size w w' := by
  have hbw0 : Below w.heap.size w w := Below.refl _ _
  have Ha := Lib.hid ha
  clear ha
  have HA := Lib.hid (do_all (s := s) (by omega))
  have H1 := Lib.hid h1
  clear h1
  go_enter Try.func8, Try.ntmps8
  have hrp := RdP.builtS w #[.int .i64 1, .int .i64 1, .string ⟨#[]⟩, .int .i64 2, .int .i64 0, .string ⟨#[120]⟩, .int .i64 3, .int .i64 1, .string ⟨#[]⟩] [(1, 1, emp), (2, 0, ⟨#[120]⟩), (3, 1, emp)] 3 rfl rfl (by decide) (by decide)
  have hbw1 := hbw0.alloc hbw0.size (.cells #[.int .i64 1, .int .i64 1, .string ⟨#[]⟩, .int .i64 2, .int .i64 0, .string ⟨#[120]⟩, .int .i64 3, .int .i64 1, .string ⟨#[]⟩] 59)
  have Ha1 := Lib.hid (RdP.stepA Ha.out (.cells #[.int .i64 1, .int .i64 1, .string ⟨#[]⟩, .int .i64 2, .int .i64 0, .string ⟨#[120]⟩, .int .i64 3, .int .i64 1, .string ⟨#[]⟩] 59))
  clear Ha
  have Ha := Ha1
  clear Ha1
  have Hp := Lib.hid hrp
  clear hrp
  go_wp2_with fail
  have hc := do_any [(1, 1, emp), (2, 0, ⟨#[120]⟩), (3, 1, emp)] (some ⟨w.heap.size, 0, none⟩) 3 3 _ (⟨#[97, 98]⟩) _ Hp.out (Nat.le_refl _) (by decide)
  rw [show doE [(1, 1, emp), (2, 0, ⟨#[120]⟩), (3, 1, emp)] ⟨#[97, 98]⟩ = 0 from by decide] at hc
  rw [show doS [(1, 1, emp), (2, 0, ⟨#[120]⟩), (3, 1, emp)] ⟨#[97, 98]⟩ = ⟨#[97, 120]⟩ from by decide] at hc
  refine (hc).mono ?_
  rintro e w2 ⟨rfl, hb2⟩
  have hbw2 := hbw1.trans (hb2.mono hbw1.size)
  have Ha2 := Lib.hid (RdP.step Ha.out hb2)
  clear Ha
  have Ha := Ha2
  clear Ha2
  have Hp2 := Lib.hid (RdP.step Hp.out hb2)
  clear Hp
  have Hp := Hp2
  clear Hp2
  clear hb2
  clear hc
  go_wp2_with fail
  clear Hp
  have hc := all_any (s.size : Int) w2
  refine (hc).mono ?_
  rintro e w3 ⟨Au, cu, rfl, hru, hb3⟩
  have hbw3 := hbw2.trans (hb3.mono hbw2.size)
  have Ha3 := Lib.hid (RdP.step Ha.out hb3)
  clear Ha
  have Ha := Ha3
  clear Ha3
  clear hb3
  clear hc
  have Hu := Lib.hid hru
  clear hru
  go_wp2_with fail
  have hc := do_any (allL (s.size : Int)) Au ((allL (s.size : Int)).length) cu _ s _ Hu.out (Nat.le_refl _) (by omega)
  rw [HA.out.1] at hc
  rw [HA.out.2] at hc
  refine (hc).mono ?_
  rintro e w4 ⟨rfl, hb4⟩
  have hbw4 := hbw3.trans (hb4.mono hbw3.size)
  have Ha4 := Lib.hid (RdP.step Ha.out hb4)
  clear Ha
  have Ha := Ha4
  clear Ha4
  have Hu4 := Lib.hid (RdP.step Hu.out hb4)
  clear Hu
  have Hu := Hu4
  clear Hu4
  clear hb4
  clear hc
  go_wp2_with fail
  clear Hu
  have hc := do_any a A n k _ s _ Ha.out (Nat.le_refl _) (by omega)
  rw [H1.out] at hc
  refine (hc).mono ?_
  rintro e w5 ⟨rfl, hb5⟩
  have hbw5 := hbw4.trans (hb5.mono hbw4.size)
  have Ha5 := Lib.hid (RdP.step Ha.out hb5)
  clear Ha
  have Ha := Ha5
  clear Ha5
  clear hb5
  clear hc
  go_wp2_with fail
  have hc := psizes_good a A n k _ _ Ha.out (Nat.le_refl _) (do_chk H1.out).1
  rw [(do_chk H1.out).2.1] at hc
  rw [← do_size H1.out] at hc
  refine (hc).mono ?_
  rintro e w6 ⟨rfl, hb6⟩
  have hbw6 := hbw5.trans (hb6.mono hbw5.size)
  have Ha6 := Lib.hid (RdP.step Ha.out hb6)
  clear Ha
  have Ha := Ha6
  clear Ha6
  clear hb6
  clear hc
  go_wp2_with fail
  go_ret
  exact ⟨rfl, hbw6⟩
theorem walk_ApplySizes (v : Value) (a : List Pt) (s : ByteArray) (hs : s.size ≤ 140737488351232) (w : World) (ha : IsParts w v a) :
    Calls Try.prog 8 #[v, .string s] w fun e w' => e = .returned (.bool true) ∧ Below w.heap.size w w' := by
  obtain ⟨A, n, k, rfl, ha⟩ := ha
  by_cases h1 : doE a s = 0
  · exact applySizes_ok a A n k s hs w ha h1 (by have := (do_chk h1).2.2.2; omega)
  · by_cases h5 : (s.size : Int) ≤ 500
    · exact applySizes_err_s a A n k s hs w ha h1 h5
    · exact applySizes_err_l a A n k s hs w ha h1 (by omega)
end Go.Proofs.Ytbgaoehpljnolaa
