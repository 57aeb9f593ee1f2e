/- SpotTurns: the walk. A byte that is kept. -/
import Derived.Test.YtbgaoehpljnolaaSpot
import Derived.Test.YtbgaoehpljnolaaApply
import Derived.Test.YtbgaoehpljnolaaTurn
import Derived.Test.YtbgaoehpljnolaaKeptLaw
import Derived.Test.YtbgaoehpljnolaaWithin
import Derived.Test.YtbgaoehpljnolaaSame
import Derived.Test.YtbgaoehpljnolaaOpenParts
namespace Go.Proofs.Ytbgaoehpljnolaa
open Go.ChangeShapes Go.WideShapes Go.RowKit
set_option linter.unusedVariables false
set_option linter.unusedSimpArgs false
set_option maxRecDepth 100000
set_option maxHeartbeats 4000000


theorem spotTurns_err (a : List Pt) (A : Option Addr) (n k : Nat) (s : ByteArray) (i : Int) (hs : s.size ≤ 140737488351232) (w : World) (ha : RdP w w.heap.size A n k a) (h1 : doE a s ≠ 0) :
    Calls Try.prog 11 #[.slice A n k, .string s, .int .i64 i] w fun e w' => e = .returned (.bool true) ∧ Below w.heap.size w w' := by
  have hbw0 : Below w.heap.size w w := Below.refl _ _
  have Ha := Lib.hid ha
  clear ha
  have hne : (doE a s != 0) = true := by simpa using h1
  have H1 := Lib.hid h1
  clear h1
  go_enter Try.func11, Try.ntmps11
  have hrp := RdP.builtS w #[.int .i64 3, .int .i64 3, .string ⟨#[]⟩] [(3, 3, emp)] 1 rfl rfl (by decide) (by decide)
  have hbw1 := hbw0.alloc hbw0.size (.cells #[.int .i64 3, .int .i64 3, .string ⟨#[]⟩] 59)
  have Ha1 := Lib.hid (RdP.stepA Ha.out (.cells #[.int .i64 3, .int .i64 3, .string ⟨#[]⟩] 59))
  clear Ha
  have Ha := Ha1
  clear Ha1
  have Hp := Lib.hid hrp
  clear hrp
  go_wp2_with fail
  have hc := spot_any [(3, 3, emp)] (some ⟨w.heap.size, 0, none⟩) 1 1 _ 2 true _ Hp.out (Nat.le_refl _) (by decide) (by decide)
  rw [show sp true (units [(3, 3, emp)]) 2 = 0 from by decide] at hc
  refine (hc).mono ?_
  rintro e w2 ⟨rfl, hb2⟩
  have hbw2 := hbw1.trans (hb2.mono hbw1.size)
  have Ha2 := Lib.hid (RdP.step Ha.out hb2)
  clear Ha
  have Ha := Ha2
  clear Ha2
  have Hp2 := Lib.hid (RdP.step Hp.out hb2)
  clear Hp
  have Hp := Hp2
  clear Hp2
  clear hb2
  clear hc
  clear Hp
  go_wp2_with fail
  have hc := put_any ⟨#[97, 98]⟩ (by decide) w2
  refine (hc).mono ?_
  rintro e w3 ⟨Aq, rfl, hrq, hb3⟩
  have hbw3 := hbw2.trans (hb3.mono hbw2.size)
  have Ha3 := Lib.hid (RdP.step Ha.out hb3)
  clear Ha
  have Ha := Ha3
  clear Ha3
  clear hb3
  clear hc
  have Hq := Lib.hid hrq
  clear hrq
  go_wp2_with fail
  have hc := spot_any [(2, 0, ⟨#[97, 98]⟩)] Aq 1 1 _ 0 true _ Hq.out (Nat.le_refl _) (by decide) (by decide)
  rw [show sp true (units [(2, 0, ⟨#[97, 98]⟩)]) 0 = 2 from by decide] at hc
  refine (hc).mono ?_
  rintro e w4 ⟨rfl, hb4⟩
  have hbw4 := hbw3.trans (hb4.mono hbw3.size)
  have Ha4 := Lib.hid (RdP.step Ha.out hb4)
  clear Ha
  have Ha := Ha4
  clear Ha4
  have Hq4 := Lib.hid (RdP.step Hq.out hb4)
  clear Hq
  have Hq := Hq4
  clear Hq4
  clear hb4
  clear hc
  clear Hq
  go_wp2_with fail
  have hc := turn_rd a A n k _ s _ Ha.out (Nat.le_refl _) (by omega)
  rw [turn_err H1.out] at hc
  refine (hc).mono ?_
  rintro e w5 ⟨Ax, cx, rfl, hrx, hb5⟩
  have hbw5 := hbw4.trans (hb5.mono hbw4.size)
  have Ha5 := Lib.hid (RdP.step Ha.out hb5)
  clear Ha
  have Ha := Ha5
  clear Ha5
  clear hb5
  clear hc
  have Hx := Lib.hid hrx
  clear hrx
  go_wp2_with fail
  go_ret
  exact ⟨rfl, hbw5⟩
theorem spotTurns_emp (a : List Pt) (A : Option Addr) (n k : Nat) (s : ByteArray) (i : Int) (hs : s.size ≤ 140737488351232) (w : World) (ha : RdP w w.heap.size A n k a) (h1 : doE a s = 0) (h2 : s = ⟨#[]⟩) :
    Calls Try.prog 11 #[.slice A n k, .string s, .int .i64 i] w fun e w' => e = .returned (.bool true) ∧ Below w.heap.size w w' := by
  have hbw0 : Below w.heap.size w w := Below.refl _ _
  have Ha := Lib.hid ha
  clear ha
  subst h2
  have H1 := Lib.hid h1
  clear h1
  go_enter Try.func11, Try.ntmps11
  have hrp := RdP.builtS w #[.int .i64 3, .int .i64 3, .string ⟨#[]⟩] [(3, 3, emp)] 1 rfl rfl (by decide) (by decide)
  have hbw1 := hbw0.alloc hbw0.size (.cells #[.int .i64 3, .int .i64 3, .string ⟨#[]⟩] 59)
  have Ha1 := Lib.hid (RdP.stepA Ha.out (.cells #[.int .i64 3, .int .i64 3, .string ⟨#[]⟩] 59))
  clear Ha
  have Ha := Ha1
  clear Ha1
  have Hp := Lib.hid hrp
  clear hrp
  go_wp2_with fail
  have hc := spot_any [(3, 3, emp)] (some ⟨w.heap.size, 0, none⟩) 1 1 _ 2 true _ Hp.out (Nat.le_refl _) (by decide) (by decide)
  rw [show sp true (units [(3, 3, emp)]) 2 = 0 from by decide] at hc
  refine (hc).mono ?_
  rintro e w2 ⟨rfl, hb2⟩
  have hbw2 := hbw1.trans (hb2.mono hbw1.size)
  have Ha2 := Lib.hid (RdP.step Ha.out hb2)
  clear Ha
  have Ha := Ha2
  clear Ha2
  have Hp2 := Lib.hid (RdP.step Hp.out hb2)
  clear Hp
  have Hp := Hp2
  clear Hp2
  clear hb2
  clear hc
  clear Hp
  go_wp2_with fail
  have hc := put_any ⟨#[97, 98]⟩ (by decide) w2
  refine (hc).mono ?_
  rintro e w3 ⟨Aq, rfl, hrq, hb3⟩
  have hbw3 := hbw2.trans (hb3.mono hbw2.size)
  have Ha3 := Lib.hid (RdP.step Ha.out hb3)
  clear Ha
  have Ha := Ha3
  clear Ha3
  clear hb3
  clear hc
  have Hq := Lib.hid hrq
  clear hrq
  go_wp2_with fail
  have hc := spot_any [(2, 0, ⟨#[97, 98]⟩)] Aq 1 1 _ 0 true _ Hq.out (Nat.le_refl _) (by decide) (by decide)
  rw [show sp true (units [(2, 0, ⟨#[97, 98]⟩)]) 0 = 2 from by decide] at hc
  refine (hc).mono ?_
  rintro e w4 ⟨rfl, hb4⟩
  have hbw4 := hbw3.trans (hb4.mono hbw3.size)
  have Ha4 := Lib.hid (RdP.step Ha.out hb4)
  clear Ha
  have Ha := Ha4
  clear Ha4
  have Hq4 := Lib.hid (RdP.step Hq.out hb4)
  clear Hq
  have Hq := Hq4
  clear Hq4
  clear hb4
  clear hc
  clear Hq
  go_wp2_with fail
  have hc := turn_rd a A n k _ ⟨#[]⟩ _ Ha.out (Nat.le_refl _) (by decide)
  rw [H1.out] at hc
  refine (hc).mono ?_
  rintro e w5 ⟨Ax, cx, rfl, hrx, hb5⟩
  have hbw5 := hbw4.trans (hb5.mono hbw4.size)
  have Ha5 := Lib.hid (RdP.step Ha.out hb5)
  clear Ha
  have Ha := Ha5
  clear Ha5
  clear hb5
  clear hc
  have Hx := Lib.hid hrx
  clear hrx
  go_wp2_with fail
  go_ret
  exact ⟨rfl, hbw5⟩
theorem spotTurns_no (a : List Pt) (A : Option Addr) (n k : Nat) (s : ByteArray) (i : Int) (hs : s.size ≤ 140737488351232) (w : World) (ha : RdP w w.heap.size A n k a) (h1 : doE a s = 0) (h2 : s.toList.isEmpty = false) (h3 : 1 ≤ (s.size : Int)) (h4 : kp (units a) (wi i s.size) = none) :
    Calls Try.prog 11 #[.slice A n k, .string s, .int .i64 i] w fun e w' => e = .returned (.bool true) ∧ Below w.heap.size w w' := by
  have hbw0 : Below w.heap.size w w := Below.refl _ _
  have Ha := Lib.hid ha
  clear ha
  have H1 := Lib.hid h1
  clear h1
  have hK := wi_lt i s.size (by omega)
  have hW := within_any i s.size
  generalize wi i s.size = K at *
  have HW := Lib.hid hW
  clear hW
  have Hc := Lib.hid (do_chk H1.out)
  have hs5 := Hc.out.2.2.2
  have he := kp_none (units a) K (by rw [Hc.out.2.1]; omega) h4
  have he5 := sp_le true (units a) K
  rw [← do_size H1.out] at he5
  have hd5 := do_size_any a s
  clear h4
  have hcK : ((K + 1 : Nat) : Int) = (K : Int) + 1 := by omega
  have HcK := Lib.hid hcK
  clear hcK
  have HE := Lib.hid he
  clear he
  go_enter Try.func11, Try.ntmps11
  have hrp := RdP.builtS w #[.int .i64 3, .int .i64 3, .string ⟨#[]⟩] [(3, 3, emp)] 1 rfl rfl (by decide) (by decide)
  have hbw1 := hbw0.alloc hbw0.size (.cells #[.int .i64 3, .int .i64 3, .string ⟨#[]⟩] 59)
  have Ha1 := Lib.hid (RdP.stepA Ha.out (.cells #[.int .i64 3, .int .i64 3, .string ⟨#[]⟩] 59))
  clear Ha
  have Ha := Ha1
  clear Ha1
  have Hp := Lib.hid hrp
  clear hrp
  go_wp2_with fail
  have hc := spot_any [(3, 3, emp)] (some ⟨w.heap.size, 0, none⟩) 1 1 _ 2 true _ Hp.out (Nat.le_refl _) (by decide) (by decide)
  rw [show sp true (units [(3, 3, emp)]) 2 = 0 from by decide] at hc
  refine (hc).mono ?_
  rintro e w2 ⟨rfl, hb2⟩
  have hbw2 := hbw1.trans (hb2.mono hbw1.size)
  have Ha2 := Lib.hid (RdP.step Ha.out hb2)
  clear Ha
  have Ha := Ha2
  clear Ha2
  have Hp2 := Lib.hid (RdP.step Hp.out hb2)
  clear Hp
  have Hp := Hp2
  clear Hp2
  clear hb2
  clear hc
  clear Hp
  go_wp2_with fail
  have hc := put_any ⟨#[97, 98]⟩ (by decide) w2
  refine (hc).mono ?_
  rintro e w3 ⟨Aq, rfl, hrq, hb3⟩
  have hbw3 := hbw2.trans (hb3.mono hbw2.size)
  have Ha3 := Lib.hid (RdP.step Ha.out hb3)
  clear Ha
  have Ha := Ha3
  clear Ha3
  clear hb3
  clear hc
  have Hq := Lib.hid hrq
  clear hrq
  go_wp2_with fail
  have hc := spot_any [(2, 0, ⟨#[97, 98]⟩)] Aq 1 1 _ 0 true _ Hq.out (Nat.le_refl _) (by decide) (by decide)
  rw [show sp true (units [(2, 0, ⟨#[97, 98]⟩)]) 0 = 2 from by decide] at hc
  refine (hc).mono ?_
  rintro e w4 ⟨rfl, hb4⟩
  have hbw4 := hbw3.trans (hb4.mono hbw3.size)
  have Ha4 := Lib.hid (RdP.step Ha.out hb4)
  clear Ha
  have Ha := Ha4
  clear Ha4
  have Hq4 := Lib.hid (RdP.step Hq.out hb4)
  clear Hq
  have Hq := Hq4
  clear Hq4
  clear hb4
  clear hc
  clear Hq
  go_wp2_with fail
  have hc := turn_rd a A n k _ s _ Ha.out (Nat.le_refl _) (by omega)
  rw [H1.out] at hc
  refine (hc).mono ?_
  rintro e w5 ⟨Ax, cx, rfl, hrx, hb5⟩
  have hbw5 := hbw4.trans (hb5.mono hbw4.size)
  have Ha5 := Lib.hid (RdP.step Ha.out hb5)
  clear Ha
  have Ha := Ha5
  clear Ha5
  clear hb5
  clear hc
  have Hx := Lib.hid hrx
  clear hrx
  go_wp2_with fail
  refine (HW.out w5 (by omega) (by omega)).mono ?_
  rintro e w6 ⟨rfl, rfl⟩
  go_wp2_with fail
  have hc := spot_any a A n k _ K true _ Ha.out (Nat.le_refl _) Hc.out.1 (by rw [Hc.out.2.1]; omega)
  refine (hc).mono ?_
  rintro e w7 ⟨rfl, hb7⟩
  have hbw7 := hbw5.trans (hb7.mono hbw5.size)
  have Ha7 := Lib.hid (RdP.step Ha.out hb7)
  clear Ha
  have Ha := Ha7
  clear Ha7
  have Hx7 := Lib.hid (RdP.step Hx.out hb7)
  clear Hx
  have Hx := Hx7
  clear Hx7
  clear hb7
  clear hc
  go_wp2_with fail
  have hc := spot_any a A n k _ (K + 1) false _ Ha.out (Nat.le_refl _) Hc.out.1 (by rw [Hc.out.2.1]; omega)
  rw [HE.out] at hc
  rw [HcK.out] at hc
  refine (hc).mono ?_
  rintro e w8 ⟨rfl, hb8⟩
  have hbw8 := hbw7.trans (hb8.mono hbw7.size)
  have Ha8 := Lib.hid (RdP.step Ha.out hb8)
  clear Ha
  have Ha := Ha8
  clear Ha8
  have Hx8 := Lib.hid (RdP.step Hx.out hb8)
  clear Hx
  have Hx := Hx8
  clear Hx8
  clear hb8
  clear hc
  generalize sp true (units a) K = q at *
  go_wp2_with fail
  go_ret
  exact ⟨rfl, hbw8⟩
theorem spotTurns_yes (a : List Pt) (A : Option Addr) (n k : Nat) (s : ByteArray) (i : Int) (hs : s.size ≤ 140737488351232) (w : World) (ha : RdP w w.heap.size A n k a) (p : Nat) (h1 : doE a s = 0) (h2 : s.toList.isEmpty = false) (h3 : 1 ≤ (s.size : Int)) (h4 : kp (units a) (wi i s.size) = some p) :
    Calls Try.prog 11 #[.slice A n k, .string s, .int .i64 i] w fun e w' => e = .returned (.bool true) ∧ Below w.heap.size w w' := by
  have hbw0 : Below w.heap.size w w := Below.refl _ _
  have Ha := Lib.hid ha
  clear ha
  have H1 := Lib.hid h1
  clear h1
  have hK := wi_lt i s.size (by omega)
  have hW := within_any i s.size
  generalize wi i s.size = K at *
  have HW := Lib.hid hW
  clear hW
  have Hc := Lib.hid (do_chk H1.out)
  have hs5 := Hc.out.2.2.2
  obtain ⟨e1, e2, e3⟩ := kp_some (units a) K p h4
  rw [← do_size H1.out] at e3
  have hturn := kept_turn H1.out h4
  have Htr := Lib.hid hturn
  clear hturn
  have hd5 := do_size_any a s
  clear h4
  have hcK : ((K + 1 : Nat) : Int) = (K : Int) + 1 := by omega
  have HcK := Lib.hid hcK
  clear hcK
  have HE := Lib.hid (⟨e1, e2⟩ : _ ∧ _)
  clear e1 e2
  go_enter Try.func11, Try.ntmps11
  have hrp := RdP.builtS w #[.int .i64 3, .int .i64 3, .string ⟨#[]⟩] [(3, 3, emp)] 1 rfl rfl (by decide) (by decide)
  have hbw1 := hbw0.alloc hbw0.size (.cells #[.int .i64 3, .int .i64 3, .string ⟨#[]⟩] 59)
  have Ha1 := Lib.hid (RdP.stepA Ha.out (.cells #[.int .i64 3, .int .i64 3, .string ⟨#[]⟩] 59))
  clear Ha
  have Ha := Ha1
  clear Ha1
  have Hp := Lib.hid hrp
  clear hrp
  go_wp2_with fail
  have hc := spot_any [(3, 3, emp)] (some ⟨w.heap.size, 0, none⟩) 1 1 _ 2 true _ Hp.out (Nat.le_refl _) (by decide) (by decide)
  rw [show sp true (units [(3, 3, emp)]) 2 = 0 from by decide] at hc
  refine (hc).mono ?_
  rintro e w2 ⟨rfl, hb2⟩
  have hbw2 := hbw1.trans (hb2.mono hbw1.size)
  have Ha2 := Lib.hid (RdP.step Ha.out hb2)
  clear Ha
  have Ha := Ha2
  clear Ha2
  have Hp2 := Lib.hid (RdP.step Hp.out hb2)
  clear Hp
  have Hp := Hp2
  clear Hp2
  clear hb2
  clear hc
  clear Hp
  go_wp2_with fail
  have hc := put_any ⟨#[97, 98]⟩ (by decide) w2
  refine (hc).mono ?_
  rintro e w3 ⟨Aq, rfl, hrq, hb3⟩
  have hbw3 := hbw2.trans (hb3.mono hbw2.size)
  have Ha3 := Lib.hid (RdP.step Ha.out hb3)
  clear Ha
  have Ha := Ha3
  clear Ha3
  clear hb3
  clear hc
  have Hq := Lib.hid hrq
  clear hrq
  go_wp2_with fail
  have hc := spot_any [(2, 0, ⟨#[97, 98]⟩)] Aq 1 1 _ 0 true _ Hq.out (Nat.le_refl _) (by decide) (by decide)
  rw [show sp true (units [(2, 0, ⟨#[97, 98]⟩)]) 0 = 2 from by decide] at hc
  refine (hc).mono ?_
  rintro e w4 ⟨rfl, hb4⟩
  have hbw4 := hbw3.trans (hb4.mono hbw3.size)
  have Ha4 := Lib.hid (RdP.step Ha.out hb4)
  clear Ha
  have Ha := Ha4
  clear Ha4
  have Hq4 := Lib.hid (RdP.step Hq.out hb4)
  clear Hq
  have Hq := Hq4
  clear Hq4
  clear hb4
  clear hc
  clear Hq
  go_wp2_with fail
  have hc := turn_rd a A n k _ s _ Ha.out (Nat.le_refl _) (by omega)
  rw [H1.out] at hc
  refine (hc).mono ?_
  rintro e w5 ⟨Ax, cx, rfl, hrx, hb5⟩
  have hbw5 := hbw4.trans (hb5.mono hbw4.size)
  have Ha5 := Lib.hid (RdP.step Ha.out hb5)
  clear Ha
  have Ha := Ha5
  clear Ha5
  clear hb5
  clear hc
  have Hx := Lib.hid hrx
  clear hrx
  go_wp2_with fail
  refine (HW.out w5 (by omega) (by omega)).mono ?_
  rintro e w6 ⟨rfl, rfl⟩
  go_wp2_with fail
  have hc := spot_any a A n k _ K true _ Ha.out (Nat.le_refl _) Hc.out.1 (by rw [Hc.out.2.1]; omega)
  rw [HE.out.1] at hc
  refine (hc).mono ?_
  rintro e w7 ⟨rfl, hb7⟩
  have hbw7 := hbw5.trans (hb7.mono hbw5.size)
  have Ha7 := Lib.hid (RdP.step Ha.out hb7)
  clear Ha
  have Ha := Ha7
  clear Ha7
  have Hx7 := Lib.hid (RdP.step Hx.out hb7)
  clear Hx
  have Hx := Hx7
  clear Hx7
  clear hb7
  clear hc
  go_wp2_with fail
  have hc := spot_any a A n k _ (K + 1) false _ Ha.out (Nat.le_refl _) Hc.out.1 (by rw [Hc.out.2.1]; omega)
  rw [HE.out.2] at hc
  rw [HcK.out] at hc
  refine (hc).mono ?_
  rintro e w8 ⟨rfl, hb8⟩
  have hbw8 := hbw7.trans (hb8.mono hbw7.size)
  have Ha8 := Lib.hid (RdP.step Ha.out hb8)
  clear Ha
  have Ha := Ha8
  clear Ha8
  have Hx8 := Lib.hid (RdP.step Hx.out hb8)
  clear Hx
  have Hx := Hx8
  clear Hx8
  clear hb8
  clear hc
  have hcp : ((p + 1 : Nat) : Int) = (p : Int) + 1 := by omega
  rw [hcp]
  clear hcp
  go_wp2_with fail
  have hc := spot_any (turnL a s) Ax ((turnL a s).length) cx _ p true _ Hx.out (Nat.le_refl _) (turn_ok H1.out).2.1 (by rw [(turn_ok H1.out).2.2.2.1, ← do_size H1.out]; omega)
  rw [Htr.out] at hc
  refine (hc).mono ?_
  rintro e w9 ⟨rfl, hb9⟩
  have hbw9 := hbw8.trans (hb9.mono hbw8.size)
  have Ha9 := Lib.hid (RdP.step Ha.out hb9)
  clear Ha
  have Ha := Ha9
  clear Ha9
  have Hx9 := Lib.hid (RdP.step Hx.out hb9)
  clear Hx
  have Hx := Hx9
  clear Hx9
  clear hb9
  clear hc
  go_wp2_with fail
  go_ret
  exact ⟨rfl, hbw9⟩
theorem walk_SpotTurns (v : Value) (a : List Pt) (s : ByteArray) (hs : s.size ≤ 140737488351232) (i : Int) (wi_ : (Lit.int .i64 i).wf = true) (w : World) (ha : IsParts w v a) :
    Calls Try.prog 11 #[v, .string s, .int .i64 i] w fun e w' => e = .returned (.bool true) ∧ Below w.heap.size w w' := by
  obtain ⟨A, n, k, rfl, ha⟩ := ha
  by_cases h1 : doE a s = 0
  · rcases str_cases s with h2 | ⟨h2, h3⟩
    · exact spotTurns_emp a A n k s i hs w ha h1 h2
    · rcases h4 : kp (units a) (wi i s.size) with _ | p
      · exact spotTurns_no a A n k s i hs w ha h1 h2 h3 h4
      · exact spotTurns_yes a A n k s i hs w ha p h1 h2 h3 h4
  · exact spotTurns_err a A n k s i hs w ha h1
end Go.Proofs.Ytbgaoehpljnolaa
