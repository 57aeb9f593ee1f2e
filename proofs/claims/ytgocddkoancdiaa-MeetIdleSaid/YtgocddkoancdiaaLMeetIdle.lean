/- MeetIdle: the walk. What meets one that keeps all is itself. -/
import Derived.Test.YtgocddkoancdiaaMeet
import Derived.Test.YtgocddkoancdiaaSame
import Derived.Test.YtgocddkoancdiaaOpenParts
namespace Go.Proofs.Ytgocddkoancdiaa
open Go.ChangeShapes Go.WideShapes Go.RowKit
set_option linter.unusedVariables false
set_option linter.unusedSimpArgs false
set_option maxRecDepth 100000
set_option maxHeartbeats 4000000


theorem meetIdle_err (a : List Pt) (A : Option Addr) (n k : Nat) (w : World) (ha : RdP w w.heap.size A n k a) (h1 : chk a ≠ 0) :
    Calls Try.prog 7 #[.slice A n k] w fun e w' => e = .returned (.bool true) ∧ Below w.heap.size w w' := by
  have hbw0 : Below w.heap.size w w := Below.refl _ _
  have Ha := Lib.hid ha
  clear ha
  have hne : (chk a != 0) = true := by simpa using h1
  have H1 := Lib.hid h1
  clear h1
  go_enter Try.func7, Try.ntmps7
  have hrp := RdP.builtS w #[.int .i64 3, .int .i64 2, .string ⟨#[]⟩] [(3, 2, emp)] 1 rfl rfl (by decide) (by decide)
  have hbw1 := hbw0.alloc hbw0.size (.cells #[.int .i64 3, .int .i64 2, .string ⟨#[]⟩] 28)
  have Ha1 := Lib.hid (RdP.stepA Ha.out (.cells #[.int .i64 3, .int .i64 2, .string ⟨#[]⟩] 28))
  clear Ha
  have Ha := Ha1
  clear Ha1
  have Hp := Lib.hid hrp
  clear hrp
  have hrq : RdP ((w.alloc (.cells #[.int .i64 3, .int .i64 2, .string ⟨#[]⟩] 28)).alloc (.cells #[.int .i64 1, .int .i64 1, .string ⟨#[]⟩, .int .i64 3, .int .i64 1, .string ⟨#[]⟩] 28)) ((w.alloc (.cells #[.int .i64 3, .int .i64 2, .string ⟨#[]⟩] 28)).alloc (.cells #[.int .i64 1, .int .i64 1, .string ⟨#[]⟩, .int .i64 3, .int .i64 1, .string ⟨#[]⟩] 28)).heap.size (some ⟨w.heap.size + 1, 0, none⟩) 2 2 [(1, 1, emp), (3, 1, emp)] := by
    have q := RdP.builtS (w.alloc (.cells #[.int .i64 3, .int .i64 2, .string ⟨#[]⟩] 28)) #[.int .i64 1, .int .i64 1, .string ⟨#[]⟩, .int .i64 3, .int .i64 1, .string ⟨#[]⟩] [(1, 1, emp), (3, 1, emp)] 2 rfl rfl (by decide) (by decide)
    simpa only [World.size_alloc] using q
  have hbw2 := hbw1.alloc hbw1.size (.cells #[.int .i64 1, .int .i64 1, .string ⟨#[]⟩, .int .i64 3, .int .i64 1, .string ⟨#[]⟩] 28)
  have Ha2 := Lib.hid (RdP.stepA Ha.out (.cells #[.int .i64 1, .int .i64 1, .string ⟨#[]⟩, .int .i64 3, .int .i64 1, .string ⟨#[]⟩] 28))
  clear Ha
  have Ha := Ha2
  clear Ha2
  have Hp2 := Lib.hid (RdP.stepA Hp.out (.cells #[.int .i64 1, .int .i64 1, .string ⟨#[]⟩, .int .i64 3, .int .i64 1, .string ⟨#[]⟩] 28))
  clear Hp
  have Hp := Hp2
  clear Hp2
  have Hq := Lib.hid hrq
  clear hrq
  go_wp2_with fail
  have hc := meet_rd [(3, 2, emp)] [(1, 1, emp), (3, 1, emp)] (some ⟨w.heap.size, 0, none⟩) (some ⟨w.heap.size + 1, 0, none⟩) 1 2 1 2 _ Hp.out Hq.out
  rw [show meetE [(3, 2, emp)] [(1, 1, emp), (3, 1, emp)] = 0 from by decide] at hc
  rw [show meetC [(3, 2, emp)] [(1, 1, emp), (3, 1, emp)] = [(3, 1, emp)] from by decide] at hc
  rw [show meetD [(3, 2, emp)] [(1, 1, emp), (3, 1, emp)] = [] from by decide] at hc
  refine (hc).mono ?_
  rintro e w3 ⟨Ac0, cc0, Ad0, cd0, rfl, hrc0, hrd0, hb3⟩
  have hbw3 := hbw2.trans (hb3.mono hbw2.size)
  have Ha3 := Lib.hid (RdP.step Ha.out hb3)
  clear Ha
  have Ha := Ha3
  clear Ha3
  have Hp3 := Lib.hid (RdP.step Hp.out hb3)
  clear Hp
  have Hp := Hp3
  clear Hp3
  have Hq3 := Lib.hid (RdP.step Hq.out hb3)
  clear Hq
  have Hq := Hq3
  clear Hq3
  clear hb3
  clear hc
  have Hc0 := Lib.hid hrc0
  clear hrc0
  have Hd0 := Lib.hid hrd0
  clear hrd0
  go_wp2_with fail
  clear Hp
  clear Hq
  clear Hd0
  have hrr := RdP.builtS w3 #[.int .i64 3, .int .i64 1, .string ⟨#[]⟩] [(3, 1, emp)] 1 rfl rfl (by decide) (by decide)
  have hbw4 := hbw3.alloc hbw3.size (.cells #[.int .i64 3, .int .i64 1, .string ⟨#[]⟩] 28)
  have Ha4 := Lib.hid (RdP.stepA Ha.out (.cells #[.int .i64 3, .int .i64 1, .string ⟨#[]⟩] 28))
  clear Ha
  have Ha := Ha4
  clear Ha4
  have Hc04 := Lib.hid (RdP.stepA Hc0.out (.cells #[.int .i64 3, .int .i64 1, .string ⟨#[]⟩] 28))
  clear Hc0
  have Hc0 := Hc04
  clear Hc04
  have Hr := Lib.hid hrr
  clear hrr
  refine (same_true [(3, 1, emp)] [(3, 1, emp)] Ac0 (some ⟨w3.heap.size, 0, none⟩) _ _ cc0 1 _ _ _ Hc0.out Hr.out rfl).mono ?_
  rintro e w5 ⟨rfl, hb5⟩
  have hbw5 := hbw4.trans (hb5.mono hbw4.size)
  have Ha5 := Lib.hid (RdP.step Ha.out hb5)
  clear Ha
  have Ha := Ha5
  clear Ha5
  have Hc05 := Lib.hid (RdP.step Hc0.out hb5)
  clear Hc0
  have Hc0 := Hc05
  clear Hc05
  have Hr5 := Lib.hid (RdP.step Hr.out hb5)
  clear Hr
  have Hr := Hr5
  clear Hr5
  clear hb5
  go_wp2_with fail
  clear Hc0
  clear Hr
  refine (psizes_err a A n k _ _ Ha.out (Nat.le_refl _) H1.out).mono ?_
  rintro e w6 ⟨rfl, hb6⟩
  have hbw6 := hbw5.trans (hb6.mono hbw5.size)
  have Ha6 := Lib.hid (RdP.step Ha.out hb6)
  clear Ha
  have Ha := Ha6
  clear Ha6
  clear hb6
  go_wp2_with fail
  go_ret
  exact ⟨rfl, hbw6⟩
theorem meetIdle_ok (a : List Pt) (A : Option Addr) (n k : Nat) (w : World) (ha : RdP w w.heap.size A n k a) (h1 : chk a = 0) :
    Calls Try.prog 7 #[.slice A n k] w fun e w' => e = .returned (.bool true) ∧ Below w.heap.size w w' := by
  have hbw0 : Below w.heap.size w w := Below.refl _ _
  have Ha := Lib.hid ha
  clear ha
  have H1 := Lib.hid h1
  clear h1
  go_enter Try.func7, Try.ntmps7
  have hrp := RdP.builtS w #[.int .i64 3, .int .i64 2, .string ⟨#[]⟩] [(3, 2, emp)] 1 rfl rfl (by decide) (by decide)
  have hbw1 := hbw0.alloc hbw0.size (.cells #[.int .i64 3, .int .i64 2, .string ⟨#[]⟩] 28)
  have Ha1 := Lib.hid (RdP.stepA Ha.out (.cells #[.int .i64 3, .int .i64 2, .string ⟨#[]⟩] 28))
  clear Ha
  have Ha := Ha1
  clear Ha1
  have Hp := Lib.hid hrp
  clear hrp
  have hrq : RdP ((w.alloc (.cells #[.int .i64 3, .int .i64 2, .string ⟨#[]⟩] 28)).alloc (.cells #[.int .i64 1, .int .i64 1, .string ⟨#[]⟩, .int .i64 3, .int .i64 1, .string ⟨#[]⟩] 28)) ((w.alloc (.cells #[.int .i64 3, .int .i64 2, .string ⟨#[]⟩] 28)).alloc (.cells #[.int .i64 1, .int .i64 1, .string ⟨#[]⟩, .int .i64 3, .int .i64 1, .string ⟨#[]⟩] 28)).heap.size (some ⟨w.heap.size + 1, 0, none⟩) 2 2 [(1, 1, emp), (3, 1, emp)] := by
    have q := RdP.builtS (w.alloc (.cells #[.int .i64 3, .int .i64 2, .string ⟨#[]⟩] 28)) #[.int .i64 1, .int .i64 1, .string ⟨#[]⟩, .int .i64 3, .int .i64 1, .string ⟨#[]⟩] [(1, 1, emp), (3, 1, emp)] 2 rfl rfl (by decide) (by decide)
    simpa only [World.size_alloc] using q
  have hbw2 := hbw1.alloc hbw1.size (.cells #[.int .i64 1, .int .i64 1, .string ⟨#[]⟩, .int .i64 3, .int .i64 1, .string ⟨#[]⟩] 28)
  have Ha2 := Lib.hid (RdP.stepA Ha.out (.cells #[.int .i64 1, .int .i64 1, .string ⟨#[]⟩, .int .i64 3, .int .i64 1, .string ⟨#[]⟩] 28))
  clear Ha
  have Ha := Ha2
  clear Ha2
  have Hp2 := Lib.hid (RdP.stepA Hp.out (.cells #[.int .i64 1, .int .i64 1, .string ⟨#[]⟩, .int .i64 3, .int .i64 1, .string ⟨#[]⟩] 28))
  clear Hp
  have Hp := Hp2
  clear Hp2
  have Hq := Lib.hid hrq
  clear hrq
  go_wp2_with fail
  have hc := meet_rd [(3, 2, emp)] [(1, 1, emp), (3, 1, emp)] (some ⟨w.heap.size, 0, none⟩) (some ⟨w.heap.size + 1, 0, none⟩) 1 2 1 2 _ Hp.out Hq.out
  rw [show meetE [(3, 2, emp)] [(1, 1, emp), (3, 1, emp)] = 0 from by decide] at hc
  rw [show meetC [(3, 2, emp)] [(1, 1, emp), (3, 1, emp)] = [(3, 1, emp)] from by decide] at hc
  rw [show meetD [(3, 2, emp)] [(1, 1, emp), (3, 1, emp)] = [] from by decide] at hc
  refine (hc).mono ?_
  rintro e w3 ⟨Ac0, cc0, Ad0, cd0, rfl, hrc0, hrd0, hb3⟩
  have hbw3 := hbw2.trans (hb3.mono hbw2.size)
  have Ha3 := Lib.hid (RdP.step Ha.out hb3)
  clear Ha
  have Ha := Ha3
  clear Ha3
  have Hp3 := Lib.hid (RdP.step Hp.out hb3)
  clear Hp
  have Hp := Hp3
  clear Hp3
  have Hq3 := Lib.hid (RdP.step Hq.out hb3)
  clear Hq
  have Hq := Hq3
  clear Hq3
  clear hb3
  clear hc
  have Hc0 := Lib.hid hrc0
  clear hrc0
  have Hd0 := Lib.hid hrd0
  clear hrd0
  go_wp2_with fail
  clear Hp
  clear Hq
  clear Hd0
  have hrr := RdP.builtS w3 #[.int .i64 3, .int .i64 1, .string ⟨#[]⟩] [(3, 1, emp)] 1 rfl rfl (by decide) (by decide)
  have hbw4 := hbw3.alloc hbw3.size (.cells #[.int .i64 3, .int .i64 1, .string ⟨#[]⟩] 28)
  have Ha4 := Lib.hid (RdP.stepA Ha.out (.cells #[.int .i64 3, .int .i64 1, .string ⟨#[]⟩] 28))
  clear Ha
  have Ha := Ha4
  clear Ha4
  have Hc04 := Lib.hid (RdP.stepA Hc0.out (.cells #[.int .i64 3, .int .i64 1, .string ⟨#[]⟩] 28))
  clear Hc0
  have Hc0 := Hc04
  clear Hc04
  have Hr := Lib.hid hrr
  clear hrr
  refine (same_true [(3, 1, emp)] [(3, 1, emp)] Ac0 (some ⟨w3.heap.size, 0, none⟩) _ _ cc0 1 _ _ _ Hc0.out Hr.out rfl).mono ?_
  rintro e w5 ⟨rfl, hb5⟩
  have hbw5 := hbw4.trans (hb5.mono hbw4.size)
  have Ha5 := Lib.hid (RdP.step Ha.out hb5)
  clear Ha
  have Ha := Ha5
  clear Ha5
  have Hc05 := Lib.hid (RdP.step Hc0.out hb5)
  clear Hc0
  have Hc0 := Hc05
  clear Hc05
  have Hr5 := Lib.hid (RdP.step Hr.out hb5)
  clear Hr
  have Hr := Hr5
  clear Hr5
  clear hb5
  go_wp2_with fail
  clear Hc0
  clear Hr
  have HL := Lib.hid (meet_all H1.out)
  have HR := Lib.hid (meet_all_left H1.out)
  refine (psizes_good a A n k _ _ Ha.out (Nat.le_refl _) H1.out).mono ?_
  rintro e w6 ⟨rfl, hb6⟩
  have hbw6 := hbw5.trans (hb6.mono hbw5.size)
  have Ha6 := Lib.hid (RdP.step Ha.out hb6)
  clear Ha
  have Ha := Ha6
  clear Ha6
  clear hb6
  go_wp2_with fail
  have hc := all_any (nI (units a)) w6
  refine (hc).mono ?_
  rintro e w7 ⟨Au, cu, rfl, hru, hb7⟩
  have hbw7 := hbw6.trans (hb7.mono hbw6.size)
  have Ha7 := Lib.hid (RdP.step Ha.out hb7)
  clear Ha
  have Ha := Ha7
  clear Ha7
  clear hb7
  clear hc
  have Hu := Lib.hid hru
  clear hru
  go_wp2_with fail
  have hc := meet_rd a (allL (nI (units a))) A Au n ((allL (nI (units a))).length) k cu _ Ha.out Hu.out
  rw [HL.out.1] at hc
  rw [HL.out.2.1] at hc
  rw [HL.out.2.2] at hc
  refine (hc).mono ?_
  rintro e w8 ⟨Ac, cc, Ad, cd, rfl, hrc, hrd, hb8⟩
  have hbw8 := hbw7.trans (hb8.mono hbw7.size)
  have Ha8 := Lib.hid (RdP.step Ha.out hb8)
  clear Ha
  have Ha := Ha8
  clear Ha8
  have Hu8 := Lib.hid (RdP.step Hu.out hb8)
  clear Hu
  have Hu := Hu8
  clear Hu8
  clear hb8
  clear hc
  have Hc := Lib.hid hrc
  clear hrc
  have Hd := Lib.hid hrd
  clear hrd
  go_wp2_with fail
  have hc := all_any (nI (units a)) w8
  refine (hc).mono ?_
  rintro e w9 ⟨Au2, cu2, rfl, hru2, hb9⟩
  have hbw9 := hbw8.trans (hb9.mono hbw8.size)
  have Ha9 := Lib.hid (RdP.step Ha.out hb9)
  clear Ha
  have Ha := Ha9
  clear Ha9
  have Hu9 := Lib.hid (RdP.step Hu.out hb9)
  clear Hu
  have Hu := Hu9
  clear Hu9
  have Hc9 := Lib.hid (RdP.step Hc.out hb9)
  clear Hc
  have Hc := Hc9
  clear Hc9
  have Hd9 := Lib.hid (RdP.step Hd.out hb9)
  clear Hd
  have Hd := Hd9
  clear Hd9
  clear hb9
  clear hc
  have Hu2 := Lib.hid hru2
  clear hru2
  go_wp2_with fail
  have hc := meet_rd (allL (nI (units a))) a Au2 A ((allL (nI (units a))).length) n cu2 k _ Hu2.out Ha.out
  rw [HR.out.1] at hc
  rw [HR.out.2.1] at hc
  rw [HR.out.2.2] at hc
  refine (hc).mono ?_
  rintro e w10 ⟨Ax, cx, Ay, cy, rfl, hrx, hry, hb10⟩
  have hbw10 := hbw9.trans (hb10.mono hbw9.size)
  have Ha10 := Lib.hid (RdP.step Ha.out hb10)
  clear Ha
  have Ha := Ha10
  clear Ha10
  have Hu10 := Lib.hid (RdP.step Hu.out hb10)
  clear Hu
  have Hu := Hu10
  clear Hu10
  have Hc10 := Lib.hid (RdP.step Hc.out hb10)
  clear Hc
  have Hc := Hc10
  clear Hc10
  have Hd10 := Lib.hid (RdP.step Hd.out hb10)
  clear Hd
  have Hd := Hd10
  clear Hd10
  have Hu210 := Lib.hid (RdP.step Hu2.out hb10)
  clear Hu2
  have Hu2 := Hu210
  clear Hu210
  clear hb10
  clear hc
  have Hx := Lib.hid hrx
  clear hrx
  have Hy := Lib.hid hry
  clear hry
  go_wp2_with fail
  refine (same_true a a Ac A _ _ cc k _ _ _ Hc.out Ha.out rfl).mono ?_
  rintro e w11 ⟨rfl, hb11⟩
  have hbw11 := hbw10.trans (hb11.mono hbw10.size)
  have Ha11 := Lib.hid (RdP.step Ha.out hb11)
  clear Ha
  have Ha := Ha11
  clear Ha11
  have Hu11 := Lib.hid (RdP.step Hu.out hb11)
  clear Hu
  have Hu := Hu11
  clear Hu11
  have Hc11 := Lib.hid (RdP.step Hc.out hb11)
  clear Hc
  have Hc := Hc11
  clear Hc11
  have Hd11 := Lib.hid (RdP.step Hd.out hb11)
  clear Hd
  have Hd := Hd11
  clear Hd11
  have Hu211 := Lib.hid (RdP.step Hu2.out hb11)
  clear Hu2
  have Hu2 := Hu211
  clear Hu211
  have Hx11 := Lib.hid (RdP.step Hx.out hb11)
  clear Hx
  have Hx := Hx11
  clear Hx11
  have Hy11 := Lib.hid (RdP.step Hy.out hb11)
  clear Hy
  have Hy := Hy11
  clear Hy11
  clear hb11
  go_wp2_with fail
  have hc := all_any (nO (units a)) w11
  refine (hc).mono ?_
  rintro e w12 ⟨Av, cv, rfl, hrv, hb12⟩
  have hbw12 := hbw11.trans (hb12.mono hbw11.size)
  have Ha12 := Lib.hid (RdP.step Ha.out hb12)
  clear Ha
  have Ha := Ha12
  clear Ha12
  have Hu12 := Lib.hid (RdP.step Hu.out hb12)
  clear Hu
  have Hu := Hu12
  clear Hu12
  have Hc12 := Lib.hid (RdP.step Hc.out hb12)
  clear Hc
  have Hc := Hc12
  clear Hc12
  have Hd12 := Lib.hid (RdP.step Hd.out hb12)
  clear Hd
  have Hd := Hd12
  clear Hd12
  have Hu212 := Lib.hid (RdP.step Hu2.out hb12)
  clear Hu2
  have Hu2 := Hu212
  clear Hu212
  have Hx12 := Lib.hid (RdP.step Hx.out hb12)
  clear Hx
  have Hx := Hx12
  clear Hx12
  have Hy12 := Lib.hid (RdP.step Hy.out hb12)
  clear Hy
  have Hy := Hy12
  clear Hy12
  clear hb12
  clear hc
  have Hv := Lib.hid hrv
  clear hrv
  go_wp2_with fail
  refine (same_true (allL (nO (units a))) (allL (nO (units a))) Ad Av _ _ cd cv _ _ _ Hd.out Hv.out rfl).mono ?_
  rintro e w13 ⟨rfl, hb13⟩
  have hbw13 := hbw12.trans (hb13.mono hbw12.size)
  have Ha13 := Lib.hid (RdP.step Ha.out hb13)
  clear Ha
  have Ha := Ha13
  clear Ha13
  have Hu13 := Lib.hid (RdP.step Hu.out hb13)
  clear Hu
  have Hu := Hu13
  clear Hu13
  have Hc13 := Lib.hid (RdP.step Hc.out hb13)
  clear Hc
  have Hc := Hc13
  clear Hc13
  have Hd13 := Lib.hid (RdP.step Hd.out hb13)
  clear Hd
  have Hd := Hd13
  clear Hd13
  have Hu213 := Lib.hid (RdP.step Hu2.out hb13)
  clear Hu2
  have Hu2 := Hu213
  clear Hu213
  have Hx13 := Lib.hid (RdP.step Hx.out hb13)
  clear Hx
  have Hx := Hx13
  clear Hx13
  have Hy13 := Lib.hid (RdP.step Hy.out hb13)
  clear Hy
  have Hy := Hy13
  clear Hy13
  have Hv13 := Lib.hid (RdP.step Hv.out hb13)
  clear Hv
  have Hv := Hv13
  clear Hv13
  clear hb13
  go_wp2_with fail
  have hc := all_any (nO (units a)) w13
  refine (hc).mono ?_
  rintro e w14 ⟨Av2, cv2, rfl, hrv2, hb14⟩
  have hbw14 := hbw13.trans (hb14.mono hbw13.size)
  have Ha14 := Lib.hid (RdP.step Ha.out hb14)
  clear Ha
  have Ha := Ha14
  clear Ha14
  have Hu14 := Lib.hid (RdP.step Hu.out hb14)
  clear Hu
  have Hu := Hu14
  clear Hu14
  have Hc14 := Lib.hid (RdP.step Hc.out hb14)
  clear Hc
  have Hc := Hc14
  clear Hc14
  have Hd14 := Lib.hid (RdP.step Hd.out hb14)
  clear Hd
  have Hd := Hd14
  clear Hd14
  have Hu214 := Lib.hid (RdP.step Hu2.out hb14)
  clear Hu2
  have Hu2 := Hu214
  clear Hu214
  have Hx14 := Lib.hid (RdP.step Hx.out hb14)
  clear Hx
  have Hx := Hx14
  clear Hx14
  have Hy14 := Lib.hid (RdP.step Hy.out hb14)
  clear Hy
  have Hy := Hy14
  clear Hy14
  have Hv14 := Lib.hid (RdP.step Hv.out hb14)
  clear Hv
  have Hv := Hv14
  clear Hv14
  clear hb14
  clear hc
  have Hv2 := Lib.hid hrv2
  clear hrv2
  go_wp2_with fail
  refine (same_true (allL (nO (units a))) (allL (nO (units a))) Ax Av2 _ _ cx cv2 _ _ _ Hx.out Hv2.out rfl).mono ?_
  rintro e w15 ⟨rfl, hb15⟩
  have hbw15 := hbw14.trans (hb15.mono hbw14.size)
  have Ha15 := Lib.hid (RdP.step Ha.out hb15)
  clear Ha
  have Ha := Ha15
  clear Ha15
  have Hu15 := Lib.hid (RdP.step Hu.out hb15)
  clear Hu
  have Hu := Hu15
  clear Hu15
  have Hc15 := Lib.hid (RdP.step Hc.out hb15)
  clear Hc
  have Hc := Hc15
  clear Hc15
  have Hd15 := Lib.hid (RdP.step Hd.out hb15)
  clear Hd
  have Hd := Hd15
  clear Hd15
  have Hu215 := Lib.hid (RdP.step Hu2.out hb15)
  clear Hu2
  have Hu2 := Hu215
  clear Hu215
  have Hx15 := Lib.hid (RdP.step Hx.out hb15)
  clear Hx
  have Hx := Hx15
  clear Hx15
  have Hy15 := Lib.hid (RdP.step Hy.out hb15)
  clear Hy
  have Hy := Hy15
  clear Hy15
  have Hv15 := Lib.hid (RdP.step Hv.out hb15)
  clear Hv
  have Hv := Hv15
  clear Hv15
  have Hv215 := Lib.hid (RdP.step Hv2.out hb15)
  clear Hv2
  have Hv2 := Hv215
  clear Hv215
  clear hb15
  go_wp2_with fail
  refine (same_true a a Ay A _ _ cy k _ _ _ Hy.out Ha.out rfl).mono ?_
  rintro e w16 ⟨rfl, hb16⟩
  have hbw16 := hbw15.trans (hb16.mono hbw15.size)
  have Ha16 := Lib.hid (RdP.step Ha.out hb16)
  clear Ha
  have Ha := Ha16
  clear Ha16
  have Hu16 := Lib.hid (RdP.step Hu.out hb16)
  clear Hu
  have Hu := Hu16
  clear Hu16
  have Hc16 := Lib.hid (RdP.step Hc.out hb16)
  clear Hc
  have Hc := Hc16
  clear Hc16
  have Hd16 := Lib.hid (RdP.step Hd.out hb16)
  clear Hd
  have Hd := Hd16
  clear Hd16
  have Hu216 := Lib.hid (RdP.step Hu2.out hb16)
  clear Hu2
  have Hu2 := Hu216
  clear Hu216
  have Hx16 := Lib.hid (RdP.step Hx.out hb16)
  clear Hx
  have Hx := Hx16
  clear Hx16
  have Hy16 := Lib.hid (RdP.step Hy.out hb16)
  clear Hy
  have Hy := Hy16
  clear Hy16
  have Hv16 := Lib.hid (RdP.step Hv.out hb16)
  clear Hv
  have Hv := Hv16
  clear Hv16
  have Hv216 := Lib.hid (RdP.step Hv2.out hb16)
  clear Hv2
  have Hv2 := Hv216
  clear Hv216
  clear hb16
  go_wp2_with fail
  go_ret
  exact ⟨rfl, hbw16⟩
theorem walk_MeetIdle (v : Value) (a : List Pt) (w : World) (ha : IsParts w v a) :
    Calls Try.prog 7 #[v] w fun e w' => e = .returned (.bool true) ∧ Below w.heap.size w w' := by
  obtain ⟨A, n, k, rfl, ha⟩ := ha
  by_cases h1 : chk a = 0
  · exact meetIdle_ok a A n k w ha h1
  · exact meetIdle_err a A n k w ha h1
end Go.Proofs.Ytgocddkoancdiaa
