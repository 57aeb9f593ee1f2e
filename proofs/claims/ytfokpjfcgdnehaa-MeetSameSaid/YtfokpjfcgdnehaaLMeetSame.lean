/- MeetSame: the walk. One and then what is left of the other. -/
import Derived.Test.YtfokpjfcgdnehaaMeet
import Derived.Test.YtfokpjfcgdnehaaApply
import Derived.Test.YtfokpjfcgdnehaaTurnLaw
import Derived.Test.YtfokpjfcgdnehaaSame
import Derived.Test.YtfokpjfcgdnehaaOpenParts
namespace Go.Proofs.Ytfokpjfcgdnehaa
open Go.ChangeShapes Go.WideShapes Go.RowKit
set_option linter.unusedVariables false
set_option linter.unusedSimpArgs false
set_option maxRecDepth 100000
set_option maxHeartbeats 4000000


theorem same_fits {a b : List Pt} (h : meetE a b = 0) (s : ByteArray) : doE (compL a (meetD a b)) s = doE a s := by
  have hc := meet_chk h
  have e := (meet_comp h).1
  have hk := (comp_chk e).2.2.2.2
  unfold doE fitsE
  rw [if_neg (show ¬ chk (compL a (meetD a b)) ≠ 0 by omega), if_neg (show ¬ chk a ≠ 0 by have := hc.1; omega), (comp_sizes e).1]
theorem same_do {a b : List Pt} (h : meetE a b = 0) {s : ByteArray} (h1 : doE a s = 0) : doE (meetD a b) (doS a s) = 0 ∧ doS (compL a (meetD a b)) s = doS (meetD a b) (doS a s) := by
  have hg := (meet_good h).2
  have hz := (meet_sizes h).2.1
  have h2 : doE (meetD a b) (doS a s) = 0 := do_zero hg (by rw [do_size h1, hz])
  exact ⟨h2, (comp_do h1 h2).2.2⟩

theorem meetSame_err (a b : List Pt) (A A' : Option Addr) (n n' k k' : Nat) (s : ByteArray) (hs : s.size ≤ 140737488351232) (w : World) (ha : RdP w w.heap.size A n k a) (hb : RdP w w.heap.size A' n' k' b) (h1 : meetE a b ≠ 0) :
    Calls Try.prog 8 #[.slice A n k, .slice A' n' k', .string s] w fun e w' => e = .returned (.bool true) ∧ Below w.heap.size w w' := by
  have hbw0 : Below w.heap.size w w := Below.refl _ _
  have Ha := Lib.hid ha
  clear ha
  have Hb := Lib.hid hb
  clear hb
  have hne : (meetE a b != 0) = true := by simpa using h1
  have H1 := Lib.hid h1
  clear h1
  go_enter Try.func8, Try.ntmps8
  go_wp2_with fail
  have hc := put_any ⟨#[97]⟩ (by decide) w
  refine (hc).mono ?_
  rintro e w1 ⟨Ap, rfl, hrp, hb1⟩
  have hbw1 := hbw0.trans (hb1.mono hbw0.size)
  have Ha1 := Lib.hid (RdP.step Ha.out hb1)
  clear Ha
  have Ha := Ha1
  clear Ha1
  have Hb1 := Lib.hid (RdP.step Hb.out hb1)
  clear Hb
  have Hb := Hb1
  clear Hb1
  clear hb1
  clear hc
  have Hp := Lib.hid hrp
  clear hrp
  go_wp2_with fail
  have hc := put_any ⟨#[98]⟩ (by decide) w1
  refine (hc).mono ?_
  rintro e w2 ⟨Aq, rfl, hrq, hb2⟩
  have hbw2 := hbw1.trans (hb2.mono hbw1.size)
  have Ha2 := Lib.hid (RdP.step Ha.out hb2)
  clear Ha
  have Ha := Ha2
  clear Ha2
  have Hb2 := Lib.hid (RdP.step Hb.out hb2)
  clear Hb
  have Hb := Hb2
  clear Hb2
  have Hp2 := Lib.hid (RdP.step Hp.out hb2)
  clear Hp
  have Hp := Hp2
  clear Hp2
  clear hb2
  clear hc
  have Hq := Lib.hid hrq
  clear hrq
  go_wp2_with fail
  have hc := meet_rd [(2, 0, ⟨#[97]⟩)] [(2, 0, ⟨#[98]⟩)] Ap Aq 1 1 1 1 _ Hp.out Hq.out
  rw [show meetE [(2, 0, ⟨#[97]⟩)] [(2, 0, ⟨#[98]⟩)] = 0 from by decide] at hc
  rw [show meetC [(2, 0, ⟨#[97]⟩)] [(2, 0, ⟨#[98]⟩)] = [(2, 0, ⟨#[97]⟩), (1, 1, emp)] from by decide] at hc
  rw [show meetD [(2, 0, ⟨#[97]⟩)] [(2, 0, ⟨#[98]⟩)] = [(1, 1, emp), (2, 0, ⟨#[98]⟩)] from by decide] at hc
  refine (hc).mono ?_
  rintro e w3 ⟨Ac0, cc0, Ad0, cd0, rfl, hrc0, hrd0, hb3⟩
  have hbw3 := hbw2.trans (hb3.mono hbw2.size)
  have Ha3 := Lib.hid (RdP.step Ha.out hb3)
  clear Ha
  have Ha := Ha3
  clear Ha3
  have Hb3 := Lib.hid (RdP.step Hb.out hb3)
  clear Hb
  have Hb := Hb3
  clear Hb3
  have Hp3 := Lib.hid (RdP.step Hp.out hb3)
  clear Hp
  have Hp := Hp3
  clear Hp3
  have Hq3 := Lib.hid (RdP.step Hq.out hb3)
  clear Hq
  have Hq := Hq3
  clear Hq3
  clear hb3
  clear hc
  have Hc0 := Lib.hid hrc0
  clear hrc0
  have Hd0 := Lib.hid hrd0
  clear hrd0
  go_wp2_with fail
  clear Hp
  clear Hq
  have hrr := RdP.builtS w3 #[.int .i64 2, .int .i64 0, .string ⟨#[97]⟩, .int .i64 1, .int .i64 1, .string ⟨#[]⟩] [(2, 0, ⟨#[97]⟩), (1, 1, emp)] 2 rfl rfl (by decide) (by decide)
  have hbw4 := hbw3.alloc hbw3.size (.cells #[.int .i64 2, .int .i64 0, .string ⟨#[97]⟩, .int .i64 1, .int .i64 1, .string ⟨#[]⟩] 36)
  have Ha4 := Lib.hid (RdP.stepA Ha.out (.cells #[.int .i64 2, .int .i64 0, .string ⟨#[97]⟩, .int .i64 1, .int .i64 1, .string ⟨#[]⟩] 36))
  clear Ha
  have Ha := Ha4
  clear Ha4
  have Hb4 := Lib.hid (RdP.stepA Hb.out (.cells #[.int .i64 2, .int .i64 0, .string ⟨#[97]⟩, .int .i64 1, .int .i64 1, .string ⟨#[]⟩] 36))
  clear Hb
  have Hb := Hb4
  clear Hb4
  have Hc04 := Lib.hid (RdP.stepA Hc0.out (.cells #[.int .i64 2, .int .i64 0, .string ⟨#[97]⟩, .int .i64 1, .int .i64 1, .string ⟨#[]⟩] 36))
  clear Hc0
  have Hc0 := Hc04
  clear Hc04
  have Hd04 := Lib.hid (RdP.stepA Hd0.out (.cells #[.int .i64 2, .int .i64 0, .string ⟨#[97]⟩, .int .i64 1, .int .i64 1, .string ⟨#[]⟩] 36))
  clear Hd0
  have Hd0 := Hd04
  clear Hd04
  have Hr := Lib.hid hrr
  clear hrr
  refine (same_true [(2, 0, ⟨#[97]⟩), (1, 1, emp)] [(2, 0, ⟨#[97]⟩), (1, 1, emp)] Ac0 (some ⟨w3.heap.size, 0, none⟩) _ _ cc0 2 _ _ _ Hc0.out Hr.out rfl).mono ?_
  rintro e w5 ⟨rfl, hb5⟩
  have hbw5 := hbw4.trans (hb5.mono hbw4.size)
  have Ha5 := Lib.hid (RdP.step Ha.out hb5)
  clear Ha
  have Ha := Ha5
  clear Ha5
  have Hb5 := Lib.hid (RdP.step Hb.out hb5)
  clear Hb
  have Hb := Hb5
  clear Hb5
  have Hc05 := Lib.hid (RdP.step Hc0.out hb5)
  clear Hc0
  have Hc0 := Hc05
  clear Hc05
  have Hd05 := Lib.hid (RdP.step Hd0.out hb5)
  clear Hd0
  have Hd0 := Hd05
  clear Hd05
  have Hr5 := Lib.hid (RdP.step Hr.out hb5)
  clear Hr
  have Hr := Hr5
  clear Hr5
  clear hb5
  go_wp2_with fail
  clear Hc0
  clear Hr
  have hrr := RdP.builtS w5 #[.int .i64 1, .int .i64 1, .string ⟨#[]⟩, .int .i64 2, .int .i64 0, .string ⟨#[98]⟩] [(1, 1, emp), (2, 0, ⟨#[98]⟩)] 2 rfl rfl (by decide) (by decide)
  have hbw6 := hbw5.alloc hbw5.size (.cells #[.int .i64 1, .int .i64 1, .string ⟨#[]⟩, .int .i64 2, .int .i64 0, .string ⟨#[98]⟩] 36)
  have Ha6 := Lib.hid (RdP.stepA Ha.out (.cells #[.int .i64 1, .int .i64 1, .string ⟨#[]⟩, .int .i64 2, .int .i64 0, .string ⟨#[98]⟩] 36))
  clear Ha
  have Ha := Ha6
  clear Ha6
  have Hb6 := Lib.hid (RdP.stepA Hb.out (.cells #[.int .i64 1, .int .i64 1, .string ⟨#[]⟩, .int .i64 2, .int .i64 0, .string ⟨#[98]⟩] 36))
  clear Hb
  have Hb := Hb6
  clear Hb6
  have Hd06 := Lib.hid (RdP.stepA Hd0.out (.cells #[.int .i64 1, .int .i64 1, .string ⟨#[]⟩, .int .i64 2, .int .i64 0, .string ⟨#[98]⟩] 36))
  clear Hd0
  have Hd0 := Hd06
  clear Hd06
  have Hr := Lib.hid hrr
  clear hrr
  refine (same_true [(1, 1, emp), (2, 0, ⟨#[98]⟩)] [(1, 1, emp), (2, 0, ⟨#[98]⟩)] Ad0 (some ⟨w5.heap.size, 0, none⟩) _ _ cd0 2 _ _ _ Hd0.out Hr.out rfl).mono ?_
  rintro e w7 ⟨rfl, hb7⟩
  have hbw7 := hbw6.trans (hb7.mono hbw6.size)
  have Ha7 := Lib.hid (RdP.step Ha.out hb7)
  clear Ha
  have Ha := Ha7
  clear Ha7
  have Hb7 := Lib.hid (RdP.step Hb.out hb7)
  clear Hb
  have Hb := Hb7
  clear Hb7
  have Hd07 := Lib.hid (RdP.step Hd0.out hb7)
  clear Hd0
  have Hd0 := Hd07
  clear Hd07
  have Hr7 := Lib.hid (RdP.step Hr.out hb7)
  clear Hr
  have Hr := Hr7
  clear Hr7
  clear hb7
  go_wp2_with fail
  clear Hd0
  clear Hr
  have hc := meet_rd a b A A' n n' k k' _ Ha.out Hb.out
  rw [(meet_err H1.out).1] at hc
  rw [(meet_err H1.out).2] at hc
  refine (hc).mono ?_
  rintro e w8 ⟨Ac, cc, Ad, cd, rfl, hrc, hrd, hb8⟩
  have hbw8 := hbw7.trans (hb8.mono hbw7.size)
  have Ha8 := Lib.hid (RdP.step Ha.out hb8)
  clear Ha
  have Ha := Ha8
  clear Ha8
  have Hb8 := Lib.hid (RdP.step Hb.out hb8)
  clear Hb
  have Hb := Hb8
  clear Hb8
  clear hb8
  clear hc
  have Hc := Lib.hid hrc
  clear hrc
  have Hd := Lib.hid hrd
  clear hrd
  go_wp2_with fail
  go_ret
  exact ⟨rfl, hbw8⟩
theorem meetSame_no (a b : List Pt) (A A' : Option Addr) (n n' k k' : Nat) (s : ByteArray) (hs : s.size ≤ 140737488351232) (w : World) (ha : RdP w w.heap.size A n k a) (hb : RdP w w.heap.size A' n' k' b) (h1 : meetE a b = 0) (h2 : doE a s ≠ 0) :
    Calls Try.prog 8 #[.slice A n k, .slice A' n' k', .string s] w fun e w' => e = .returned (.bool true) ∧ Below w.heap.size w w' := by
  have hbw0 : Below w.heap.size w w := Below.refl _ _
  have Ha := Lib.hid ha
  clear ha
  have Hb := Lib.hid hb
  clear hb
  have hne : (doE a s != 0) = true := by simpa using h2
  have H1 := Lib.hid h1
  clear h1
  have H2 := Lib.hid h2
  clear h2
  go_enter Try.func8, Try.ntmps8
  go_wp2_with fail
  have hc := put_any ⟨#[97]⟩ (by decide) w
  refine (hc).mono ?_
  rintro e w1 ⟨Ap, rfl, hrp, hb1⟩
  have hbw1 := hbw0.trans (hb1.mono hbw0.size)
  have Ha1 := Lib.hid (RdP.step Ha.out hb1)
  clear Ha
  have Ha := Ha1
  clear Ha1
  have Hb1 := Lib.hid (RdP.step Hb.out hb1)
  clear Hb
  have Hb := Hb1
  clear Hb1
  clear hb1
  clear hc
  have Hp := Lib.hid hrp
  clear hrp
  go_wp2_with fail
  have hc := put_any ⟨#[98]⟩ (by decide) w1
  refine (hc).mono ?_
  rintro e w2 ⟨Aq, rfl, hrq, hb2⟩
  have hbw2 := hbw1.trans (hb2.mono hbw1.size)
  have Ha2 := Lib.hid (RdP.step Ha.out hb2)
  clear Ha
  have Ha := Ha2
  clear Ha2
  have Hb2 := Lib.hid (RdP.step Hb.out hb2)
  clear Hb
  have Hb := Hb2
  clear Hb2
  have Hp2 := Lib.hid (RdP.step Hp.out hb2)
  clear Hp
  have Hp := Hp2
  clear Hp2
  clear hb2
  clear hc
  have Hq := Lib.hid hrq
  clear hrq
  go_wp2_with fail
  have hc := meet_rd [(2, 0, ⟨#[97]⟩)] [(2, 0, ⟨#[98]⟩)] Ap Aq 1 1 1 1 _ Hp.out Hq.out
  rw [show meetE [(2, 0, ⟨#[97]⟩)] [(2, 0, ⟨#[98]⟩)] = 0 from by decide] at hc
  rw [show meetC [(2, 0, ⟨#[97]⟩)] [(2, 0, ⟨#[98]⟩)] = [(2, 0, ⟨#[97]⟩), (1, 1, emp)] from by decide] at hc
  rw [show meetD [(2, 0, ⟨#[97]⟩)] [(2, 0, ⟨#[98]⟩)] = [(1, 1, emp), (2, 0, ⟨#[98]⟩)] from by decide] at hc
  refine (hc).mono ?_
  rintro e w3 ⟨Ac0, cc0, Ad0, cd0, rfl, hrc0, hrd0, hb3⟩
  have hbw3 := hbw2.trans (hb3.mono hbw2.size)
  have Ha3 := Lib.hid (RdP.step Ha.out hb3)
  clear Ha
  have Ha := Ha3
  clear Ha3
  have Hb3 := Lib.hid (RdP.step Hb.out hb3)
  clear Hb
  have Hb := Hb3
  clear Hb3
  have Hp3 := Lib.hid (RdP.step Hp.out hb3)
  clear Hp
  have Hp := Hp3
  clear Hp3
  have Hq3 := Lib.hid (RdP.step Hq.out hb3)
  clear Hq
  have Hq := Hq3
  clear Hq3
  clear hb3
  clear hc
  have Hc0 := Lib.hid hrc0
  clear hrc0
  have Hd0 := Lib.hid hrd0
  clear hrd0
  go_wp2_with fail
  clear Hp
  clear Hq
  have hrr := RdP.builtS w3 #[.int .i64 2, .int .i64 0, .string ⟨#[97]⟩, .int .i64 1, .int .i64 1, .string ⟨#[]⟩] [(2, 0, ⟨#[97]⟩), (1, 1, emp)] 2 rfl rfl (by decide) (by decide)
  have hbw4 := hbw3.alloc hbw3.size (.cells #[.int .i64 2, .int .i64 0, .string ⟨#[97]⟩, .int .i64 1, .int .i64 1, .string ⟨#[]⟩] 36)
  have Ha4 := Lib.hid (RdP.stepA Ha.out (.cells #[.int .i64 2, .int .i64 0, .string ⟨#[97]⟩, .int .i64 1, .int .i64 1, .string ⟨#[]⟩] 36))
  clear Ha
  have Ha := Ha4
  clear Ha4
  have Hb4 := Lib.hid (RdP.stepA Hb.out (.cells #[.int .i64 2, .int .i64 0, .string ⟨#[97]⟩, .int .i64 1, .int .i64 1, .string ⟨#[]⟩] 36))
  clear Hb
  have Hb := Hb4
  clear Hb4
  have Hc04 := Lib.hid (RdP.stepA Hc0.out (.cells #[.int .i64 2, .int .i64 0, .string ⟨#[97]⟩, .int .i64 1, .int .i64 1, .string ⟨#[]⟩] 36))
  clear Hc0
  have Hc0 := Hc04
  clear Hc04
  have Hd04 := Lib.hid (RdP.stepA Hd0.out (.cells #[.int .i64 2, .int .i64 0, .string ⟨#[97]⟩, .int .i64 1, .int .i64 1, .string ⟨#[]⟩] 36))
  clear Hd0
  have Hd0 := Hd04
  clear Hd04
  have Hr := Lib.hid hrr
  clear hrr
  refine (same_true [(2, 0, ⟨#[97]⟩), (1, 1, emp)] [(2, 0, ⟨#[97]⟩), (1, 1, emp)] Ac0 (some ⟨w3.heap.size, 0, none⟩) _ _ cc0 2 _ _ _ Hc0.out Hr.out rfl).mono ?_
  rintro e w5 ⟨rfl, hb5⟩
  have hbw5 := hbw4.trans (hb5.mono hbw4.size)
  have Ha5 := Lib.hid (RdP.step Ha.out hb5)
  clear Ha
  have Ha := Ha5
  clear Ha5
  have Hb5 := Lib.hid (RdP.step Hb.out hb5)
  clear Hb
  have Hb := Hb5
  clear Hb5
  have Hc05 := Lib.hid (RdP.step Hc0.out hb5)
  clear Hc0
  have Hc0 := Hc05
  clear Hc05
  have Hd05 := Lib.hid (RdP.step Hd0.out hb5)
  clear Hd0
  have Hd0 := Hd05
  clear Hd05
  have Hr5 := Lib.hid (RdP.step Hr.out hb5)
  clear Hr
  have Hr := Hr5
  clear Hr5
  clear hb5
  go_wp2_with fail
  clear Hc0
  clear Hr
  have hrr := RdP.builtS w5 #[.int .i64 1, .int .i64 1, .string ⟨#[]⟩, .int .i64 2, .int .i64 0, .string ⟨#[98]⟩] [(1, 1, emp), (2, 0, ⟨#[98]⟩)] 2 rfl rfl (by decide) (by decide)
  have hbw6 := hbw5.alloc hbw5.size (.cells #[.int .i64 1, .int .i64 1, .string ⟨#[]⟩, .int .i64 2, .int .i64 0, .string ⟨#[98]⟩] 36)
  have Ha6 := Lib.hid (RdP.stepA Ha.out (.cells #[.int .i64 1, .int .i64 1, .string ⟨#[]⟩, .int .i64 2, .int .i64 0, .string ⟨#[98]⟩] 36))
  clear Ha
  have Ha := Ha6
  clear Ha6
  have Hb6 := Lib.hid (RdP.stepA Hb.out (.cells #[.int .i64 1, .int .i64 1, .string ⟨#[]⟩, .int .i64 2, .int .i64 0, .string ⟨#[98]⟩] 36))
  clear Hb
  have Hb := Hb6
  clear Hb6
  have Hd06 := Lib.hid (RdP.stepA Hd0.out (.cells #[.int .i64 1, .int .i64 1, .string ⟨#[]⟩, .int .i64 2, .int .i64 0, .string ⟨#[98]⟩] 36))
  clear Hd0
  have Hd0 := Hd06
  clear Hd06
  have Hr := Lib.hid hrr
  clear hrr
  refine (same_true [(1, 1, emp), (2, 0, ⟨#[98]⟩)] [(1, 1, emp), (2, 0, ⟨#[98]⟩)] Ad0 (some ⟨w5.heap.size, 0, none⟩) _ _ cd0 2 _ _ _ Hd0.out Hr.out rfl).mono ?_
  rintro e w7 ⟨rfl, hb7⟩
  have hbw7 := hbw6.trans (hb7.mono hbw6.size)
  have Ha7 := Lib.hid (RdP.step Ha.out hb7)
  clear Ha
  have Ha := Ha7
  clear Ha7
  have Hb7 := Lib.hid (RdP.step Hb.out hb7)
  clear Hb
  have Hb := Hb7
  clear Hb7
  have Hd07 := Lib.hid (RdP.step Hd0.out hb7)
  clear Hd0
  have Hd0 := Hd07
  clear Hd07
  have Hr7 := Lib.hid (RdP.step Hr.out hb7)
  clear Hr
  have Hr := Hr7
  clear Hr7
  clear hb7
  go_wp2_with fail
  clear Hd0
  clear Hr
  have hc := meet_rd a b A A' n n' k k' _ Ha.out Hb.out
  rw [H1.out] at hc
  refine (hc).mono ?_
  rintro e w8 ⟨Ac, cc, Ad, cd, rfl, hrc, hrd, hb8⟩
  have hbw8 := hbw7.trans (hb8.mono hbw7.size)
  have Ha8 := Lib.hid (RdP.step Ha.out hb8)
  clear Ha
  have Ha := Ha8
  clear Ha8
  have Hb8 := Lib.hid (RdP.step Hb.out hb8)
  clear Hb
  have Hb := Hb8
  clear Hb8
  clear hb8
  clear hc
  have Hc := Lib.hid hrc
  clear hrc
  have Hd := Lib.hid hrd
  clear hrd
  go_wp2_with fail
  have HM := Lib.hid (meet_comp H1.out)
  have HF := Lib.hid (same_fits H1.out s)
  have hc := comp_rd a (meetD a b) A Ad n ((meetD a b).length) k cd _ Ha.out Hd.out
  rw [HM.out.1] at hc
  refine (hc).mono ?_
  rintro e w9 ⟨Ax, cx, rfl, hrx, hb9⟩
  have hbw9 := hbw8.trans (hb9.mono hbw8.size)
  have Ha9 := Lib.hid (RdP.step Ha.out hb9)
  clear Ha
  have Ha := Ha9
  clear Ha9
  have Hb9 := Lib.hid (RdP.step Hb.out hb9)
  clear Hb
  have Hb := Hb9
  clear Hb9
  have Hc9 := Lib.hid (RdP.step Hc.out hb9)
  clear Hc
  have Hc := Hc9
  clear Hc9
  have Hd9 := Lib.hid (RdP.step Hd.out hb9)
  clear Hd
  have Hd := Hd9
  clear Hd9
  clear hb9
  clear hc
  have Hx := Lib.hid hrx
  clear hrx
  go_wp2_with fail
  have hc := comp_rd b (meetC a b) A' Ac n' ((meetC a b).length) k' cc _ Hb.out Hc.out
  rw [HM.out.2.1] at hc
  refine (hc).mono ?_
  rintro e w10 ⟨Ay, cy, rfl, hry, hb10⟩
  have hbw10 := hbw9.trans (hb10.mono hbw9.size)
  have Ha10 := Lib.hid (RdP.step Ha.out hb10)
  clear Ha
  have Ha := Ha10
  clear Ha10
  have Hb10 := Lib.hid (RdP.step Hb.out hb10)
  clear Hb
  have Hb := Hb10
  clear Hb10
  have Hc10 := Lib.hid (RdP.step Hc.out hb10)
  clear Hc
  have Hc := Hc10
  clear Hc10
  have Hd10 := Lib.hid (RdP.step Hd.out hb10)
  clear Hd
  have Hd := Hd10
  clear Hd10
  have Hx10 := Lib.hid (RdP.step Hx.out hb10)
  clear Hx
  have Hx := Hx10
  clear Hx10
  clear hb10
  clear hc
  have Hy := Lib.hid hry
  clear hry
  go_wp2_with fail
  refine (same_true (compL a (meetD a b)) (compL b (meetC a b)) Ax Ay _ _ cx cy _ _ _ Hx.out Hy.out HM.out.2.2).mono ?_
  rintro e w11 ⟨rfl, hb11⟩
  have hbw11 := hbw10.trans (hb11.mono hbw10.size)
  have Ha11 := Lib.hid (RdP.step Ha.out hb11)
  clear Ha
  have Ha := Ha11
  clear Ha11
  have Hb11 := Lib.hid (RdP.step Hb.out hb11)
  clear Hb
  have Hb := Hb11
  clear Hb11
  have Hc11 := Lib.hid (RdP.step Hc.out hb11)
  clear Hc
  have Hc := Hc11
  clear Hc11
  have Hd11 := Lib.hid (RdP.step Hd.out hb11)
  clear Hd
  have Hd := Hd11
  clear Hd11
  have Hx11 := Lib.hid (RdP.step Hx.out hb11)
  clear Hx
  have Hx := Hx11
  clear Hx11
  have Hy11 := Lib.hid (RdP.step Hy.out hb11)
  clear Hy
  have Hy := Hy11
  clear Hy11
  clear hb11
  go_wp2_with fail
  have hc := do_any (compL a (meetD a b)) Ax ((compL a (meetD a b)).length) cx _ s _ Hx.out (Nat.le_refl _) (by omega)
  rw [do_err (by rw [HF.out]; exact H2.out)] at hc
  rw [HF.out] at hc
  refine (hc).mono ?_
  rintro e w12 ⟨rfl, hb12⟩
  have hbw12 := hbw11.trans (hb12.mono hbw11.size)
  have Ha12 := Lib.hid (RdP.step Ha.out hb12)
  clear Ha
  have Ha := Ha12
  clear Ha12
  have Hb12 := Lib.hid (RdP.step Hb.out hb12)
  clear Hb
  have Hb := Hb12
  clear Hb12
  have Hc12 := Lib.hid (RdP.step Hc.out hb12)
  clear Hc
  have Hc := Hc12
  clear Hc12
  have Hd12 := Lib.hid (RdP.step Hd.out hb12)
  clear Hd
  have Hd := Hd12
  clear Hd12
  have Hx12 := Lib.hid (RdP.step Hx.out hb12)
  clear Hx
  have Hx := Hx12
  clear Hx12
  have Hy12 := Lib.hid (RdP.step Hy.out hb12)
  clear Hy
  have Hy := Hy12
  clear Hy12
  clear hb12
  clear hc
  go_wp2_with fail
  have hc := do_any a A n k _ s _ Ha.out (Nat.le_refl _) (by omega)
  rw [do_err H2.out] at hc
  refine (hc).mono ?_
  rintro e w13 ⟨rfl, hb13⟩
  have hbw13 := hbw12.trans (hb13.mono hbw12.size)
  have Ha13 := Lib.hid (RdP.step Ha.out hb13)
  clear Ha
  have Ha := Ha13
  clear Ha13
  have Hb13 := Lib.hid (RdP.step Hb.out hb13)
  clear Hb
  have Hb := Hb13
  clear Hb13
  have Hc13 := Lib.hid (RdP.step Hc.out hb13)
  clear Hc
  have Hc := Hc13
  clear Hc13
  have Hd13 := Lib.hid (RdP.step Hd.out hb13)
  clear Hd
  have Hd := Hd13
  clear Hd13
  have Hx13 := Lib.hid (RdP.step Hx.out hb13)
  clear Hx
  have Hx := Hx13
  clear Hx13
  have Hy13 := Lib.hid (RdP.step Hy.out hb13)
  clear Hy
  have Hy := Hy13
  clear Hy13
  clear hb13
  clear hc
  go_wp2_with fail
  have hc := do_any (meetD a b) Ad ((meetD a b).length) cd _ ⟨#[]⟩ _ Hd.out (Nat.le_refl _) (by decide)
  refine (hc).mono ?_
  rintro e w14 ⟨rfl, hb14⟩
  have hbw14 := hbw13.trans (hb14.mono hbw13.size)
  have Ha14 := Lib.hid (RdP.step Ha.out hb14)
  clear Ha
  have Ha := Ha14
  clear Ha14
  have Hb14 := Lib.hid (RdP.step Hb.out hb14)
  clear Hb
  have Hb := Hb14
  clear Hb14
  have Hc14 := Lib.hid (RdP.step Hc.out hb14)
  clear Hc
  have Hc := Hc14
  clear Hc14
  have Hd14 := Lib.hid (RdP.step Hd.out hb14)
  clear Hd
  have Hd := Hd14
  clear Hd14
  have Hx14 := Lib.hid (RdP.step Hx.out hb14)
  clear Hx
  have Hx := Hx14
  clear Hx14
  have Hy14 := Lib.hid (RdP.step Hy.out hb14)
  clear Hy
  have Hy := Hy14
  clear Hy14
  clear hb14
  clear hc
  go_wp2_with fail
  go_ret
  exact ⟨rfl, hbw14⟩
theorem meetSame_ok (a b : List Pt) (A A' : Option Addr) (n n' k k' : Nat) (s : ByteArray) (hs : s.size ≤ 140737488351232) (w : World) (ha : RdP w w.heap.size A n k a) (hb : RdP w w.heap.size A' n' k' b) (h1 : meetE a b = 0) (h2 : doE a s = 0) :
    Calls Try.prog 8 #[.slice A n k, .slice A' n' k', .string s] w fun e w' => e = .returned (.bool true) ∧ Below w.heap.size w w' := by
  have hbw0 : Below w.heap.size w w := Below.refl _ _
  have Ha := Lib.hid ha
  clear ha
  have Hb := Lib.hid hb
  clear hb
  have H1 := Lib.hid h1
  clear h1
  have H2 := Lib.hid h2
  clear h2
  go_enter Try.func8, Try.ntmps8
  go_wp2_with fail
  have hc := put_any ⟨#[97]⟩ (by decide) w
  refine (hc).mono ?_
  rintro e w1 ⟨Ap, rfl, hrp, hb1⟩
  have hbw1 := hbw0.trans (hb1.mono hbw0.size)
  have Ha1 := Lib.hid (RdP.step Ha.out hb1)
  clear Ha
  have Ha := Ha1
  clear Ha1
  have Hb1 := Lib.hid (RdP.step Hb.out hb1)
  clear Hb
  have Hb := Hb1
  clear Hb1
  clear hb1
  clear hc
  have Hp := Lib.hid hrp
  clear hrp
  go_wp2_with fail
  have hc := put_any ⟨#[98]⟩ (by decide) w1
  refine (hc).mono ?_
  rintro e w2 ⟨Aq, rfl, hrq, hb2⟩
  have hbw2 := hbw1.trans (hb2.mono hbw1.size)
  have Ha2 := Lib.hid (RdP.step Ha.out hb2)
  clear Ha
  have Ha := Ha2
  clear Ha2
  have Hb2 := Lib.hid (RdP.step Hb.out hb2)
  clear Hb
  have Hb := Hb2
  clear Hb2
  have Hp2 := Lib.hid (RdP.step Hp.out hb2)
  clear Hp
  have Hp := Hp2
  clear Hp2
  clear hb2
  clear hc
  have Hq := Lib.hid hrq
  clear hrq
  go_wp2_with fail
  have hc := meet_rd [(2, 0, ⟨#[97]⟩)] [(2, 0, ⟨#[98]⟩)] Ap Aq 1 1 1 1 _ Hp.out Hq.out
  rw [show meetE [(2, 0, ⟨#[97]⟩)] [(2, 0, ⟨#[98]⟩)] = 0 from by decide] at hc
  rw [show meetC [(2, 0, ⟨#[97]⟩)] [(2, 0, ⟨#[98]⟩)] = [(2, 0, ⟨#[97]⟩), (1, 1, emp)] from by decide] at hc
  rw [show meetD [(2, 0, ⟨#[97]⟩)] [(2, 0, ⟨#[98]⟩)] = [(1, 1, emp), (2, 0, ⟨#[98]⟩)] from by decide] at hc
  refine (hc).mono ?_
  rintro e w3 ⟨Ac0, cc0, Ad0, cd0, rfl, hrc0, hrd0, hb3⟩
  have hbw3 := hbw2.trans (hb3.mono hbw2.size)
  have Ha3 := Lib.hid (RdP.step Ha.out hb3)
  clear Ha
  have Ha := Ha3
  clear Ha3
  have Hb3 := Lib.hid (RdP.step Hb.out hb3)
  clear Hb
  have Hb := Hb3
  clear Hb3
  have Hp3 := Lib.hid (RdP.step Hp.out hb3)
  clear Hp
  have Hp := Hp3
  clear Hp3
  have Hq3 := Lib.hid (RdP.step Hq.out hb3)
  clear Hq
  have Hq := Hq3
  clear Hq3
  clear hb3
  clear hc
  have Hc0 := Lib.hid hrc0
  clear hrc0
  have Hd0 := Lib.hid hrd0
  clear hrd0
  go_wp2_with fail
  clear Hp
  clear Hq
  have hrr := RdP.builtS w3 #[.int .i64 2, .int .i64 0, .string ⟨#[97]⟩, .int .i64 1, .int .i64 1, .string ⟨#[]⟩] [(2, 0, ⟨#[97]⟩), (1, 1, emp)] 2 rfl rfl (by decide) (by decide)
  have hbw4 := hbw3.alloc hbw3.size (.cells #[.int .i64 2, .int .i64 0, .string ⟨#[97]⟩, .int .i64 1, .int .i64 1, .string ⟨#[]⟩] 36)
  have Ha4 := Lib.hid (RdP.stepA Ha.out (.cells #[.int .i64 2, .int .i64 0, .string ⟨#[97]⟩, .int .i64 1, .int .i64 1, .string ⟨#[]⟩] 36))
  clear Ha
  have Ha := Ha4
  clear Ha4
  have Hb4 := Lib.hid (RdP.stepA Hb.out (.cells #[.int .i64 2, .int .i64 0, .string ⟨#[97]⟩, .int .i64 1, .int .i64 1, .string ⟨#[]⟩] 36))
  clear Hb
  have Hb := Hb4
  clear Hb4
  have Hc04 := Lib.hid (RdP.stepA Hc0.out (.cells #[.int .i64 2, .int .i64 0, .string ⟨#[97]⟩, .int .i64 1, .int .i64 1, .string ⟨#[]⟩] 36))
  clear Hc0
  have Hc0 := Hc04
  clear Hc04
  have Hd04 := Lib.hid (RdP.stepA Hd0.out (.cells #[.int .i64 2, .int .i64 0, .string ⟨#[97]⟩, .int .i64 1, .int .i64 1, .string ⟨#[]⟩] 36))
  clear Hd0
  have Hd0 := Hd04
  clear Hd04
  have Hr := Lib.hid hrr
  clear hrr
  refine (same_true [(2, 0, ⟨#[97]⟩), (1, 1, emp)] [(2, 0, ⟨#[97]⟩), (1, 1, emp)] Ac0 (some ⟨w3.heap.size, 0, none⟩) _ _ cc0 2 _ _ _ Hc0.out Hr.out rfl).mono ?_
  rintro e w5 ⟨rfl, hb5⟩
  have hbw5 := hbw4.trans (hb5.mono hbw4.size)
  have Ha5 := Lib.hid (RdP.step Ha.out hb5)
  clear Ha
  have Ha := Ha5
  clear Ha5
  have Hb5 := Lib.hid (RdP.step Hb.out hb5)
  clear Hb
  have Hb := Hb5
  clear Hb5
  have Hc05 := Lib.hid (RdP.step Hc0.out hb5)
  clear Hc0
  have Hc0 := Hc05
  clear Hc05
  have Hd05 := Lib.hid (RdP.step Hd0.out hb5)
  clear Hd0
  have Hd0 := Hd05
  clear Hd05
  have Hr5 := Lib.hid (RdP.step Hr.out hb5)
  clear Hr
  have Hr := Hr5
  clear Hr5
  clear hb5
  go_wp2_with fail
  clear Hc0
  clear Hr
  have hrr := RdP.builtS w5 #[.int .i64 1, .int .i64 1, .string ⟨#[]⟩, .int .i64 2, .int .i64 0, .string ⟨#[98]⟩] [(1, 1, emp), (2, 0, ⟨#[98]⟩)] 2 rfl rfl (by decide) (by decide)
  have hbw6 := hbw5.alloc hbw5.size (.cells #[.int .i64 1, .int .i64 1, .string ⟨#[]⟩, .int .i64 2, .int .i64 0, .string ⟨#[98]⟩] 36)
  have Ha6 := Lib.hid (RdP.stepA Ha.out (.cells #[.int .i64 1, .int .i64 1, .string ⟨#[]⟩, .int .i64 2, .int .i64 0, .string ⟨#[98]⟩] 36))
  clear Ha
  have Ha := Ha6
  clear Ha6
  have Hb6 := Lib.hid (RdP.stepA Hb.out (.cells #[.int .i64 1, .int .i64 1, .string ⟨#[]⟩, .int .i64 2, .int .i64 0, .string ⟨#[98]⟩] 36))
  clear Hb
  have Hb := Hb6
  clear Hb6
  have Hd06 := Lib.hid (RdP.stepA Hd0.out (.cells #[.int .i64 1, .int .i64 1, .string ⟨#[]⟩, .int .i64 2, .int .i64 0, .string ⟨#[98]⟩] 36))
  clear Hd0
  have Hd0 := Hd06
  clear Hd06
  have Hr := Lib.hid hrr
  clear hrr
  refine (same_true [(1, 1, emp), (2, 0, ⟨#[98]⟩)] [(1, 1, emp), (2, 0, ⟨#[98]⟩)] Ad0 (some ⟨w5.heap.size, 0, none⟩) _ _ cd0 2 _ _ _ Hd0.out Hr.out rfl).mono ?_
  rintro e w7 ⟨rfl, hb7⟩
  have hbw7 := hbw6.trans (hb7.mono hbw6.size)
  have Ha7 := Lib.hid (RdP.step Ha.out hb7)
  clear Ha
  have Ha := Ha7
  clear Ha7
  have Hb7 := Lib.hid (RdP.step Hb.out hb7)
  clear Hb
  have Hb := Hb7
  clear Hb7
  have Hd07 := Lib.hid (RdP.step Hd0.out hb7)
  clear Hd0
  have Hd0 := Hd07
  clear Hd07
  have Hr7 := Lib.hid (RdP.step Hr.out hb7)
  clear Hr
  have Hr := Hr7
  clear Hr7
  clear hb7
  go_wp2_with fail
  clear Hd0
  clear Hr
  have hc := meet_rd a b A A' n n' k k' _ Ha.out Hb.out
  rw [H1.out] at hc
  refine (hc).mono ?_
  rintro e w8 ⟨Ac, cc, Ad, cd, rfl, hrc, hrd, hb8⟩
  have hbw8 := hbw7.trans (hb8.mono hbw7.size)
  have Ha8 := Lib.hid (RdP.step Ha.out hb8)
  clear Ha
  have Ha := Ha8
  clear Ha8
  have Hb8 := Lib.hid (RdP.step Hb.out hb8)
  clear Hb
  have Hb := Hb8
  clear Hb8
  clear hb8
  clear hc
  have Hc := Lib.hid hrc
  clear hrc
  have Hd := Lib.hid hrd
  clear hrd
  go_wp2_with fail
  have HM := Lib.hid (meet_comp H1.out)
  have HF := Lib.hid (same_fits H1.out s)
  have hc := comp_rd a (meetD a b) A Ad n ((meetD a b).length) k cd _ Ha.out Hd.out
  rw [HM.out.1] at hc
  refine (hc).mono ?_
  rintro e w9 ⟨Ax, cx, rfl, hrx, hb9⟩
  have hbw9 := hbw8.trans (hb9.mono hbw8.size)
  have Ha9 := Lib.hid (RdP.step Ha.out hb9)
  clear Ha
  have Ha := Ha9
  clear Ha9
  have Hb9 := Lib.hid (RdP.step Hb.out hb9)
  clear Hb
  have Hb := Hb9
  clear Hb9
  have Hc9 := Lib.hid (RdP.step Hc.out hb9)
  clear Hc
  have Hc := Hc9
  clear Hc9
  have Hd9 := Lib.hid (RdP.step Hd.out hb9)
  clear Hd
  have Hd := Hd9
  clear Hd9
  clear hb9
  clear hc
  have Hx := Lib.hid hrx
  clear hrx
  go_wp2_with fail
  have hc := comp_rd b (meetC a b) A' Ac n' ((meetC a b).length) k' cc _ Hb.out Hc.out
  rw [HM.out.2.1] at hc
  refine (hc).mono ?_
  rintro e w10 ⟨Ay, cy, rfl, hry, hb10⟩
  have hbw10 := hbw9.trans (hb10.mono hbw9.size)
  have Ha10 := Lib.hid (RdP.step Ha.out hb10)
  clear Ha
  have Ha := Ha10
  clear Ha10
  have Hb10 := Lib.hid (RdP.step Hb.out hb10)
  clear Hb
  have Hb := Hb10
  clear Hb10
  have Hc10 := Lib.hid (RdP.step Hc.out hb10)
  clear Hc
  have Hc := Hc10
  clear Hc10
  have Hd10 := Lib.hid (RdP.step Hd.out hb10)
  clear Hd
  have Hd := Hd10
  clear Hd10
  have Hx10 := Lib.hid (RdP.step Hx.out hb10)
  clear Hx
  have Hx := Hx10
  clear Hx10
  clear hb10
  clear hc
  have Hy := Lib.hid hry
  clear hry
  go_wp2_with fail
  refine (same_true (compL a (meetD a b)) (compL b (meetC a b)) Ax Ay _ _ cx cy _ _ _ Hx.out Hy.out HM.out.2.2).mono ?_
  rintro e w11 ⟨rfl, hb11⟩
  have hbw11 := hbw10.trans (hb11.mono hbw10.size)
  have Ha11 := Lib.hid (RdP.step Ha.out hb11)
  clear Ha
  have Ha := Ha11
  clear Ha11
  have Hb11 := Lib.hid (RdP.step Hb.out hb11)
  clear Hb
  have Hb := Hb11
  clear Hb11
  have Hc11 := Lib.hid (RdP.step Hc.out hb11)
  clear Hc
  have Hc := Hc11
  clear Hc11
  have Hd11 := Lib.hid (RdP.step Hd.out hb11)
  clear Hd
  have Hd := Hd11
  clear Hd11
  have Hx11 := Lib.hid (RdP.step Hx.out hb11)
  clear Hx
  have Hx := Hx11
  clear Hx11
  have Hy11 := Lib.hid (RdP.step Hy.out hb11)
  clear Hy
  have Hy := Hy11
  clear Hy11
  clear hb11
  go_wp2_with fail
  have HD := Lib.hid (same_do H1.out H2.out)
  have hc := do_any (compL a (meetD a b)) Ax ((compL a (meetD a b)).length) cx _ s _ Hx.out (Nat.le_refl _) (by omega)
  rw [HF.out] at hc
  rw [H2.out] at hc
  rw [HD.out.2] at hc
  refine (hc).mono ?_
  rintro e w12 ⟨rfl, hb12⟩
  have hbw12 := hbw11.trans (hb12.mono hbw11.size)
  have Ha12 := Lib.hid (RdP.step Ha.out hb12)
  clear Ha
  have Ha := Ha12
  clear Ha12
  have Hb12 := Lib.hid (RdP.step Hb.out hb12)
  clear Hb
  have Hb := Hb12
  clear Hb12
  have Hc12 := Lib.hid (RdP.step Hc.out hb12)
  clear Hc
  have Hc := Hc12
  clear Hc12
  have Hd12 := Lib.hid (RdP.step Hd.out hb12)
  clear Hd
  have Hd := Hd12
  clear Hd12
  have Hx12 := Lib.hid (RdP.step Hx.out hb12)
  clear Hx
  have Hx := Hx12
  clear Hx12
  have Hy12 := Lib.hid (RdP.step Hy.out hb12)
  clear Hy
  have Hy := Hy12
  clear Hy12
  clear hb12
  clear hc
  go_wp2_with fail
  have hc := do_any a A n k _ s _ Ha.out (Nat.le_refl _) (by omega)
  rw [H2.out] at hc
  refine (hc).mono ?_
  rintro e w13 ⟨rfl, hb13⟩
  have hbw13 := hbw12.trans (hb13.mono hbw12.size)
  have Ha13 := Lib.hid (RdP.step Ha.out hb13)
  clear Ha
  have Ha := Ha13
  clear Ha13
  have Hb13 := Lib.hid (RdP.step Hb.out hb13)
  clear Hb
  have Hb := Hb13
  clear Hb13
  have Hc13 := Lib.hid (RdP.step Hc.out hb13)
  clear Hc
  have Hc := Hc13
  clear Hc13
  have Hd13 := Lib.hid (RdP.step Hd.out hb13)
  clear Hd
  have Hd := Hd13
  clear Hd13
  have Hx13 := Lib.hid (RdP.step Hx.out hb13)
  clear Hx
  have Hx := Hx13
  clear Hx13
  have Hy13 := Lib.hid (RdP.step Hy.out hb13)
  clear Hy
  have Hy := Hy13
  clear Hy13
  clear hb13
  clear hc
  go_wp2_with fail
  have hc := do_any (meetD a b) Ad ((meetD a b).length) cd _ (doS a s) _ Hd.out (Nat.le_refl _) (by have := do_size_any a s; omega)
  rw [HD.out.1] at hc
  refine (hc).mono ?_
  rintro e w14 ⟨rfl, hb14⟩
  have hbw14 := hbw13.trans (hb14.mono hbw13.size)
  have Ha14 := Lib.hid (RdP.step Ha.out hb14)
  clear Ha
  have Ha := Ha14
  clear Ha14
  have Hb14 := Lib.hid (RdP.step Hb.out hb14)
  clear Hb
  have Hb := Hb14
  clear Hb14
  have Hc14 := Lib.hid (RdP.step Hc.out hb14)
  clear Hc
  have Hc := Hc14
  clear Hc14
  have Hd14 := Lib.hid (RdP.step Hd.out hb14)
  clear Hd
  have Hd := Hd14
  clear Hd14
  have Hx14 := Lib.hid (RdP.step Hx.out hb14)
  clear Hx
  have Hx := Hx14
  clear Hx14
  have Hy14 := Lib.hid (RdP.step Hy.out hb14)
  clear Hy
  have Hy := Hy14
  clear Hy14
  clear hb14
  clear hc
  go_wp2_with fail
  go_ret
  exact ⟨rfl, hbw14⟩
theorem walk_MeetSame (v : Value) (a : List Pt) (v' : Value) (b : List Pt) (s : ByteArray) (hs : s.size ≤ 140737488351232) (w : World) (ha : IsParts w v a) (hb : IsParts w v' b) :
    Calls Try.prog 8 #[v, v', .string s] w fun e w' => e = .returned (.bool true) ∧ Below w.heap.size w w' := by
  obtain ⟨A, n, k, rfl, ha⟩ := ha
  obtain ⟨A', n', k', rfl, hb⟩ := hb
  by_cases h1 : meetE a b = 0
  · by_cases h2 : doE a s = 0
    · exact meetSame_ok a b A A' n n' k k' s hs w ha hb h1 h2
    · exact meetSame_no a b A A' n n' k k' s hs w ha hb h1 h2
  · exact meetSame_err a b A A' n n' k k' s hs w ha hb h1
end Go.Proofs.Ytfokpjfcgdnehaa
