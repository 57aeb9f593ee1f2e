/- MeetApart: the walk. If both put nothing at one place it makes no difference which of them is the first. -/
import Derived.Test.YtcclcgapcnjcdaaApartFn
import Derived.Test.YtcclcgapcnjcdaaMeet
import Derived.Test.YtcclcgapcnjcdaaComp
import Derived.Test.YtcclcgapcnjcdaaSame
import Derived.Test.YtcclcgapcnjcdaaOpenParts
namespace Go.Proofs.Ytcclcgapcnjcdaa
open Go.ChangeShapes Go.WideShapes Go.RowKit
set_option linter.unusedVariables false
set_option linter.unusedSimpArgs false
set_option maxRecDepth 100000
set_option maxHeartbeats 4000000


theorem meetApart_shared (a b : List Pt) (A A' : Option Addr) (n n' k k' : Nat) (hna : n ≤ 4398046511104) (hnb : n' ≤ 4398046511104) (w : World) (ha : RdP w w.heap.size A n k a) (hb : RdP w w.heap.size A' n' k' b) (R : Bool) (hR : anyIn (plA 0 a) (plA 0 b) = R) (hRt : R = true) :
    Calls Try.prog 5 #[.slice A n k, .slice A' n' k'] w fun e w' => e = .returned (.bool true) ∧ Below w.heap.size w w' := by
  have hbw0 : Below w.heap.size w w := Below.refl _ _
  have Ha := Lib.hid ha
  clear ha
  have Hb := Lib.hid hb
  clear hb
  have HR := Lib.hid hR
  subst hRt
  clear hR
  have kb := Blk.new w 45 #[.slice A' n' k']
  go_enter Try.func5, Try.ntmps5
  go_wp2_with fail
  have hbw1 := hbw0.alloc hbw0.size (.cells #[.slice A' n' k'] 45)
  have Ha1 := Lib.hid (RdP.stepA Ha.out (.cells #[.slice A' n' k'] 45))
  clear Ha
  have Ha := Ha1
  clear Ha1
  have Hb1 := Lib.hid (RdP.stepA Hb.out (.cells #[.slice A' n' k'] 45))
  clear Hb
  have Hb := Hb1
  clear Hb1
  have HkB := Lib.hid kb
  clear kb
  have hc := put_any ⟨#[97]⟩ (by decide) (w.alloc (.cells #[.slice A' n' k'] 45))
  refine (hc).mono ?_
  rintro e w2 ⟨Ap, rfl, hrp, hb2⟩
  have hbw2 := hbw1.trans (hb2.mono hbw1.size)
  have Ha2 := Lib.hid (RdP.step Ha.out hb2)
  clear Ha
  have Ha := Ha2
  clear Ha2
  have Hb2 := Lib.hid (RdP.step Hb.out hb2)
  clear Hb
  have Hb := Hb2
  clear Hb2
  have HkB2 := Lib.hid (Blk.step HkB.out hb2)
  clear HkB
  have HkB := HkB2
  clear HkB2
  clear hb2
  clear hc
  have Hp := Lib.hid hrp
  clear hrp
  go_wp2_with fail
  have hc := all_any 0 w2
  refine (hc).mono ?_
  rintro e w3 ⟨Aq, cq, rfl, hrq, hb3⟩
  have hbw3 := hbw2.trans (hb3.mono hbw2.size)
  have Ha3 := Lib.hid (RdP.step Ha.out hb3)
  clear Ha
  have Ha := Ha3
  clear Ha3
  have Hb3 := Lib.hid (RdP.step Hb.out hb3)
  clear Hb
  have Hb := Hb3
  clear Hb3
  have HkB3 := Lib.hid (Blk.step HkB.out hb3)
  clear HkB
  have HkB := HkB3
  clear HkB3
  have Hp3 := Lib.hid (RdP.step Hp.out hb3)
  clear Hp
  have Hp := Hp3
  clear Hp3
  clear hb3
  clear hc
  have Hq := Lib.hid hrq
  clear hrq
  go_wp2_with fail
  have hc := meet_rd [(2, 0, ⟨#[97]⟩)] (allL 0) Ap Aq 1 ((allL 0).length) 1 cq _ Hp.out Hq.out
  rw [show meetE [(2, 0, ⟨#[97]⟩)] (allL 0) = 0 from by decide] at hc
  rw [show meetC [(2, 0, ⟨#[97]⟩)] (allL 0) = [(2, 0, ⟨#[97]⟩)] from by decide] at hc
  rw [show meetD [(2, 0, ⟨#[97]⟩)] (allL 0) = [(1, 1, emp)] from by decide] at hc
  refine (hc).mono ?_
  rintro e w4 ⟨Ac0, cc0, Ad0, cd0, rfl, hrc0, hrd0, hb4⟩
  have hbw4 := hbw3.trans (hb4.mono hbw3.size)
  have Ha4 := Lib.hid (RdP.step Ha.out hb4)
  clear Ha
  have Ha := Ha4
  clear Ha4
  have Hb4 := Lib.hid (RdP.step Hb.out hb4)
  clear Hb
  have Hb := Hb4
  clear Hb4
  have HkB4 := Lib.hid (Blk.step HkB.out hb4)
  clear HkB
  have HkB := HkB4
  clear HkB4
  have Hp4 := Lib.hid (RdP.step Hp.out hb4)
  clear Hp
  have Hp := Hp4
  clear Hp4
  have Hq4 := Lib.hid (RdP.step Hq.out hb4)
  clear Hq
  have Hq := Hq4
  clear Hq4
  clear hb4
  clear hc
  have Hc0 := Lib.hid hrc0
  clear hrc0
  have Hd0 := Lib.hid hrd0
  clear hrd0
  go_wp2_with fail
  clear Hp
  clear Hq
  have hc := put_any ⟨#[97]⟩ (by decide) w4
  refine (hc).mono ?_
  rintro e w5 ⟨Ap, rfl, hrp, hb5⟩
  have hbw5 := hbw4.trans (hb5.mono hbw4.size)
  have Ha5 := Lib.hid (RdP.step Ha.out hb5)
  clear Ha
  have Ha := Ha5
  clear Ha5
  have Hb5 := Lib.hid (RdP.step Hb.out hb5)
  clear Hb
  have Hb := Hb5
  clear Hb5
  have HkB5 := Lib.hid (Blk.step HkB.out hb5)
  clear HkB
  have HkB := HkB5
  clear HkB5
  have Hc05 := Lib.hid (RdP.step Hc0.out hb5)
  clear Hc0
  have Hc0 := Hc05
  clear Hc05
  have Hd05 := Lib.hid (RdP.step Hd0.out hb5)
  clear Hd0
  have Hd0 := Hd05
  clear Hd05
  clear hb5
  clear hc
  have Hp := Lib.hid hrp
  clear hrp
  go_wp2_with fail
  refine (same_true [(2, 0, ⟨#[97]⟩)] [(2, 0, ⟨#[97]⟩)] Ac0 Ap _ _ cc0 1 _ _ _ Hc0.out Hp.out rfl).mono ?_
  rintro e w6 ⟨rfl, hb6⟩
  have hbw6 := hbw5.trans (hb6.mono hbw5.size)
  have Ha6 := Lib.hid (RdP.step Ha.out hb6)
  clear Ha
  have Ha := Ha6
  clear Ha6
  have Hb6 := Lib.hid (RdP.step Hb.out hb6)
  clear Hb
  have Hb := Hb6
  clear Hb6
  have HkB6 := Lib.hid (Blk.step HkB.out hb6)
  clear HkB
  have HkB := HkB6
  clear HkB6
  have Hc06 := Lib.hid (RdP.step Hc0.out hb6)
  clear Hc0
  have Hc0 := Hc06
  clear Hc06
  have Hd06 := Lib.hid (RdP.step Hd0.out hb6)
  clear Hd0
  have Hd0 := Hd06
  clear Hd06
  have Hp6 := Lib.hid (RdP.step Hp.out hb6)
  clear Hp
  have Hp := Hp6
  clear Hp6
  clear hb6
  go_wp2_with fail
  clear Hc0
  clear Hp
  have hc := all_any 1 w6
  refine (hc).mono ?_
  rintro e w7 ⟨Aq, cq, rfl, hrq, hb7⟩
  have hbw7 := hbw6.trans (hb7.mono hbw6.size)
  have Ha7 := Lib.hid (RdP.step Ha.out hb7)
  clear Ha
  have Ha := Ha7
  clear Ha7
  have Hb7 := Lib.hid (RdP.step Hb.out hb7)
  clear Hb
  have Hb := Hb7
  clear Hb7
  have HkB7 := Lib.hid (Blk.step HkB.out hb7)
  clear HkB
  have HkB := HkB7
  clear HkB7
  have Hd07 := Lib.hid (RdP.step Hd0.out hb7)
  clear Hd0
  have Hd0 := Hd07
  clear Hd07
  clear hb7
  clear hc
  have Hq := Lib.hid hrq
  clear hrq
  go_wp2_with fail
  refine (same_true [(1, 1, emp)] (allL 1) Ad0 Aq _ _ cd0 cq _ _ _ Hd0.out Hq.out (by decide)).mono ?_
  rintro e w8 ⟨rfl, hb8⟩
  have hbw8 := hbw7.trans (hb8.mono hbw7.size)
  have Ha8 := Lib.hid (RdP.step Ha.out hb8)
  clear Ha
  have Ha := Ha8
  clear Ha8
  have Hb8 := Lib.hid (RdP.step Hb.out hb8)
  clear Hb
  have Hb := Hb8
  clear Hb8
  have HkB8 := Lib.hid (Blk.step HkB.out hb8)
  clear HkB
  have HkB := HkB8
  clear HkB8
  have Hd08 := Lib.hid (RdP.step Hd0.out hb8)
  clear Hd0
  have Hd0 := Hd08
  clear Hd08
  have Hq8 := Lib.hid (RdP.step Hq.out hb8)
  clear Hq
  have Hq := Hq8
  clear Hq8
  clear hb8
  clear Hd0
  clear Hq
  go_wp2_with fail
  have hc := places_any a A n k w8 Ha.out hna
  refine (hc).mono ?_
  rintro e w9 ⟨Ap_, np_, cp_, rfl, hrp_, hb9⟩
  have hbw9 := hbw8.trans (hb9.mono hbw8.size)
  have Ha9 := Lib.hid (RdP.step Ha.out hb9)
  clear Ha
  have Ha := Ha9
  clear Ha9
  have Hb9 := Lib.hid (RdP.step Hb.out hb9)
  clear Hb
  have Hb := Hb9
  clear Hb9
  have HkB9 := Lib.hid (Blk.step HkB.out hb9)
  clear HkB
  have HkB := HkB9
  clear HkB9
  clear hb9
  clear hc
  have Hpl := Lib.hid hrp_
  clear hrp_
  have hmf : (Instr.makeFunc (.func 31) #[] #[.pointer (some ⟨w.heap.size, 0, none⟩)]).run Try.prog w9 = .ok (.func (.func 31) #[] #[.pointer (some ⟨w.heap.size, 0, none⟩)]) w9 := rfl
  have cB := HkB.out.cell 0
  have lB := HkB.out.lt
  go_wp2_with fail
  have hc := capart_any (plA 0 a) Ap_ np_ cp_ b A' n' k' w.heap.size w9 Hpl.out Hb.out hnb cB lB true HR.out
  clear cB lB
  refine (hc).mono ?_
  rintro e w10 ⟨rfl, hb10⟩
  have hbw10 := hbw9.trans (hb10.mono hbw9.size)
  have Ha10 := Lib.hid (RdP.step Ha.out hb10)
  clear Ha
  have Ha := Ha10
  clear Ha10
  have Hb10 := Lib.hid (RdP.step Hb.out hb10)
  clear Hb
  have Hb := Hb10
  clear Hb10
  have HkB10 := Lib.hid (Blk.step HkB.out hb10)
  clear HkB
  have HkB := HkB10
  clear HkB10
  have Hpl10 := Lib.hid (RdI.step Hpl.out hb10)
  clear Hpl
  have Hpl := Hpl10
  clear Hpl10
  clear hb10
  clear hc hmf
  clear Hpl
  have cB := HkB.out.cell 0
  have lB := HkB.out.lt
  go_wp2_with fail
  go_ret
  exact ⟨rfl, hbw10⟩
theorem meetApart_err (a b : List Pt) (A A' : Option Addr) (n n' k k' : Nat) (hna : n ≤ 4398046511104) (hnb : n' ≤ 4398046511104) (w : World) (ha : RdP w w.heap.size A n k a) (hb : RdP w w.heap.size A' n' k' b) (R : Bool) (hR : anyIn (plA 0 a) (plA 0 b) = R) (hRf : R = false) (h1 : meetE a b ≠ 0) :
    Calls Try.prog 5 #[.slice A n k, .slice A' n' k'] w fun e w' => e = .returned (.bool true) ∧ Below w.heap.size w w' := by
  have hbw0 : Below w.heap.size w w := Below.refl _ _
  have Ha := Lib.hid ha
  clear ha
  have Hb := Lib.hid hb
  clear hb
  have HR := Lib.hid hR
  subst hRf
  have hap := anyIn_false hR
  have h2 : meetE b a ≠ 0 := fun h => h1 (apart_sym h (apart_comm hap)).1
  obtain ⟨E1, hE1⟩ : ∃ E, meetE a b = E := ⟨_, rfl⟩
  obtain ⟨E2, hE2⟩ : ∃ E, meetE b a = E := ⟨_, rfl⟩
  have he1 := meet_err h1
  have he2 := meet_err h2
  rw [hE1] at h1
  rw [hE2] at h2
  have hne1 : (E1 != 0) = true := by simpa using h1
  have hne2 : (E2 != 0) = true := by simpa using h2
  have HE1 := Lib.hid hE1
  have HE2 := Lib.hid hE2
  have Hr1 := Lib.hid he1
  have Hr2 := Lib.hid he2
  clear h1 h2 hE1 hE2 he1 he2 hap hR
  have kb := Blk.new w 45 #[.slice A' n' k']
  go_enter Try.func5, Try.ntmps5
  go_wp2_with fail
  have hbw1 := hbw0.alloc hbw0.size (.cells #[.slice A' n' k'] 45)
  have Ha1 := Lib.hid (RdP.stepA Ha.out (.cells #[.slice A' n' k'] 45))
  clear Ha
  have Ha := Ha1
  clear Ha1
  have Hb1 := Lib.hid (RdP.stepA Hb.out (.cells #[.slice A' n' k'] 45))
  clear Hb
  have Hb := Hb1
  clear Hb1
  have HkB := Lib.hid kb
  clear kb
  have hc := put_any ⟨#[97]⟩ (by decide) (w.alloc (.cells #[.slice A' n' k'] 45))
  refine (hc).mono ?_
  rintro e w2 ⟨Ap, rfl, hrp, hb2⟩
  have hbw2 := hbw1.trans (hb2.mono hbw1.size)
  have Ha2 := Lib.hid (RdP.step Ha.out hb2)
  clear Ha
  have Ha := Ha2
  clear Ha2
  have Hb2 := Lib.hid (RdP.step Hb.out hb2)
  clear Hb
  have Hb := Hb2
  clear Hb2
  have HkB2 := Lib.hid (Blk.step HkB.out hb2)
  clear HkB
  have HkB := HkB2
  clear HkB2
  clear hb2
  clear hc
  have Hp := Lib.hid hrp
  clear hrp
  go_wp2_with fail
  have hc := all_any 0 w2
  refine (hc).mono ?_
  rintro e w3 ⟨Aq, cq, rfl, hrq, hb3⟩
  have hbw3 := hbw2.trans (hb3.mono hbw2.size)
  have Ha3 := Lib.hid (RdP.step Ha.out hb3)
  clear Ha
  have Ha := Ha3
  clear Ha3
  have Hb3 := Lib.hid (RdP.step Hb.out hb3)
  clear Hb
  have Hb := Hb3
  clear Hb3
  have HkB3 := Lib.hid (Blk.step HkB.out hb3)
  clear HkB
  have HkB := HkB3
  clear HkB3
  have Hp3 := Lib.hid (RdP.step Hp.out hb3)
  clear Hp
  have Hp := Hp3
  clear Hp3
  clear hb3
  clear hc
  have Hq := Lib.hid hrq
  clear hrq
  go_wp2_with fail
  have hc := meet_rd [(2, 0, ⟨#[97]⟩)] (allL 0) Ap Aq 1 ((allL 0).length) 1 cq _ Hp.out Hq.out
  rw [show meetE [(2, 0, ⟨#[97]⟩)] (allL 0) = 0 from by decide] at hc
  rw [show meetC [(2, 0, ⟨#[97]⟩)] (allL 0) = [(2, 0, ⟨#[97]⟩)] from by decide] at hc
  rw [show meetD [(2, 0, ⟨#[97]⟩)] (allL 0) = [(1, 1, emp)] from by decide] at hc
  refine (hc).mono ?_
  rintro e w4 ⟨Ac0, cc0, Ad0, cd0, rfl, hrc0, hrd0, hb4⟩
  have hbw4 := hbw3.trans (hb4.mono hbw3.size)
  have Ha4 := Lib.hid (RdP.step Ha.out hb4)
  clear Ha
  have Ha := Ha4
  clear Ha4
  have Hb4 := Lib.hid (RdP.step Hb.out hb4)
  clear Hb
  have Hb := Hb4
  clear Hb4
  have HkB4 := Lib.hid (Blk.step HkB.out hb4)
  clear HkB
  have HkB := HkB4
  clear HkB4
  have Hp4 := Lib.hid (RdP.step Hp.out hb4)
  clear Hp
  have Hp := Hp4
  clear Hp4
  have Hq4 := Lib.hid (RdP.step Hq.out hb4)
  clear Hq
  have Hq := Hq4
  clear Hq4
  clear hb4
  clear hc
  have Hc0 := Lib.hid hrc0
  clear hrc0
  have Hd0 := Lib.hid hrd0
  clear hrd0
  go_wp2_with fail
  clear Hp
  clear Hq
  have hc := put_any ⟨#[97]⟩ (by decide) w4
  refine (hc).mono ?_
  rintro e w5 ⟨Ap, rfl, hrp, hb5⟩
  have hbw5 := hbw4.trans (hb5.mono hbw4.size)
  have Ha5 := Lib.hid (RdP.step Ha.out hb5)
  clear Ha
  have Ha := Ha5
  clear Ha5
  have Hb5 := Lib.hid (RdP.step Hb.out hb5)
  clear Hb
  have Hb := Hb5
  clear Hb5
  have HkB5 := Lib.hid (Blk.step HkB.out hb5)
  clear HkB
  have HkB := HkB5
  clear HkB5
  have Hc05 := Lib.hid (RdP.step Hc0.out hb5)
  clear Hc0
  have Hc0 := Hc05
  clear Hc05
  have Hd05 := Lib.hid (RdP.step Hd0.out hb5)
  clear Hd0
  have Hd0 := Hd05
  clear Hd05
  clear hb5
  clear hc
  have Hp := Lib.hid hrp
  clear hrp
  go_wp2_with fail
  refine (same_true [(2, 0, ⟨#[97]⟩)] [(2, 0, ⟨#[97]⟩)] Ac0 Ap _ _ cc0 1 _ _ _ Hc0.out Hp.out rfl).mono ?_
  rintro e w6 ⟨rfl, hb6⟩
  have hbw6 := hbw5.trans (hb6.mono hbw5.size)
  have Ha6 := Lib.hid (RdP.step Ha.out hb6)
  clear Ha
  have Ha := Ha6
  clear Ha6
  have Hb6 := Lib.hid (RdP.step Hb.out hb6)
  clear Hb
  have Hb := Hb6
  clear Hb6
  have HkB6 := Lib.hid (Blk.step HkB.out hb6)
  clear HkB
  have HkB := HkB6
  clear HkB6
  have Hc06 := Lib.hid (RdP.step Hc0.out hb6)
  clear Hc0
  have Hc0 := Hc06
  clear Hc06
  have Hd06 := Lib.hid (RdP.step Hd0.out hb6)
  clear Hd0
  have Hd0 := Hd06
  clear Hd06
  have Hp6 := Lib.hid (RdP.step Hp.out hb6)
  clear Hp
  have Hp := Hp6
  clear Hp6
  clear hb6
  go_wp2_with fail
  clear Hc0
  clear Hp
  have hc := all_any 1 w6
  refine (hc).mono ?_
  rintro e w7 ⟨Aq, cq, rfl, hrq, hb7⟩
  have hbw7 := hbw6.trans (hb7.mono hbw6.size)
  have Ha7 := Lib.hid (RdP.step Ha.out hb7)
  clear Ha
  have Ha := Ha7
  clear Ha7
  have Hb7 := Lib.hid (RdP.step Hb.out hb7)
  clear Hb
  have Hb := Hb7
  clear Hb7
  have HkB7 := Lib.hid (Blk.step HkB.out hb7)
  clear HkB
  have HkB := HkB7
  clear HkB7
  have Hd07 := Lib.hid (RdP.step Hd0.out hb7)
  clear Hd0
  have Hd0 := Hd07
  clear Hd07
  clear hb7
  clear hc
  have Hq := Lib.hid hrq
  clear hrq
  go_wp2_with fail
  refine (same_true [(1, 1, emp)] (allL 1) Ad0 Aq _ _ cd0 cq _ _ _ Hd0.out Hq.out (by decide)).mono ?_
  rintro e w8 ⟨rfl, hb8⟩
  have hbw8 := hbw7.trans (hb8.mono hbw7.size)
  have Ha8 := Lib.hid (RdP.step Ha.out hb8)
  clear Ha
  have Ha := Ha8
  clear Ha8
  have Hb8 := Lib.hid (RdP.step Hb.out hb8)
  clear Hb
  have Hb := Hb8
  clear Hb8
  have HkB8 := Lib.hid (Blk.step HkB.out hb8)
  clear HkB
  have HkB := HkB8
  clear HkB8
  have Hd08 := Lib.hid (RdP.step Hd0.out hb8)
  clear Hd0
  have Hd0 := Hd08
  clear Hd08
  have Hq8 := Lib.hid (RdP.step Hq.out hb8)
  clear Hq
  have Hq := Hq8
  clear Hq8
  clear hb8
  clear Hd0
  clear Hq
  go_wp2_with fail
  have hc := places_any a A n k w8 Ha.out hna
  refine (hc).mono ?_
  rintro e w9 ⟨Ap_, np_, cp_, rfl, hrp_, hb9⟩
  have hbw9 := hbw8.trans (hb9.mono hbw8.size)
  have Ha9 := Lib.hid (RdP.step Ha.out hb9)
  clear Ha
  have Ha := Ha9
  clear Ha9
  have Hb9 := Lib.hid (RdP.step Hb.out hb9)
  clear Hb
  have Hb := Hb9
  clear Hb9
  have HkB9 := Lib.hid (Blk.step HkB.out hb9)
  clear HkB
  have HkB := HkB9
  clear HkB9
  clear hb9
  clear hc
  have Hpl := Lib.hid hrp_
  clear hrp_
  have hmf : (Instr.makeFunc (.func 31) #[] #[.pointer (some ⟨w.heap.size, 0, none⟩)]).run Try.prog w9 = .ok (.func (.func 31) #[] #[.pointer (some ⟨w.heap.size, 0, none⟩)]) w9 := rfl
  have cB := HkB.out.cell 0
  have lB := HkB.out.lt
  go_wp2_with fail
  have hc := capart_any (plA 0 a) Ap_ np_ cp_ b A' n' k' w.heap.size w9 Hpl.out Hb.out hnb cB lB false HR.out
  clear cB lB
  refine (hc).mono ?_
  rintro e w10 ⟨rfl, hb10⟩
  have hbw10 := hbw9.trans (hb10.mono hbw9.size)
  have Ha10 := Lib.hid (RdP.step Ha.out hb10)
  clear Ha
  have Ha := Ha10
  clear Ha10
  have Hb10 := Lib.hid (RdP.step Hb.out hb10)
  clear Hb
  have Hb := Hb10
  clear Hb10
  have HkB10 := Lib.hid (Blk.step HkB.out hb10)
  clear HkB
  have HkB := HkB10
  clear HkB10
  have Hpl10 := Lib.hid (RdI.step Hpl.out hb10)
  clear Hpl
  have Hpl := Hpl10
  clear Hpl10
  clear hb10
  clear hc hmf
  clear Hpl
  have cB := HkB.out.cell 0
  have lB := HkB.out.lt
  go_wp2_with fail
  have hc := meet_rd a b A A' n n' k k' _ Ha.out Hb.out
  rw [HE1.out] at hc
  rw [Hr1.out.1] at hc
  rw [Hr1.out.2] at hc
  refine (hc).mono ?_
  rintro e w11 ⟨Ac, cc, Ad, cd, rfl, hrc, hrd, hb11⟩
  have hbw11 := hbw10.trans (hb11.mono hbw10.size)
  have Ha11 := Lib.hid (RdP.step Ha.out hb11)
  clear Ha
  have Ha := Ha11
  clear Ha11
  have Hb11 := Lib.hid (RdP.step Hb.out hb11)
  clear Hb
  have Hb := Hb11
  clear Hb11
  have HkB11 := Lib.hid (Blk.step HkB.out hb11)
  clear HkB
  have HkB := HkB11
  clear HkB11
  clear hb11
  clear hc
  have Hc := Lib.hid hrc
  clear hrc
  have Hd := Lib.hid hrd
  clear hrd
  clear cB lB
  have cB := HkB.out.cell 0
  have lB := HkB.out.lt
  go_wp2_with fail
  clear Hc
  clear Hd
  have hc := meet_rd b a A' A n' n k' k _ Hb.out Ha.out
  rw [HE2.out] at hc
  rw [Hr2.out.1] at hc
  rw [Hr2.out.2] at hc
  refine (hc).mono ?_
  rintro e w12 ⟨Ax, cx, Ay, cy, rfl, hrx, hry, hb12⟩
  have hbw12 := hbw11.trans (hb12.mono hbw11.size)
  have Ha12 := Lib.hid (RdP.step Ha.out hb12)
  clear Ha
  have Ha := Ha12
  clear Ha12
  have Hb12 := Lib.hid (RdP.step Hb.out hb12)
  clear Hb
  have Hb := Hb12
  clear Hb12
  have HkB12 := Lib.hid (Blk.step HkB.out hb12)
  clear HkB
  have HkB := HkB12
  clear HkB12
  clear hb12
  clear hc
  have Hx := Lib.hid hrx
  clear hrx
  have Hy := Lib.hid hry
  clear hry
  go_wp2_with fail
  go_ret
  exact ⟨rfl, hbw12⟩
theorem meetApart_ok (a b : List Pt) (A A' : Option Addr) (n n' k k' : Nat) (hna : n ≤ 4398046511104) (hnb : n' ≤ 4398046511104) (w : World) (ha : RdP w w.heap.size A n k a) (hb : RdP w w.heap.size A' n' k' b) (R : Bool) (hR : anyIn (plA 0 a) (plA 0 b) = R) (hRf : R = false) (h1 : meetE a b = 0) :
    Calls Try.prog 5 #[.slice A n k, .slice A' n' k'] w fun e w' => e = .returned (.bool true) ∧ Below w.heap.size w w' := by
  have hbw0 : Below w.heap.size w w := Below.refl _ _
  have Ha := Lib.hid ha
  clear ha
  have Hb := Lib.hid hb
  clear hb
  have HR := Lib.hid hR
  subst hRf
  have hap := anyIn_false hR
  have HA := Lib.hid (apart_sym h1 hap)
  have HM := Lib.hid (meet_comp h1)
  have H1 := Lib.hid h1
  clear h1 hap hR
  have kb := Blk.new w 45 #[.slice A' n' k']
  go_enter Try.func5, Try.ntmps5
  go_wp2_with fail
  have hbw1 := hbw0.alloc hbw0.size (.cells #[.slice A' n' k'] 45)
  have Ha1 := Lib.hid (RdP.stepA Ha.out (.cells #[.slice A' n' k'] 45))
  clear Ha
  have Ha := Ha1
  clear Ha1
  have Hb1 := Lib.hid (RdP.stepA Hb.out (.cells #[.slice A' n' k'] 45))
  clear Hb
  have Hb := Hb1
  clear Hb1
  have HkB := Lib.hid kb
  clear kb
  have hc := put_any ⟨#[97]⟩ (by decide) (w.alloc (.cells #[.slice A' n' k'] 45))
  refine (hc).mono ?_
  rintro e w2 ⟨Ap, rfl, hrp, hb2⟩
  have hbw2 := hbw1.trans (hb2.mono hbw1.size)
  have Ha2 := Lib.hid (RdP.step Ha.out hb2)
  clear Ha
  have Ha := Ha2
  clear Ha2
  have Hb2 := Lib.hid (RdP.step Hb.out hb2)
  clear Hb
  have Hb := Hb2
  clear Hb2
  have HkB2 := Lib.hid (Blk.step HkB.out hb2)
  clear HkB
  have HkB := HkB2
  clear HkB2
  clear hb2
  clear hc
  have Hp := Lib.hid hrp
  clear hrp
  go_wp2_with fail
  have hc := all_any 0 w2
  refine (hc).mono ?_
  rintro e w3 ⟨Aq, cq, rfl, hrq, hb3⟩
  have hbw3 := hbw2.trans (hb3.mono hbw2.size)
  have Ha3 := Lib.hid (RdP.step Ha.out hb3)
  clear Ha
  have Ha := Ha3
  clear Ha3
  have Hb3 := Lib.hid (RdP.step Hb.out hb3)
  clear Hb
  have Hb := Hb3
  clear Hb3
  have HkB3 := Lib.hid (Blk.step HkB.out hb3)
  clear HkB
  have HkB := HkB3
  clear HkB3
  have Hp3 := Lib.hid (RdP.step Hp.out hb3)
  clear Hp
  have Hp := Hp3
  clear Hp3
  clear hb3
  clear hc
  have Hq := Lib.hid hrq
  clear hrq
  go_wp2_with fail
  have hc := meet_rd [(2, 0, ⟨#[97]⟩)] (allL 0) Ap Aq 1 ((allL 0).length) 1 cq _ Hp.out Hq.out
  rw [show meetE [(2, 0, ⟨#[97]⟩)] (allL 0) = 0 from by decide] at hc
  rw [show meetC [(2, 0, ⟨#[97]⟩)] (allL 0) = [(2, 0, ⟨#[97]⟩)] from by decide] at hc
  rw [show meetD [(2, 0, ⟨#[97]⟩)] (allL 0) = [(1, 1, emp)] from by decide] at hc
  refine (hc).mono ?_
  rintro e w4 ⟨Ac0, cc0, Ad0, cd0, rfl, hrc0, hrd0, hb4⟩
  have hbw4 := hbw3.trans (hb4.mono hbw3.size)
  have Ha4 := Lib.hid (RdP.step Ha.out hb4)
  clear Ha
  have Ha := Ha4
  clear Ha4
  have Hb4 := Lib.hid (RdP.step Hb.out hb4)
  clear Hb
  have Hb := Hb4
  clear Hb4
  have HkB4 := Lib.hid (Blk.step HkB.out hb4)
  clear HkB
  have HkB := HkB4
  clear HkB4
  have Hp4 := Lib.hid (RdP.step Hp.out hb4)
  clear Hp
  have Hp := Hp4
  clear Hp4
  have Hq4 := Lib.hid (RdP.step Hq.out hb4)
  clear Hq
  have Hq := Hq4
  clear Hq4
  clear hb4
  clear hc
  have Hc0 := Lib.hid hrc0
  clear hrc0
  have Hd0 := Lib.hid hrd0
  clear hrd0
  go_wp2_with fail
  clear Hp
  clear Hq
  have hc := put_any ⟨#[97]⟩ (by decide) w4
  refine (hc).mono ?_
  rintro e w5 ⟨Ap, rfl, hrp, hb5⟩
  have hbw5 := hbw4.trans (hb5.mono hbw4.size)
  have Ha5 := Lib.hid (RdP.step Ha.out hb5)
  clear Ha
  have Ha := Ha5
  clear Ha5
  have Hb5 := Lib.hid (RdP.step Hb.out hb5)
  clear Hb
  have Hb := Hb5
  clear Hb5
  have HkB5 := Lib.hid (Blk.step HkB.out hb5)
  clear HkB
  have HkB := HkB5
  clear HkB5
  have Hc05 := Lib.hid (RdP.step Hc0.out hb5)
  clear Hc0
  have Hc0 := Hc05
  clear Hc05
  have Hd05 := Lib.hid (RdP.step Hd0.out hb5)
  clear Hd0
  have Hd0 := Hd05
  clear Hd05
  clear hb5
  clear hc
  have Hp := Lib.hid hrp
  clear hrp
  go_wp2_with fail
  refine (same_true [(2, 0, ⟨#[97]⟩)] [(2, 0, ⟨#[97]⟩)] Ac0 Ap _ _ cc0 1 _ _ _ Hc0.out Hp.out rfl).mono ?_
  rintro e w6 ⟨rfl, hb6⟩
  have hbw6 := hbw5.trans (hb6.mono hbw5.size)
  have Ha6 := Lib.hid (RdP.step Ha.out hb6)
  clear Ha
  have Ha := Ha6
  clear Ha6
  have Hb6 := Lib.hid (RdP.step Hb.out hb6)
  clear Hb
  have Hb := Hb6
  clear Hb6
  have HkB6 := Lib.hid (Blk.step HkB.out hb6)
  clear HkB
  have HkB := HkB6
  clear HkB6
  have Hc06 := Lib.hid (RdP.step Hc0.out hb6)
  clear Hc0
  have Hc0 := Hc06
  clear Hc06
  have Hd06 := Lib.hid (RdP.step Hd0.out hb6)
  clear Hd0
  have Hd0 := Hd06
  clear Hd06
  have Hp6 := Lib.hid (RdP.step Hp.out hb6)
  clear Hp
  have Hp := Hp6
  clear Hp6
  clear hb6
  go_wp2_with fail
  clear Hc0
  clear Hp
  have hc := all_any 1 w6
  refine (hc).mono ?_
  rintro e w7 ⟨Aq, cq, rfl, hrq, hb7⟩
  have hbw7 := hbw6.trans (hb7.mono hbw6.size)
  have Ha7 := Lib.hid (RdP.step Ha.out hb7)
  clear Ha
  have Ha := Ha7
  clear Ha7
  have Hb7 := Lib.hid (RdP.step Hb.out hb7)
  clear Hb
  have Hb := Hb7
  clear Hb7
  have HkB7 := Lib.hid (Blk.step HkB.out hb7)
  clear HkB
  have HkB := HkB7
  clear HkB7
  have Hd07 := Lib.hid (RdP.step Hd0.out hb7)
  clear Hd0
  have Hd0 := Hd07
  clear Hd07
  clear hb7
  clear hc
  have Hq := Lib.hid hrq
  clear hrq
  go_wp2_with fail
  refine (same_true [(1, 1, emp)] (allL 1) Ad0 Aq _ _ cd0 cq _ _ _ Hd0.out Hq.out (by decide)).mono ?_
  rintro e w8 ⟨rfl, hb8⟩
  have hbw8 := hbw7.trans (hb8.mono hbw7.size)
  have Ha8 := Lib.hid (RdP.step Ha.out hb8)
  clear Ha
  have Ha := Ha8
  clear Ha8
  have Hb8 := Lib.hid (RdP.step Hb.out hb8)
  clear Hb
  have Hb := Hb8
  clear Hb8
  have HkB8 := Lib.hid (Blk.step HkB.out hb8)
  clear HkB
  have HkB := HkB8
  clear HkB8
  have Hd08 := Lib.hid (RdP.step Hd0.out hb8)
  clear Hd0
  have Hd0 := Hd08
  clear Hd08
  have Hq8 := Lib.hid (RdP.step Hq.out hb8)
  clear Hq
  have Hq := Hq8
  clear Hq8
  clear hb8
  clear Hd0
  clear Hq
  go_wp2_with fail
  have hc := places_any a A n k w8 Ha.out hna
  refine (hc).mono ?_
  rintro e w9 ⟨Ap_, np_, cp_, rfl, hrp_, hb9⟩
  have hbw9 := hbw8.trans (hb9.mono hbw8.size)
  have Ha9 := Lib.hid (RdP.step Ha.out hb9)
  clear Ha
  have Ha := Ha9
  clear Ha9
  have Hb9 := Lib.hid (RdP.step Hb.out hb9)
  clear Hb
  have Hb := Hb9
  clear Hb9
  have HkB9 := Lib.hid (Blk.step HkB.out hb9)
  clear HkB
  have HkB := HkB9
  clear HkB9
  clear hb9
  clear hc
  have Hpl := Lib.hid hrp_
  clear hrp_
  have hmf : (Instr.makeFunc (.func 31) #[] #[.pointer (some ⟨w.heap.size, 0, none⟩)]).run Try.prog w9 = .ok (.func (.func 31) #[] #[.pointer (some ⟨w.heap.size, 0, none⟩)]) w9 := rfl
  have cB := HkB.out.cell 0
  have lB := HkB.out.lt
  go_wp2_with fail
  have hc := capart_any (plA 0 a) Ap_ np_ cp_ b A' n' k' w.heap.size w9 Hpl.out Hb.out hnb cB lB false HR.out
  clear cB lB
  refine (hc).mono ?_
  rintro e w10 ⟨rfl, hb10⟩
  have hbw10 := hbw9.trans (hb10.mono hbw9.size)
  have Ha10 := Lib.hid (RdP.step Ha.out hb10)
  clear Ha
  have Ha := Ha10
  clear Ha10
  have Hb10 := Lib.hid (RdP.step Hb.out hb10)
  clear Hb
  have Hb := Hb10
  clear Hb10
  have HkB10 := Lib.hid (Blk.step HkB.out hb10)
  clear HkB
  have HkB := HkB10
  clear HkB10
  have Hpl10 := Lib.hid (RdI.step Hpl.out hb10)
  clear Hpl
  have Hpl := Hpl10
  clear Hpl10
  clear hb10
  clear hc hmf
  clear Hpl
  have cB := HkB.out.cell 0
  have lB := HkB.out.lt
  go_wp2_with fail
  have hc := meet_rd a b A A' n n' k k' _ Ha.out Hb.out
  rw [H1.out] at hc
  refine (hc).mono ?_
  rintro e w11 ⟨Ac, cc, Ad, cd, rfl, hrc, hrd, hb11⟩
  have hbw11 := hbw10.trans (hb11.mono hbw10.size)
  have Ha11 := Lib.hid (RdP.step Ha.out hb11)
  clear Ha
  have Ha := Ha11
  clear Ha11
  have Hb11 := Lib.hid (RdP.step Hb.out hb11)
  clear Hb
  have Hb := Hb11
  clear Hb11
  have HkB11 := Lib.hid (Blk.step HkB.out hb11)
  clear HkB
  have HkB := HkB11
  clear HkB11
  clear hb11
  clear hc
  have Hc := Lib.hid hrc
  clear hrc
  have Hd := Lib.hid hrd
  clear hrd
  clear cB lB
  have cB := HkB.out.cell 0
  have lB := HkB.out.lt
  go_wp2_with fail
  have hc := meet_rd b a A' A n' n k' k _ Hb.out Ha.out
  rw [HA.out.1] at hc
  rw [HA.out.2.1] at hc
  rw [HA.out.2.2] at hc
  refine (hc).mono ?_
  rintro e w12 ⟨Ax, cx, Ay, cy, rfl, hrx, hry, hb12⟩
  have hbw12 := hbw11.trans (hb12.mono hbw11.size)
  have Ha12 := Lib.hid (RdP.step Ha.out hb12)
  clear Ha
  have Ha := Ha12
  clear Ha12
  have Hb12 := Lib.hid (RdP.step Hb.out hb12)
  clear Hb
  have Hb := Hb12
  clear Hb12
  have HkB12 := Lib.hid (Blk.step HkB.out hb12)
  clear HkB
  have HkB := HkB12
  clear HkB12
  have Hc12 := Lib.hid (RdP.step Hc.out hb12)
  clear Hc
  have Hc := Hc12
  clear Hc12
  have Hd12 := Lib.hid (RdP.step Hd.out hb12)
  clear Hd
  have Hd := Hd12
  clear Hd12
  clear hb12
  clear hc
  have Hx := Lib.hid hrx
  clear hrx
  have Hy := Lib.hid hry
  clear hry
  clear cB lB
  have cB := HkB.out.cell 0
  have lB := HkB.out.lt
  go_wp2_with fail
  have hc := comp_rd a (meetD a b) A Ad n ((meetD a b).length) k cd _ Ha.out Hd.out
  rw [HM.out.1] at hc
  refine (hc).mono ?_
  rintro e w13 ⟨Ap1, cp1, rfl, hrp1, hb13⟩
  have hbw13 := hbw12.trans (hb13.mono hbw12.size)
  have Ha13 := Lib.hid (RdP.step Ha.out hb13)
  clear Ha
  have Ha := Ha13
  clear Ha13
  have Hb13 := Lib.hid (RdP.step Hb.out hb13)
  clear Hb
  have Hb := Hb13
  clear Hb13
  have HkB13 := Lib.hid (Blk.step HkB.out hb13)
  clear HkB
  have HkB := HkB13
  clear HkB13
  have Hc13 := Lib.hid (RdP.step Hc.out hb13)
  clear Hc
  have Hc := Hc13
  clear Hc13
  have Hd13 := Lib.hid (RdP.step Hd.out hb13)
  clear Hd
  have Hd := Hd13
  clear Hd13
  have Hx13 := Lib.hid (RdP.step Hx.out hb13)
  clear Hx
  have Hx := Hx13
  clear Hx13
  have Hy13 := Lib.hid (RdP.step Hy.out hb13)
  clear Hy
  have Hy := Hy13
  clear Hy13
  clear hb13
  clear hc
  have Hp1 := Lib.hid hrp1
  clear hrp1
  clear cB lB
  have cB := HkB.out.cell 0
  have lB := HkB.out.lt
  go_wp2_with fail
  have hc := comp_rd a (meetD a b) A Ax n ((meetD a b).length) k cx _ Ha.out Hx.out
  rw [HM.out.1] at hc
  refine (hc).mono ?_
  rintro e w14 ⟨Aq1, cq1, rfl, hrq1, hb14⟩
  have hbw14 := hbw13.trans (hb14.mono hbw13.size)
  have Ha14 := Lib.hid (RdP.step Ha.out hb14)
  clear Ha
  have Ha := Ha14
  clear Ha14
  have Hb14 := Lib.hid (RdP.step Hb.out hb14)
  clear Hb
  have Hb := Hb14
  clear Hb14
  have HkB14 := Lib.hid (Blk.step HkB.out hb14)
  clear HkB
  have HkB := HkB14
  clear HkB14
  have Hc14 := Lib.hid (RdP.step Hc.out hb14)
  clear Hc
  have Hc := Hc14
  clear Hc14
  have Hd14 := Lib.hid (RdP.step Hd.out hb14)
  clear Hd
  have Hd := Hd14
  clear Hd14
  have Hx14 := Lib.hid (RdP.step Hx.out hb14)
  clear Hx
  have Hx := Hx14
  clear Hx14
  have Hy14 := Lib.hid (RdP.step Hy.out hb14)
  clear Hy
  have Hy := Hy14
  clear Hy14
  have Hp114 := Lib.hid (RdP.step Hp1.out hb14)
  clear Hp1
  have Hp1 := Hp114
  clear Hp114
  clear hb14
  clear hc
  have Hq1 := Lib.hid hrq1
  clear hrq1
  clear cB lB
  have cB := HkB.out.cell 0
  have lB := HkB.out.lt
  go_wp2_with fail
  have hc := comp_rd b (meetC a b) A' Ac n' ((meetC a b).length) k' cc _ Hb.out Hc.out
  rw [HM.out.2.1] at hc
  refine (hc).mono ?_
  rintro e w15 ⟨Ar1, cr1, rfl, hrr1, hb15⟩
  have hbw15 := hbw14.trans (hb15.mono hbw14.size)
  have Ha15 := Lib.hid (RdP.step Ha.out hb15)
  clear Ha
  have Ha := Ha15
  clear Ha15
  have Hb15 := Lib.hid (RdP.step Hb.out hb15)
  clear Hb
  have Hb := Hb15
  clear Hb15
  have HkB15 := Lib.hid (Blk.step HkB.out hb15)
  clear HkB
  have HkB := HkB15
  clear HkB15
  have Hc15 := Lib.hid (RdP.step Hc.out hb15)
  clear Hc
  have Hc := Hc15
  clear Hc15
  have Hd15 := Lib.hid (RdP.step Hd.out hb15)
  clear Hd
  have Hd := Hd15
  clear Hd15
  have Hx15 := Lib.hid (RdP.step Hx.out hb15)
  clear Hx
  have Hx := Hx15
  clear Hx15
  have Hy15 := Lib.hid (RdP.step Hy.out hb15)
  clear Hy
  have Hy := Hy15
  clear Hy15
  have Hp115 := Lib.hid (RdP.step Hp1.out hb15)
  clear Hp1
  have Hp1 := Hp115
  clear Hp115
  have Hq115 := Lib.hid (RdP.step Hq1.out hb15)
  clear Hq1
  have Hq1 := Hq115
  clear Hq115
  clear hb15
  clear hc
  have Hr1 := Lib.hid hrr1
  clear hrr1
  clear cB lB
  have cB := HkB.out.cell 0
  have lB := HkB.out.lt
  go_wp2_with fail
  have hc := comp_rd b (meetC a b) A' Ay n' ((meetC a b).length) k' cy _ Hb.out Hy.out
  rw [HM.out.2.1] at hc
  refine (hc).mono ?_
  rintro e w16 ⟨At1, ct1, rfl, hrt1, hb16⟩
  have hbw16 := hbw15.trans (hb16.mono hbw15.size)
  have Ha16 := Lib.hid (RdP.step Ha.out hb16)
  clear Ha
  have Ha := Ha16
  clear Ha16
  have Hb16 := Lib.hid (RdP.step Hb.out hb16)
  clear Hb
  have Hb := Hb16
  clear Hb16
  have HkB16 := Lib.hid (Blk.step HkB.out hb16)
  clear HkB
  have HkB := HkB16
  clear HkB16
  have Hc16 := Lib.hid (RdP.step Hc.out hb16)
  clear Hc
  have Hc := Hc16
  clear Hc16
  have Hd16 := Lib.hid (RdP.step Hd.out hb16)
  clear Hd
  have Hd := Hd16
  clear Hd16
  have Hx16 := Lib.hid (RdP.step Hx.out hb16)
  clear Hx
  have Hx := Hx16
  clear Hx16
  have Hy16 := Lib.hid (RdP.step Hy.out hb16)
  clear Hy
  have Hy := Hy16
  clear Hy16
  have Hp116 := Lib.hid (RdP.step Hp1.out hb16)
  clear Hp1
  have Hp1 := Hp116
  clear Hp116
  have Hq116 := Lib.hid (RdP.step Hq1.out hb16)
  clear Hq1
  have Hq1 := Hq116
  clear Hq116
  have Hr116 := Lib.hid (RdP.step Hr1.out hb16)
  clear Hr1
  have Hr1 := Hr116
  clear Hr116
  clear hb16
  clear hc
  have Ht1 := Lib.hid hrt1
  clear hrt1
  clear cB lB
  have cB := HkB.out.cell 0
  have lB := HkB.out.lt
  go_wp2_with fail
  refine (same_true (compL a (meetD a b)) (compL a (meetD a b)) Ap1 Aq1 _ _ cp1 cq1 _ _ _ Hp1.out Hq1.out rfl).mono ?_
  rintro e w17 ⟨rfl, hb17⟩
  have hbw17 := hbw16.trans (hb17.mono hbw16.size)
  have Ha17 := Lib.hid (RdP.step Ha.out hb17)
  clear Ha
  have Ha := Ha17
  clear Ha17
  have Hb17 := Lib.hid (RdP.step Hb.out hb17)
  clear Hb
  have Hb := Hb17
  clear Hb17
  have HkB17 := Lib.hid (Blk.step HkB.out hb17)
  clear HkB
  have HkB := HkB17
  clear HkB17
  have Hc17 := Lib.hid (RdP.step Hc.out hb17)
  clear Hc
  have Hc := Hc17
  clear Hc17
  have Hd17 := Lib.hid (RdP.step Hd.out hb17)
  clear Hd
  have Hd := Hd17
  clear Hd17
  have Hx17 := Lib.hid (RdP.step Hx.out hb17)
  clear Hx
  have Hx := Hx17
  clear Hx17
  have Hy17 := Lib.hid (RdP.step Hy.out hb17)
  clear Hy
  have Hy := Hy17
  clear Hy17
  have Hp117 := Lib.hid (RdP.step Hp1.out hb17)
  clear Hp1
  have Hp1 := Hp117
  clear Hp117
  have Hq117 := Lib.hid (RdP.step Hq1.out hb17)
  clear Hq1
  have Hq1 := Hq117
  clear Hq117
  have Hr117 := Lib.hid (RdP.step Hr1.out hb17)
  clear Hr1
  have Hr1 := Hr117
  clear Hr117
  have Ht117 := Lib.hid (RdP.step Ht1.out hb17)
  clear Ht1
  have Ht1 := Ht117
  clear Ht117
  clear hb17
  go_wp2_with fail
  refine (same_true (compL b (meetC a b)) (compL b (meetC a b)) Ar1 At1 _ _ cr1 ct1 _ _ _ Hr1.out Ht1.out rfl).mono ?_
  rintro e w18 ⟨rfl, hb18⟩
  have hbw18 := hbw17.trans (hb18.mono hbw17.size)
  have Ha18 := Lib.hid (RdP.step Ha.out hb18)
  clear Ha
  have Ha := Ha18
  clear Ha18
  have Hb18 := Lib.hid (RdP.step Hb.out hb18)
  clear Hb
  have Hb := Hb18
  clear Hb18
  have HkB18 := Lib.hid (Blk.step HkB.out hb18)
  clear HkB
  have HkB := HkB18
  clear HkB18
  have Hc18 := Lib.hid (RdP.step Hc.out hb18)
  clear Hc
  have Hc := Hc18
  clear Hc18
  have Hd18 := Lib.hid (RdP.step Hd.out hb18)
  clear Hd
  have Hd := Hd18
  clear Hd18
  have Hx18 := Lib.hid (RdP.step Hx.out hb18)
  clear Hx
  have Hx := Hx18
  clear Hx18
  have Hy18 := Lib.hid (RdP.step Hy.out hb18)
  clear Hy
  have Hy := Hy18
  clear Hy18
  have Hp118 := Lib.hid (RdP.step Hp1.out hb18)
  clear Hp1
  have Hp1 := Hp118
  clear Hp118
  have Hq118 := Lib.hid (RdP.step Hq1.out hb18)
  clear Hq1
  have Hq1 := Hq118
  clear Hq118
  have Hr118 := Lib.hid (RdP.step Hr1.out hb18)
  clear Hr1
  have Hr1 := Hr118
  clear Hr118
  have Ht118 := Lib.hid (RdP.step Ht1.out hb18)
  clear Ht1
  have Ht1 := Ht118
  clear Ht118
  clear hb18
  go_wp2_with fail
  refine (same_true (compL a (meetD a b)) (compL b (meetC a b)) Ap1 Ar1 _ _ cp1 cr1 _ _ _ Hp1.out Hr1.out HM.out.2.2).mono ?_
  rintro e w19 ⟨rfl, hb19⟩
  have hbw19 := hbw18.trans (hb19.mono hbw18.size)
  have Ha19 := Lib.hid (RdP.step Ha.out hb19)
  clear Ha
  have Ha := Ha19
  clear Ha19
  have Hb19 := Lib.hid (RdP.step Hb.out hb19)
  clear Hb
  have Hb := Hb19
  clear Hb19
  have HkB19 := Lib.hid (Blk.step HkB.out hb19)
  clear HkB
  have HkB := HkB19
  clear HkB19
  have Hc19 := Lib.hid (RdP.step Hc.out hb19)
  clear Hc
  have Hc := Hc19
  clear Hc19
  have Hd19 := Lib.hid (RdP.step Hd.out hb19)
  clear Hd
  have Hd := Hd19
  clear Hd19
  have Hx19 := Lib.hid (RdP.step Hx.out hb19)
  clear Hx
  have Hx := Hx19
  clear Hx19
  have Hy19 := Lib.hid (RdP.step Hy.out hb19)
  clear Hy
  have Hy := Hy19
  clear Hy19
  have Hp119 := Lib.hid (RdP.step Hp1.out hb19)
  clear Hp1
  have Hp1 := Hp119
  clear Hp119
  have Hq119 := Lib.hid (RdP.step Hq1.out hb19)
  clear Hq1
  have Hq1 := Hq119
  clear Hq119
  have Hr119 := Lib.hid (RdP.step Hr1.out hb19)
  clear Hr1
  have Hr1 := Hr119
  clear Hr119
  have Ht119 := Lib.hid (RdP.step Ht1.out hb19)
  clear Ht1
  have Ht1 := Ht119
  clear Ht119
  clear hb19
  go_wp2_with fail
  go_ret
  exact ⟨rfl, hbw19⟩
theorem walk_MeetApart (v : Value) (a : List Pt) (v' : Value) (b : List Pt) (w : World) (ha : IsPartsB w v a) (hb : IsPartsB w v' b) :
    Calls Try.prog 5 #[v, v'] w fun e w' => e = .returned (.bool true) ∧ Below w.heap.size w w' := by
  obtain ⟨A, n, k, rfl, ha, hna⟩ := ha
  obtain ⟨A', n', k', rfl, hb, hnb⟩ := hb
  by_cases hR : anyIn (plA 0 a) (plA 0 b) = true
  · exact meetApart_shared a b A A' n n' k k' hna hnb w ha hb _ rfl hR
  · have hRf : anyIn (plA 0 a) (plA 0 b) = false := by simpa using hR
    by_cases h1 : meetE a b = 0
    · exact meetApart_ok a b A A' n n' k k' hna hnb w ha hb _ rfl hRf h1
    · exact meetApart_err a b A A' n n' k k' hna hnb w ha hb _ rfl hRf h1
end Go.Proofs.Ytcclcgapcnjcdaa
