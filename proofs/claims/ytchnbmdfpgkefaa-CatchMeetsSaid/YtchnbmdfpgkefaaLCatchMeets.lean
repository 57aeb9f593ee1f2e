/- CatchMeets: the walk. Who comes late and those who were there come to one text. -/
import Derived.Test.YtchnbmdfpgkefaaCatch
import Derived.Test.YtchnbmdfpgkefaaCatchLaw
import Derived.Test.YtchnbmdfpgkefaaFirst
import Derived.Test.YtchnbmdfpgkefaaOpenRevs
import Derived.Test.YtchnbmdfpgkefaaOpenParts
namespace Go.Proofs.Ytchnbmdfpgkefaa
open Go.ChangeShapes Go.WideShapes Go.RowKit
set_option linter.unusedVariables false
set_option linter.unusedSimpArgs false
set_option maxRecDepth 100000
set_option maxHeartbeats 4000000


theorem catchMeets_err (base : ByteArray) (l : List Rv) (mine : List Pt) (A A' : Option Addr) (n c n' c' : Nat) (r : Int) (hs : base.size ≤ 140737488351232) (w : World) (h : RdR w w.heap.size A n c l) (h' : RdP w w.heap.size A' n' c' mine) (E : Int) (h1 : CaErr base l r mine E) :
    Calls Try.prog 3 #[.string base, .slice A n c, .int .i64 r, .slice A' n' c'] w fun e w' => e = .returned (.bool true) ∧ Below w.heap.size w w' := by
  have hbw0 : Below w.heap.size w w := Below.refl _ _
  have Hl := Lib.hid h
  clear h
  have Hm := Lib.hid h'
  clear h'
  have hne : (E != 0) = true := by simpa using h1.1
  have H1 := Lib.hid h1
  clear h1
  go_enter Try.func3, Try.ntmps3
  go_wp2_with fail
  refine (first_any ⟨#[97]⟩ (by decide) w).mono ?_
  rintro e w1 ⟨Af, rfl, hrf, hb1⟩
  have hbw1 := hbw0.trans (hb1.mono hbw0.size)
  have Hl1 := Lib.hid (RdR.step Hl.out hb1)
  clear Hl
  have Hl := Hl1
  clear Hl1
  have Hm1 := Lib.hid (RdP.step Hm.out hb1)
  clear Hm
  have Hm := Hm1
  clear Hm1
  clear hb1
  have Hf := Lib.hid hrf
  clear hrf
  go_wp2_with fail
  have hrh : RdR (w1.alloc (.cells #[.int .i64 1, .int .i64 1, .slice Af 1 1] 28)) (w1.alloc (.cells #[.int .i64 1, .int .i64 1, .slice Af 1 1] 28)).heap.size (some ⟨w1.heap.size, 0, none⟩) 1 1 [(1, 1, [(2, 0, ⟨#[97]⟩)])] := by
    have q := RdR.built1 w1 1 1 Af 1 1 [(2, 0, ⟨#[97]⟩)] Hf.out
    simpa only [World.size_alloc] using q
  have hbw2 := hbw1.alloc hbw1.size (.cells #[.int .i64 1, .int .i64 1, .slice Af 1 1] 28)
  have Hl2 := Lib.hid (RdR.stepA Hl.out (.cells #[.int .i64 1, .int .i64 1, .slice Af 1 1] 28))
  clear Hl
  have Hl := Hl2
  clear Hl2
  have Hm2 := Lib.hid (RdP.stepA Hm.out (.cells #[.int .i64 1, .int .i64 1, .slice Af 1 1] 28))
  clear Hm
  have Hm := Hm2
  clear Hm2
  have Hf2 := Lib.hid (RdP.stepA Hf.out (.cells #[.int .i64 1, .int .i64 1, .slice Af 1 1] 28))
  clear Hf
  have Hf := Hf2
  clear Hf2
  have Hh := Lib.hid hrh
  clear hrh
  clear Hf
  go_wp2_with fail
  have hc := put_any ⟨#[98]⟩ (by decide) (w1.alloc (.cells #[.int .i64 1, .int .i64 1, .slice Af 1 1] 28))
  refine (hc).mono ?_
  rintro e w3 ⟨Ap, rfl, hrp, hb3⟩
  have hbw3 := hbw2.trans (hb3.mono hbw2.size)
  have Hl3 := Lib.hid (RdR.step Hl.out hb3)
  clear Hl
  have Hl := Hl3
  clear Hl3
  have Hm3 := Lib.hid (RdP.step Hm.out hb3)
  clear Hm
  have Hm := Hm3
  clear Hm3
  have Hh3 := Lib.hid (RdR.step Hh.out hb3)
  clear Hh
  have Hh := Hh3
  clear Hh3
  clear hb3
  clear hc
  have Hp := Lib.hid hrp
  clear hrp
  go_wp2_with fail
  have hc := catch_good ⟨#[]⟩ [(1, 1, [(2, 0, ⟨#[97]⟩)])] [(2, 0, ⟨#[98]⟩)] (some ⟨w1.heap.size, 0, none⟩) Ap 1 1 1 1 0 w3 Hh.out Hp.out ⟨by decide, by decide, by decide, by decide⟩ [(2, 0, ⟨#[97]⟩)] [(1, 1, emp), (2, 0, ⟨#[98]⟩)] [(2, 0, ⟨#[97]⟩), (1, 1, emp)] (by decide) (by decide) (by decide)
  refine (hc).mono ?_
  rintro e w4 ⟨Ax, nx, cx, Ay, ny, cy, Az, nz, cz, rfl, hrx, hry, hrz, hb4⟩
  have hbw4 := hbw3.trans (hb4.mono hbw3.size)
  have Hl4 := Lib.hid (RdR.step Hl.out hb4)
  clear Hl
  have Hl := Hl4
  clear Hl4
  have Hm4 := Lib.hid (RdP.step Hm.out hb4)
  clear Hm
  have Hm := Hm4
  clear Hm4
  have Hh4 := Lib.hid (RdR.step Hh.out hb4)
  clear Hh
  have Hh := Hh4
  clear Hh4
  have Hp4 := Lib.hid (RdP.step Hp.out hb4)
  clear Hp
  have Hp := Hp4
  clear Hp4
  clear hb4
  clear hc
  have Hx := Lib.hid hrx
  clear hrx
  have Hy := Lib.hid hry
  clear hry
  have Hz := Lib.hid hrz
  clear hrz
  obtain rfl : ny = 2 := Hy.out.1
  obtain rfl : nz = 2 := Hz.out.1
  go_wp2_with fail
  clear Hh
  clear Hp
  clear Hy
  clear Hz
  have hc := put_any ⟨#[97]⟩ (by decide) w4
  refine (hc).mono ?_
  rintro e w5 ⟨Aq, rfl, hrq, hb5⟩
  have hbw5 := hbw4.trans (hb5.mono hbw4.size)
  have Hl5 := Lib.hid (RdR.step Hl.out hb5)
  clear Hl
  have Hl := Hl5
  clear Hl5
  have Hm5 := Lib.hid (RdP.step Hm.out hb5)
  clear Hm
  have Hm := Hm5
  clear Hm5
  have Hx5 := Lib.hid (RdP.step Hx.out hb5)
  clear Hx
  have Hx := Hx5
  clear Hx5
  clear hb5
  clear hc
  have Hq := Lib.hid hrq
  clear hrq
  go_wp2_with fail
  refine (same_true [(2, 0, ⟨#[97]⟩)] [(2, 0, ⟨#[97]⟩)] Ax Aq _ _ cx 1 _ _ _ Hx.out Hq.out rfl).mono ?_
  rintro e w6 ⟨rfl, hb6⟩
  have hbw6 := hbw5.trans (hb6.mono hbw5.size)
  have Hl6 := Lib.hid (RdR.step Hl.out hb6)
  clear Hl
  have Hl := Hl6
  clear Hl6
  have Hm6 := Lib.hid (RdP.step Hm.out hb6)
  clear Hm
  have Hm := Hm6
  clear Hm6
  have Hx6 := Lib.hid (RdP.step Hx.out hb6)
  clear Hx
  have Hx := Hx6
  clear Hx6
  have Hq6 := Lib.hid (RdP.step Hq.out hb6)
  clear Hq
  have Hq := Hq6
  clear Hq6
  clear hb6
  go_wp2_with fail
  clear Hx
  clear Hq
  refine (catch_err base l mine A A' n c n' c' r E _ Hl.out Hm.out (by omega) H1.out).mono ?_
  rintro e w7 ⟨rfl, hb7⟩
  have hbw7 := hbw6.trans (hb7.mono hbw6.size)
  have Hl7 := Lib.hid (RdR.step Hl.out hb7)
  clear Hl
  have Hl := Hl7
  clear Hl7
  have Hm7 := Lib.hid (RdP.step Hm.out hb7)
  clear Hm
  have Hm := Hm7
  clear Hm7
  clear hb7
  go_wp2_with fail
  go_ret
  exact ⟨rfl, hbw7⟩
theorem catchMeets_ok (base : ByteArray) (l : List Rv) (mine : List Pt) (A A' : Option Addr) (n c n' c' : Nat) (r : Nat) (hs : base.size ≤ 140737488351232) (w : World) (h : RdR w w.heap.size A n c l) (h' : RdP w w.heap.size A' n' c' mine) (h1 : CaOk base l r mine) :
    Calls Try.prog 3 #[.string base, .slice A n c, .int .i64 r, .slice A' n' c'] w fun e w' => e = .returned (.bool true) ∧ Below w.heap.size w w' := by
  have hbw0 : Below w.heap.size w w := Below.refl _ _
  have Hl := Lib.hid h
  clear h
  have Hm := Lib.hid h'
  clear h'
  have hn : n = l.length := Hl.out.1
  have Hn := Lib.hid hn
  obtain ⟨S, hS⟩ : ∃ S, txt base l r = S := ⟨_, rfl⟩
  obtain ⟨T, hT⟩ : ∃ T, txt base l n = T := ⟨_, rfl⟩
  obtain ⟨Dd, hD⟩ : ∃ Dd, btwL base l r l.length = Dd := ⟨_, rfl⟩
  have hb := btw_of h1.2.1 r l.length h1.1 (Nat.le_refl _)
  have hb1 : doE Dd S = 0 ∧ doS Dd S = T := by rw [← hD, ← hS, ← hT, hn]; exact hb
  have hm : meetE Dd mine = 0 := by rw [← hD]; exact h1.2.2.2
  have hd : doE mine S = 0 := by rw [← hS]; exact h1.2.2.1
  have hq := meet_do hm hb1.1 hd
  rw [hb1.2] at hq
  have Hq := Lib.hid hq
  have Hb := Lib.hid hb1
  have Hd := Lib.hid hd
  have HS := Lib.hid hS
  have HT := Lib.hid hT
  have HD := Lib.hid hD
  have hS5 : S.size ≤ 500 := by rw [← hS]; exact txt_size l base r (txE_parts h1.2.1).1
  have hT5 : T.size ≤ 500 := by rw [← hT]; exact txt_size l base n (txE_parts h1.2.1).1
  have H1 := Lib.hid h1
  clear h1 hn hS hT hD hb hb1 hm hd hq
  go_enter Try.func3, Try.ntmps3
  go_wp2_with fail
  refine (first_any ⟨#[97]⟩ (by decide) w).mono ?_
  rintro e w1 ⟨Af, rfl, hrf, hb1⟩
  have hbw1 := hbw0.trans (hb1.mono hbw0.size)
  have Hl1 := Lib.hid (RdR.step Hl.out hb1)
  clear Hl
  have Hl := Hl1
  clear Hl1
  have Hm1 := Lib.hid (RdP.step Hm.out hb1)
  clear Hm
  have Hm := Hm1
  clear Hm1
  clear hb1
  have Hf := Lib.hid hrf
  clear hrf
  go_wp2_with fail
  have hrh : RdR (w1.alloc (.cells #[.int .i64 1, .int .i64 1, .slice Af 1 1] 28)) (w1.alloc (.cells #[.int .i64 1, .int .i64 1, .slice Af 1 1] 28)).heap.size (some ⟨w1.heap.size, 0, none⟩) 1 1 [(1, 1, [(2, 0, ⟨#[97]⟩)])] := by
    have q := RdR.built1 w1 1 1 Af 1 1 [(2, 0, ⟨#[97]⟩)] Hf.out
    simpa only [World.size_alloc] using q
  have hbw2 := hbw1.alloc hbw1.size (.cells #[.int .i64 1, .int .i64 1, .slice Af 1 1] 28)
  have Hl2 := Lib.hid (RdR.stepA Hl.out (.cells #[.int .i64 1, .int .i64 1, .slice Af 1 1] 28))
  clear Hl
  have Hl := Hl2
  clear Hl2
  have Hm2 := Lib.hid (RdP.stepA Hm.out (.cells #[.int .i64 1, .int .i64 1, .slice Af 1 1] 28))
  clear Hm
  have Hm := Hm2
  clear Hm2
  have Hf2 := Lib.hid (RdP.stepA Hf.out (.cells #[.int .i64 1, .int .i64 1, .slice Af 1 1] 28))
  clear Hf
  have Hf := Hf2
  clear Hf2
  have Hh := Lib.hid hrh
  clear hrh
  clear Hf
  go_wp2_with fail
  have hc := put_any ⟨#[98]⟩ (by decide) (w1.alloc (.cells #[.int .i64 1, .int .i64 1, .slice Af 1 1] 28))
  refine (hc).mono ?_
  rintro e w3 ⟨Ap, rfl, hrp, hb3⟩
  have hbw3 := hbw2.trans (hb3.mono hbw2.size)
  have Hl3 := Lib.hid (RdR.step Hl.out hb3)
  clear Hl
  have Hl := Hl3
  clear Hl3
  have Hm3 := Lib.hid (RdP.step Hm.out hb3)
  clear Hm
  have Hm := Hm3
  clear Hm3
  have Hh3 := Lib.hid (RdR.step Hh.out hb3)
  clear Hh
  have Hh := Hh3
  clear Hh3
  clear hb3
  clear hc
  have Hp := Lib.hid hrp
  clear hrp
  go_wp2_with fail
  have hc := catch_good ⟨#[]⟩ [(1, 1, [(2, 0, ⟨#[97]⟩)])] [(2, 0, ⟨#[98]⟩)] (some ⟨w1.heap.size, 0, none⟩) Ap 1 1 1 1 0 w3 Hh.out Hp.out ⟨by decide, by decide, by decide, by decide⟩ [(2, 0, ⟨#[97]⟩)] [(1, 1, emp), (2, 0, ⟨#[98]⟩)] [(2, 0, ⟨#[97]⟩), (1, 1, emp)] (by decide) (by decide) (by decide)
  refine (hc).mono ?_
  rintro e w4 ⟨Ax, nx, cx, Ay, ny, cy, Az, nz, cz, rfl, hrx, hry, hrz, hb4⟩
  have hbw4 := hbw3.trans (hb4.mono hbw3.size)
  have Hl4 := Lib.hid (RdR.step Hl.out hb4)
  clear Hl
  have Hl := Hl4
  clear Hl4
  have Hm4 := Lib.hid (RdP.step Hm.out hb4)
  clear Hm
  have Hm := Hm4
  clear Hm4
  have Hh4 := Lib.hid (RdR.step Hh.out hb4)
  clear Hh
  have Hh := Hh4
  clear Hh4
  have Hp4 := Lib.hid (RdP.step Hp.out hb4)
  clear Hp
  have Hp := Hp4
  clear Hp4
  clear hb4
  clear hc
  have Hx := Lib.hid hrx
  clear hrx
  have Hy := Lib.hid hry
  clear hry
  have Hz := Lib.hid hrz
  clear hrz
  obtain rfl : ny = 2 := Hy.out.1
  obtain rfl : nz = 2 := Hz.out.1
  go_wp2_with fail
  clear Hh
  clear Hp
  clear Hy
  clear Hz
  have hc := put_any ⟨#[97]⟩ (by decide) w4
  refine (hc).mono ?_
  rintro e w5 ⟨Aq, rfl, hrq, hb5⟩
  have hbw5 := hbw4.trans (hb5.mono hbw4.size)
  have Hl5 := Lib.hid (RdR.step Hl.out hb5)
  clear Hl
  have Hl := Hl5
  clear Hl5
  have Hm5 := Lib.hid (RdP.step Hm.out hb5)
  clear Hm
  have Hm := Hm5
  clear Hm5
  have Hx5 := Lib.hid (RdP.step Hx.out hb5)
  clear Hx
  have Hx := Hx5
  clear Hx5
  clear hb5
  clear hc
  have Hq := Lib.hid hrq
  clear hrq
  go_wp2_with fail
  refine (same_true [(2, 0, ⟨#[97]⟩)] [(2, 0, ⟨#[97]⟩)] Ax Aq _ _ cx 1 _ _ _ Hx.out Hq.out rfl).mono ?_
  rintro e w6 ⟨rfl, hb6⟩
  have hbw6 := hbw5.trans (hb6.mono hbw5.size)
  have Hl6 := Lib.hid (RdR.step Hl.out hb6)
  clear Hl
  have Hl := Hl6
  clear Hl6
  have Hm6 := Lib.hid (RdP.step Hm.out hb6)
  clear Hm
  have Hm := Hm6
  clear Hm6
  have Hx6 := Lib.hid (RdP.step Hx.out hb6)
  clear Hx
  have Hx := Hx6
  clear Hx6
  have Hq6 := Lib.hid (RdP.step Hq.out hb6)
  clear Hq
  have Hq := Hq6
  clear Hq6
  clear hb6
  go_wp2_with fail
  clear Hx
  clear Hq
  have hc := catch_good base l mine A A' n c n' c' r w6 Hl.out Hm.out H1.out Dd (meetD Dd mine) (meetC Dd mine) HD.out rfl rfl
  refine (hc).mono ?_
  rintro e w7 ⟨Aa1, na1, ca1, Ab1, nb1, cb1, Ad1, nd1, cd1, rfl, hra1, hrb1, hrd1, hb7⟩
  have hbw7 := hbw6.trans (hb7.mono hbw6.size)
  have Hl7 := Lib.hid (RdR.step Hl.out hb7)
  clear Hl
  have Hl := Hl7
  clear Hl7
  have Hm7 := Lib.hid (RdP.step Hm.out hb7)
  clear Hm
  have Hm := Hm7
  clear Hm7
  clear hb7
  clear hc
  have Ha1 := Lib.hid hra1
  clear hra1
  have Hb1 := Lib.hid hrb1
  clear hrb1
  have Hd1 := Lib.hid hrd1
  clear hrd1
  go_wp2_with fail
  have hc := rtext_good base l A n c _ r w7 Hl.out (Nat.le_refl _) H1.out.2.1 H1.out.1
  rw [HS.out] at hc
  refine (hc).mono ?_
  rintro e w8 ⟨rfl, hb8⟩
  have hbw8 := hbw7.trans (hb8.mono hbw7.size)
  have Hl8 := Lib.hid (RdR.step Hl.out hb8)
  clear Hl
  have Hl := Hl8
  clear Hl8
  have Hm8 := Lib.hid (RdP.step Hm.out hb8)
  clear Hm
  have Hm := Hm8
  clear Hm8
  have Ha18 := Lib.hid (RdP.step Ha1.out hb8)
  clear Ha1
  have Ha1 := Ha18
  clear Ha18
  have Hb18 := Lib.hid (RdP.step Hb1.out hb8)
  clear Hb1
  have Hb1 := Hb18
  clear Hb18
  have Hd18 := Lib.hid (RdP.step Hd1.out hb8)
  clear Hd1
  have Hd1 := Hd18
  clear Hd18
  clear hb8
  clear hc
  go_wp2_with fail
  have hc := rtext_good base l A n c _ n w8 Hl.out (Nat.le_refl _) H1.out.2.1 (by have := Hn.out; omega)
  rw [HT.out] at hc
  refine (hc).mono ?_
  rintro e w9 ⟨rfl, hb9⟩
  have hbw9 := hbw8.trans (hb9.mono hbw8.size)
  have Hl9 := Lib.hid (RdR.step Hl.out hb9)
  clear Hl
  have Hl := Hl9
  clear Hl9
  have Hm9 := Lib.hid (RdP.step Hm.out hb9)
  clear Hm
  have Hm := Hm9
  clear Hm9
  have Ha19 := Lib.hid (RdP.step Ha1.out hb9)
  clear Ha1
  have Ha1 := Ha19
  clear Ha19
  have Hb19 := Lib.hid (RdP.step Hb1.out hb9)
  clear Hb1
  have Hb1 := Hb19
  clear Hb19
  have Hd19 := Lib.hid (RdP.step Hd1.out hb9)
  clear Hd1
  have Hd1 := Hd19
  clear Hd19
  clear hb9
  clear hc
  go_wp2_with fail
  have hc := do_any Dd Aa1 na1 ca1 _ S _ Ha1.out (Nat.le_refl _) (by omega)
  rw [Hb.out.1] at hc
  rw [Hb.out.2] at hc
  refine (hc).mono ?_
  rintro e w10 ⟨rfl, hb10⟩
  have hbw10 := hbw9.trans (hb10.mono hbw9.size)
  have Hl10 := Lib.hid (RdR.step Hl.out hb10)
  clear Hl
  have Hl := Hl10
  clear Hl10
  have Hm10 := Lib.hid (RdP.step Hm.out hb10)
  clear Hm
  have Hm := Hm10
  clear Hm10
  have Ha110 := Lib.hid (RdP.step Ha1.out hb10)
  clear Ha1
  have Ha1 := Ha110
  clear Ha110
  have Hb110 := Lib.hid (RdP.step Hb1.out hb10)
  clear Hb1
  have Hb1 := Hb110
  clear Hb110
  have Hd110 := Lib.hid (RdP.step Hd1.out hb10)
  clear Hd1
  have Hd1 := Hd110
  clear Hd110
  clear hb10
  clear hc
  go_wp2_with fail
  have hc := do_any (meetD Dd mine) Ab1 nb1 cb1 _ T _ Hb1.out (Nat.le_refl _) (by omega)
  rw [Hq.out.1] at hc
  refine (hc).mono ?_
  rintro e w11 ⟨rfl, hb11⟩
  have hbw11 := hbw10.trans (hb11.mono hbw10.size)
  have Hl11 := Lib.hid (RdR.step Hl.out hb11)
  clear Hl
  have Hl := Hl11
  clear Hl11
  have Hm11 := Lib.hid (RdP.step Hm.out hb11)
  clear Hm
  have Hm := Hm11
  clear Hm11
  have Ha111 := Lib.hid (RdP.step Ha1.out hb11)
  clear Ha1
  have Ha1 := Ha111
  clear Ha111
  have Hb111 := Lib.hid (RdP.step Hb1.out hb11)
  clear Hb1
  have Hb1 := Hb111
  clear Hb111
  have Hd111 := Lib.hid (RdP.step Hd1.out hb11)
  clear Hd1
  have Hd1 := Hd111
  clear Hd111
  clear hb11
  clear hc
  go_wp2_with fail
  have hc := do_any mine A' n' c' _ S _ Hm.out (Nat.le_refl _) (by omega)
  rw [Hd.out] at hc
  refine (hc).mono ?_
  rintro e w12 ⟨rfl, hb12⟩
  have hbw12 := hbw11.trans (hb12.mono hbw11.size)
  have Hl12 := Lib.hid (RdR.step Hl.out hb12)
  clear Hl
  have Hl := Hl12
  clear Hl12
  have Hm12 := Lib.hid (RdP.step Hm.out hb12)
  clear Hm
  have Hm := Hm12
  clear Hm12
  have Ha112 := Lib.hid (RdP.step Ha1.out hb12)
  clear Ha1
  have Ha1 := Ha112
  clear Ha112
  have Hb112 := Lib.hid (RdP.step Hb1.out hb12)
  clear Hb1
  have Hb1 := Hb112
  clear Hb112
  have Hd112 := Lib.hid (RdP.step Hd1.out hb12)
  clear Hd1
  have Hd1 := Hd112
  clear Hd112
  clear hb12
  clear hc
  go_wp2_with fail
  have hc := do_any (meetC Dd mine) Ad1 nd1 cd1 _ (doS mine S) _ Hd1.out (Nat.le_refl _) (by have := do_size_any mine S; omega)
  rw [Hq.out.2.1] at hc
  rw [← Hq.out.2.2] at hc
  refine (hc).mono ?_
  rintro e w13 ⟨rfl, hb13⟩
  have hbw13 := hbw12.trans (hb13.mono hbw12.size)
  have Hl13 := Lib.hid (RdR.step Hl.out hb13)
  clear Hl
  have Hl := Hl13
  clear Hl13
  have Hm13 := Lib.hid (RdP.step Hm.out hb13)
  clear Hm
  have Hm := Hm13
  clear Hm13
  have Ha113 := Lib.hid (RdP.step Ha1.out hb13)
  clear Ha1
  have Ha1 := Ha113
  clear Ha113
  have Hb113 := Lib.hid (RdP.step Hb1.out hb13)
  clear Hb1
  have Hb1 := Hb113
  clear Hb113
  have Hd113 := Lib.hid (RdP.step Hd1.out hb13)
  clear Hd1
  have Hd1 := Hd113
  clear Hd113
  clear hb13
  clear hc
  go_wp2_with fail
  go_ret
  exact ⟨rfl, hbw13⟩
theorem walk_CatchMeets (base : ByteArray) (hs : base.size ≤ 140737488351232) (v : Value) (l : List Rv) (r : Int) (wr : (Lit.int .i64 r).wf = true) (v' : Value) (mine : List Pt) (w : World) (hx : IsRevs w v l) (hx' : IsParts w v' mine) :
    Calls Try.prog 3 #[.string base, v, .int .i64 r, v'] w fun e w' => e = .returned (.bool true) ∧ Below w.heap.size w w' := by
  obtain ⟨A, n, c, rfl, h⟩ := hx
  obtain ⟨A', n', c', rfl, h'⟩ := hx'
  rcases ca_cases base l r mine with ⟨E, he⟩ | ⟨k, rfl, hk⟩
  · exact catchMeets_err base l mine A A' n c n' c' r hs w h h' E he
  · exact catchMeets_ok base l mine A A' n c n' c' k hs w h h' hk
end Go.Proofs.Ytchnbmdfpgkefaa
