/- CatchIdle: the walk. Who has done nothing has nothing left; who is not late has all of it left. -/
import Derived.Test.YtchnbmdfpgkefaaCatch
import Derived.Test.YtchnbmdfpgkefaaCatchLaw
import Derived.Test.YtchnbmdfpgkefaaFirst
import Derived.Test.YtchnbmdfpgkefaaOpenRevs
import Derived.Test.YtchnbmdfpgkefaaOpenParts
import Derived.Test.YtchnbmdfpgkefaaWithin
namespace Go.Proofs.Ytchnbmdfpgkefaa
open Go.ChangeShapes Go.WideShapes Go.RowKit
set_option linter.unusedVariables false
set_option linter.unusedSimpArgs false
set_option maxRecDepth 100000
set_option maxHeartbeats 4000000


theorem btwL_end {base : ByteArray} {l : List Rv} (h : txE base l = 0) : btwL base l l.length l.length = allL (txt base l l.length).size := by
  unfold btwL
  rw [Nat.sub_self, List.take_zero]; rfl

theorem catchIdle_no (base : ByteArray) (l : List Rv) (mine : List Pt) (A A' : Option Addr) (n c n' c' : Nat) (r : Int) (hs : base.size ≤ 140737488351232) (w : World) (h : RdR w w.heap.size A n c l) (h' : RdP w w.heap.size A' n' c' mine) (h1 : txE base l ≠ 0) :
    Calls Try.prog 4 #[.string base, .slice A n c, .int .i64 r, .slice A' n' c'] w fun e w' => e = .returned (.bool true) ∧ Below w.heap.size w w' := by
  have hbw0 : Below w.heap.size w w := Below.refl _ _
  have Hl := Lib.hid h
  clear h
  have Hm := Lib.hid h'
  clear h'
  have hne : (txE base l != 0) = true := by simpa using h1
  have H1 := Lib.hid h1
  clear h1
  go_enter Try.func4, Try.ntmps4
  go_wp2_with fail
  have hc := put_any ⟨#[97]⟩ (by decide) w
  refine (hc).mono ?_
  rintro e w1 ⟨Ap, rfl, hrp, hb1⟩
  have hbw1 := hbw0.trans (hb1.mono hbw0.size)
  have Hl1 := Lib.hid (RdR.step Hl.out hb1)
  clear Hl
  have Hl := Hl1
  clear Hl1
  have Hm1 := Lib.hid (RdP.step Hm.out hb1)
  clear Hm
  have Hm := Hm1
  clear Hm1
  clear hb1
  clear hc
  have Hp := Lib.hid hrp
  clear hrp
  go_wp2_with fail
  have hn0 : RdR w1 w1.heap.size none 0 0 [] := RdR.nil _ _
  have Hh := Lib.hid hn0
  clear hn0
  have hc := catch_good ⟨#[]⟩ [] [(2, 0, ⟨#[97]⟩)] none Ap 0 0 1 1 0 w1 Hh.out Hp.out ⟨by decide, by decide, by decide, by decide⟩ [] [(2, 0, ⟨#[97]⟩)] [(1, 1, emp)] (by decide) (by decide) (by decide)
  refine (hc).mono ?_
  rintro e w2 ⟨Ax, nx, cx, Ay, ny, cy, Az, nz, cz, rfl, hrx, hry, hrz, hb2⟩
  have hbw2 := hbw1.trans (hb2.mono hbw1.size)
  have Hl2 := Lib.hid (RdR.step Hl.out hb2)
  clear Hl
  have Hl := Hl2
  clear Hl2
  have Hm2 := Lib.hid (RdP.step Hm.out hb2)
  clear Hm
  have Hm := Hm2
  clear Hm2
  have Hp2 := Lib.hid (RdP.step Hp.out hb2)
  clear Hp
  have Hp := Hp2
  clear Hp2
  have Hh2 := Lib.hid (RdR.step Hh.out hb2)
  clear Hh
  have Hh := Hh2
  clear Hh2
  clear hb2
  clear hc
  have Hx := Lib.hid hrx
  clear hrx
  have Hy := Lib.hid hry
  clear hry
  have Hz := Lib.hid hrz
  clear hrz
  obtain rfl : nx = 0 := Hx.out.1
  go_wp2_with fail
  clear Hh
  clear Hp
  clear Hx
  have hc := put_any ⟨#[97]⟩ (by decide) w2
  refine (hc).mono ?_
  rintro e w3 ⟨Aq, rfl, hrq, hb3⟩
  have hbw3 := hbw2.trans (hb3.mono hbw2.size)
  have Hl3 := Lib.hid (RdR.step Hl.out hb3)
  clear Hl
  have Hl := Hl3
  clear Hl3
  have Hm3 := Lib.hid (RdP.step Hm.out hb3)
  clear Hm
  have Hm := Hm3
  clear Hm3
  have Hy3 := Lib.hid (RdP.step Hy.out hb3)
  clear Hy
  have Hy := Hy3
  clear Hy3
  have Hz3 := Lib.hid (RdP.step Hz.out hb3)
  clear Hz
  have Hz := Hz3
  clear Hz3
  clear hb3
  clear hc
  have Hq := Lib.hid hrq
  clear hrq
  go_wp2_with fail
  refine (same_true [(2, 0, ⟨#[97]⟩)] [(2, 0, ⟨#[97]⟩)] Ay Aq _ _ cy 1 _ _ _ Hy.out Hq.out rfl).mono ?_
  rintro e w4 ⟨rfl, hb4⟩
  have hbw4 := hbw3.trans (hb4.mono hbw3.size)
  have Hl4 := Lib.hid (RdR.step Hl.out hb4)
  clear Hl
  have Hl := Hl4
  clear Hl4
  have Hm4 := Lib.hid (RdP.step Hm.out hb4)
  clear Hm
  have Hm := Hm4
  clear Hm4
  have Hy4 := Lib.hid (RdP.step Hy.out hb4)
  clear Hy
  have Hy := Hy4
  clear Hy4
  have Hz4 := Lib.hid (RdP.step Hz.out hb4)
  clear Hz
  have Hz := Hz4
  clear Hz4
  have Hq4 := Lib.hid (RdP.step Hq.out hb4)
  clear Hq
  have Hq := Hq4
  clear Hq4
  clear hb4
  go_wp2_with fail
  clear Hy
  clear Hq
  have hc := all_any 1 w4
  refine (hc).mono ?_
  rintro e w5 ⟨Aq, cq, rfl, hrq, hb5⟩
  have hbw5 := hbw4.trans (hb5.mono hbw4.size)
  have Hl5 := Lib.hid (RdR.step Hl.out hb5)
  clear Hl
  have Hl := Hl5
  clear Hl5
  have Hm5 := Lib.hid (RdP.step Hm.out hb5)
  clear Hm
  have Hm := Hm5
  clear Hm5
  have Hz5 := Lib.hid (RdP.step Hz.out hb5)
  clear Hz
  have Hz := Hz5
  clear Hz5
  clear hb5
  clear hc
  have Hq := Lib.hid hrq
  clear hrq
  go_wp2_with fail
  refine (same_true [(1, 1, emp)] (allL 1) Az Aq _ _ cz cq _ _ _ Hz.out Hq.out (by decide)).mono ?_
  rintro e w6 ⟨rfl, hb6⟩
  have hbw6 := hbw5.trans (hb6.mono hbw5.size)
  have Hl6 := Lib.hid (RdR.step Hl.out hb6)
  clear Hl
  have Hl := Hl6
  clear Hl6
  have Hm6 := Lib.hid (RdP.step Hm.out hb6)
  clear Hm
  have Hm := Hm6
  clear Hm6
  have Hz6 := Lib.hid (RdP.step Hz.out hb6)
  clear Hz
  have Hz := Hz6
  clear Hz6
  have Hq6 := Lib.hid (RdP.step Hq.out hb6)
  clear Hq
  have Hq := Hq6
  clear Hq6
  clear hb6
  go_wp2_with fail
  clear Hz
  clear Hq
  refine (rcheck_any base l A n c _ _ Hl.out (Nat.le_refl _) (by omega)).mono ?_
  rintro e w7 ⟨rfl, hb7⟩
  have hbw7 := hbw6.trans (hb7.mono hbw6.size)
  have Hl7 := Lib.hid (RdR.step Hl.out hb7)
  clear Hl
  have Hl := Hl7
  clear Hl7
  have Hm7 := Lib.hid (RdP.step Hm.out hb7)
  clear Hm
  have Hm := Hm7
  clear Hm7
  clear hb7
  go_wp2_with fail
  go_ret
  exact ⟨rfl, hbw7⟩
theorem catchIdle_err (base : ByteArray) (l : List Rv) (mine : List Pt) (A A' : Option Addr) (n c n' c' : Nat) (r : Int) (hs : base.size ≤ 140737488351232) (w : World) (h : RdR w w.heap.size A n c l) (h' : RdP w w.heap.size A' n' c' mine) (h1 : txE base l = 0) (E : Int) (h2 : CaErr base l n mine E) :
    Calls Try.prog 4 #[.string base, .slice A n c, .int .i64 r, .slice A' n' c'] w fun e w' => e = .returned (.bool true) ∧ Below w.heap.size w w' := by
  have hbw0 : Below w.heap.size w w := Below.refl _ _
  have Hl := Lib.hid h
  clear h
  have Hm := Lib.hid h'
  clear h'
  have hne : (E != 0) = true := by simpa using h2.1
  have H2 := Lib.hid h2
  clear h2
  have hn : n = l.length := Hl.out.1
  have Hn := Lib.hid hn
  have hn64 : (n : Int) ≤ 64 := by have := (txE_parts h1).2.1; omega
  have hK := wi_lt r (n + 1) (by omega)
  obtain ⟨K, hKe⟩ : ∃ K, wi r (n + 1) = K := ⟨_, rfl⟩
  rw [hKe] at hK
  have HKe := Lib.hid hKe
  obtain ⟨S, hS⟩ : ∃ S, txt base l K = S := ⟨_, rfl⟩
  obtain ⟨T, hT⟩ : ∃ T, txt base l n = T := ⟨_, rfl⟩
  obtain ⟨Dd, hD⟩ : ∃ Dd, btwL base l K l.length = Dd := ⟨_, rfl⟩
  have hb := btw_of h1 K l.length (by omega) (Nat.le_refl _)
  have hb1 : doE Dd S = 0 ∧ doS Dd S = T := by rw [← hD, ← hS, ← hT, hn]; exact hb
  have hS5 : S.size ≤ 500 := by rw [← hS]; exact txt_size l base K (txE_parts h1).1
  have hT5 : T.size ≤ 500 := by rw [← hT]; exact txt_size l base n (txE_parts h1).1
  have hDc := do_chk hb1.1
  have hma := meet_all hDc.1
  have hDo : nO (units Dd) = T.size := by rw [← hb1.2]; exact (do_size hb1.1).symm
  rw [hDc.2.1, hDo] at hma
  have hok : CaOk base l K (allL S.size) := ⟨by omega, h1, by rw [hS]; exact (do_all hS5).1, by rw [hD]; exact hma.1⟩
  have Hok := Lib.hid hok
  have Hma := Lib.hid hma
  have HS := Lib.hid hS
  have HT := Lib.hid hT
  have HD := Lib.hid hD
  have H1 := Lib.hid h1
  have hcast : ((n + 1 : Nat) : Int) = (n : Int) + 1 := by omega
  have Hcast := Lib.hid hcast
  have HKn := Lib.hid hK
  clear h1 hn hS hT hD hb hb1 hDc hma hDo hok hKe hcast
  go_enter Try.func4, Try.ntmps4
  go_wp2_with fail
  have hc := put_any ⟨#[97]⟩ (by decide) w
  refine (hc).mono ?_
  rintro e w1 ⟨Ap, rfl, hrp, hb1⟩
  have hbw1 := hbw0.trans (hb1.mono hbw0.size)
  have Hl1 := Lib.hid (RdR.step Hl.out hb1)
  clear Hl
  have Hl := Hl1
  clear Hl1
  have Hm1 := Lib.hid (RdP.step Hm.out hb1)
  clear Hm
  have Hm := Hm1
  clear Hm1
  clear hb1
  clear hc
  have Hp := Lib.hid hrp
  clear hrp
  go_wp2_with fail
  have hn0 : RdR w1 w1.heap.size none 0 0 [] := RdR.nil _ _
  have Hh := Lib.hid hn0
  clear hn0
  have hc := catch_good ⟨#[]⟩ [] [(2, 0, ⟨#[97]⟩)] none Ap 0 0 1 1 0 w1 Hh.out Hp.out ⟨by decide, by decide, by decide, by decide⟩ [] [(2, 0, ⟨#[97]⟩)] [(1, 1, emp)] (by decide) (by decide) (by decide)
  refine (hc).mono ?_
  rintro e w2 ⟨Ax, nx, cx, Ay, ny, cy, Az, nz, cz, rfl, hrx, hry, hrz, hb2⟩
  have hbw2 := hbw1.trans (hb2.mono hbw1.size)
  have Hl2 := Lib.hid (RdR.step Hl.out hb2)
  clear Hl
  have Hl := Hl2
  clear Hl2
  have Hm2 := Lib.hid (RdP.step Hm.out hb2)
  clear Hm
  have Hm := Hm2
  clear Hm2
  have Hp2 := Lib.hid (RdP.step Hp.out hb2)
  clear Hp
  have Hp := Hp2
  clear Hp2
  have Hh2 := Lib.hid (RdR.step Hh.out hb2)
  clear Hh
  have Hh := Hh2
  clear Hh2
  clear hb2
  clear hc
  have Hx := Lib.hid hrx
  clear hrx
  have Hy := Lib.hid hry
  clear hry
  have Hz := Lib.hid hrz
  clear hrz
  obtain rfl : nx = 0 := Hx.out.1
  go_wp2_with fail
  clear Hh
  clear Hp
  clear Hx
  have hc := put_any ⟨#[97]⟩ (by decide) w2
  refine (hc).mono ?_
  rintro e w3 ⟨Aq, rfl, hrq, hb3⟩
  have hbw3 := hbw2.trans (hb3.mono hbw2.size)
  have Hl3 := Lib.hid (RdR.step Hl.out hb3)
  clear Hl
  have Hl := Hl3
  clear Hl3
  have Hm3 := Lib.hid (RdP.step Hm.out hb3)
  clear Hm
  have Hm := Hm3
  clear Hm3
  have Hy3 := Lib.hid (RdP.step Hy.out hb3)
  clear Hy
  have Hy := Hy3
  clear Hy3
  have Hz3 := Lib.hid (RdP.step Hz.out hb3)
  clear Hz
  have Hz := Hz3
  clear Hz3
  clear hb3
  clear hc
  have Hq := Lib.hid hrq
  clear hrq
  go_wp2_with fail
  refine (same_true [(2, 0, ⟨#[97]⟩)] [(2, 0, ⟨#[97]⟩)] Ay Aq _ _ cy 1 _ _ _ Hy.out Hq.out rfl).mono ?_
  rintro e w4 ⟨rfl, hb4⟩
  have hbw4 := hbw3.trans (hb4.mono hbw3.size)
  have Hl4 := Lib.hid (RdR.step Hl.out hb4)
  clear Hl
  have Hl := Hl4
  clear Hl4
  have Hm4 := Lib.hid (RdP.step Hm.out hb4)
  clear Hm
  have Hm := Hm4
  clear Hm4
  have Hy4 := Lib.hid (RdP.step Hy.out hb4)
  clear Hy
  have Hy := Hy4
  clear Hy4
  have Hz4 := Lib.hid (RdP.step Hz.out hb4)
  clear Hz
  have Hz := Hz4
  clear Hz4
  have Hq4 := Lib.hid (RdP.step Hq.out hb4)
  clear Hq
  have Hq := Hq4
  clear Hq4
  clear hb4
  go_wp2_with fail
  clear Hy
  clear Hq
  have hc := all_any 1 w4
  refine (hc).mono ?_
  rintro e w5 ⟨Aq, cq, rfl, hrq, hb5⟩
  have hbw5 := hbw4.trans (hb5.mono hbw4.size)
  have Hl5 := Lib.hid (RdR.step Hl.out hb5)
  clear Hl
  have Hl := Hl5
  clear Hl5
  have Hm5 := Lib.hid (RdP.step Hm.out hb5)
  clear Hm
  have Hm := Hm5
  clear Hm5
  have Hz5 := Lib.hid (RdP.step Hz.out hb5)
  clear Hz
  have Hz := Hz5
  clear Hz5
  clear hb5
  clear hc
  have Hq := Lib.hid hrq
  clear hrq
  go_wp2_with fail
  refine (same_true [(1, 1, emp)] (allL 1) Az Aq _ _ cz cq _ _ _ Hz.out Hq.out (by decide)).mono ?_
  rintro e w6 ⟨rfl, hb6⟩
  have hbw6 := hbw5.trans (hb6.mono hbw5.size)
  have Hl6 := Lib.hid (RdR.step Hl.out hb6)
  clear Hl
  have Hl := Hl6
  clear Hl6
  have Hm6 := Lib.hid (RdP.step Hm.out hb6)
  clear Hm
  have Hm := Hm6
  clear Hm6
  have Hz6 := Lib.hid (RdP.step Hz.out hb6)
  clear Hz
  have Hz := Hz6
  clear Hz6
  have Hq6 := Lib.hid (RdP.step Hq.out hb6)
  clear Hq
  have Hq := Hq6
  clear Hq6
  clear hb6
  go_wp2_with fail
  clear Hz
  clear Hq
  have hc := rcheck_any base l A n c _ _ Hl.out (Nat.le_refl _) (by omega)
  rw [H1.out] at hc
  refine (hc).mono ?_
  rintro e w7 ⟨rfl, hb7⟩
  have hbw7 := hbw6.trans (hb7.mono hbw6.size)
  have Hl7 := Lib.hid (RdR.step Hl.out hb7)
  clear Hl
  have Hl := Hl7
  clear Hl7
  have Hm7 := Lib.hid (RdP.step Hm.out hb7)
  clear Hm
  have Hm := Hm7
  clear Hm7
  clear hb7
  clear hc
  go_wp2_with fail
  have hc := within_any r (n + 1) w7 (by omega) (by omega)
  rw [Hcast.out, HKe.out] at hc
  refine (hc).mono ?_
  rintro e w8 ⟨rfl, rfl⟩
  clear hc
  go_wp2_with fail
  have hc := rtext_good base l A n c _ K w7 Hl.out (Nat.le_refl _) H1.out (by have := Hn.out; have := HKn.out; omega)
  rw [HS.out] at hc
  refine (hc).mono ?_
  rintro e w9 ⟨rfl, hb9⟩
  have hbw9 := hbw7.trans (hb9.mono hbw7.size)
  have Hl9 := Lib.hid (RdR.step Hl.out hb9)
  clear Hl
  have Hl := Hl9
  clear Hl9
  have Hm9 := Lib.hid (RdP.step Hm.out hb9)
  clear Hm
  have Hm := Hm9
  clear Hm9
  clear hb9
  clear hc
  go_wp2_with fail
  have hc := rtext_good base l A n c _ n w9 Hl.out (Nat.le_refl _) H1.out (by have := Hn.out; omega)
  rw [HT.out] at hc
  refine (hc).mono ?_
  rintro e w10 ⟨rfl, hb10⟩
  have hbw10 := hbw9.trans (hb10.mono hbw9.size)
  have Hl10 := Lib.hid (RdR.step Hl.out hb10)
  clear Hl
  have Hl := Hl10
  clear Hl10
  have Hm10 := Lib.hid (RdP.step Hm.out hb10)
  clear Hm
  have Hm := Hm10
  clear Hm10
  clear hb10
  clear hc
  go_wp2_with fail
  have hc := all_any (S.size : Int) w10
  refine (hc).mono ?_
  rintro e w11 ⟨As, cs, rfl, hrs, hb11⟩
  have hbw11 := hbw10.trans (hb11.mono hbw10.size)
  have Hl11 := Lib.hid (RdR.step Hl.out hb11)
  clear Hl
  have Hl := Hl11
  clear Hl11
  have Hm11 := Lib.hid (RdP.step Hm.out hb11)
  clear Hm
  have Hm := Hm11
  clear Hm11
  clear hb11
  clear hc
  have Hs := Lib.hid hrs
  clear hrs
  go_wp2_with fail
  have hc := catch_good base l (allL (S.size : Int)) A As n c ((allL (S.size : Int)).length) cs K w11 Hl.out Hs.out Hok.out Dd (allL T.size) Dd HD.out Hma.out.2.2 Hma.out.2.1
  refine (hc).mono ?_
  rintro e w12 ⟨Aa1, na1, ca1, Ab1, nb1, cb1, Ad1, nd1, cd1, rfl, hra1, hrb1, hrd1, hb12⟩
  have hbw12 := hbw11.trans (hb12.mono hbw11.size)
  have Hl12 := Lib.hid (RdR.step Hl.out hb12)
  clear Hl
  have Hl := Hl12
  clear Hl12
  have Hm12 := Lib.hid (RdP.step Hm.out hb12)
  clear Hm
  have Hm := Hm12
  clear Hm12
  have Hs12 := Lib.hid (RdP.step Hs.out hb12)
  clear Hs
  have Hs := Hs12
  clear Hs12
  clear hb12
  clear hc
  have Ha1 := Lib.hid hra1
  clear hra1
  have Hb1 := Lib.hid hrb1
  clear hrb1
  have Hd1 := Lib.hid hrd1
  clear hrd1
  go_wp2_with fail
  refine (same_true Dd Dd Aa1 Ad1 _ _ ca1 cd1 _ _ _ Ha1.out Hd1.out rfl).mono ?_
  rintro e w13 ⟨rfl, hb13⟩
  have hbw13 := hbw12.trans (hb13.mono hbw12.size)
  have Hl13 := Lib.hid (RdR.step Hl.out hb13)
  clear Hl
  have Hl := Hl13
  clear Hl13
  have Hm13 := Lib.hid (RdP.step Hm.out hb13)
  clear Hm
  have Hm := Hm13
  clear Hm13
  have Hs13 := Lib.hid (RdP.step Hs.out hb13)
  clear Hs
  have Hs := Hs13
  clear Hs13
  have Ha113 := Lib.hid (RdP.step Ha1.out hb13)
  clear Ha1
  have Ha1 := Ha113
  clear Ha113
  have Hb113 := Lib.hid (RdP.step Hb1.out hb13)
  clear Hb1
  have Hb1 := Hb113
  clear Hb113
  have Hd113 := Lib.hid (RdP.step Hd1.out hb13)
  clear Hd1
  have Hd1 := Hd113
  clear Hd113
  clear hb13
  go_wp2_with fail
  clear Ha1
  clear Hd1
  clear Hs
  have hc := all_any (T.size : Int) w13
  refine (hc).mono ?_
  rintro e w14 ⟨At, ct, rfl, hrt, hb14⟩
  have hbw14 := hbw13.trans (hb14.mono hbw13.size)
  have Hl14 := Lib.hid (RdR.step Hl.out hb14)
  clear Hl
  have Hl := Hl14
  clear Hl14
  have Hm14 := Lib.hid (RdP.step Hm.out hb14)
  clear Hm
  have Hm := Hm14
  clear Hm14
  have Hb114 := Lib.hid (RdP.step Hb1.out hb14)
  clear Hb1
  have Hb1 := Hb114
  clear Hb114
  clear hb14
  clear hc
  have Ht := Lib.hid hrt
  clear hrt
  go_wp2_with fail
  refine (same_true (allL T.size) (allL (T.size : Int)) Ab1 At _ _ cb1 ct _ _ _ Hb1.out Ht.out rfl).mono ?_
  rintro e w15 ⟨rfl, hb15⟩
  have hbw15 := hbw14.trans (hb15.mono hbw14.size)
  have Hl15 := Lib.hid (RdR.step Hl.out hb15)
  clear Hl
  have Hl := Hl15
  clear Hl15
  have Hm15 := Lib.hid (RdP.step Hm.out hb15)
  clear Hm
  have Hm := Hm15
  clear Hm15
  have Hb115 := Lib.hid (RdP.step Hb1.out hb15)
  clear Hb1
  have Hb1 := Hb115
  clear Hb115
  have Ht15 := Lib.hid (RdP.step Ht.out hb15)
  clear Ht
  have Ht := Ht15
  clear Ht15
  clear hb15
  go_wp2_with fail
  clear Hb1
  clear Ht
  refine (catch_err base l mine A A' n c n' c' n E _ Hl.out Hm.out (by omega) H2.out).mono ?_
  rintro e w16 ⟨rfl, hb16⟩
  have hbw16 := hbw15.trans (hb16.mono hbw15.size)
  have Hl16 := Lib.hid (RdR.step Hl.out hb16)
  clear Hl
  have Hl := Hl16
  clear Hl16
  have Hm16 := Lib.hid (RdP.step Hm.out hb16)
  clear Hm
  have Hm := Hm16
  clear Hm16
  clear hb16
  go_wp2_with fail
  go_ret
  exact ⟨rfl, hbw16⟩
theorem catchIdle_ok (base : ByteArray) (l : List Rv) (mine : List Pt) (A A' : Option Addr) (n c n' c' : Nat) (r : Int) (hs : base.size ≤ 140737488351232) (w : World) (h : RdR w w.heap.size A n c l) (h' : RdP w w.heap.size A' n' c' mine) (h1 : txE base l = 0) (h2 : CaOk base l n mine) :
    Calls Try.prog 4 #[.string base, .slice A n c, .int .i64 r, .slice A' n' c'] w fun e w' => e = .returned (.bool true) ∧ Below w.heap.size w w' := by
  have hbw0 : Below w.heap.size w w := Below.refl _ _
  have Hl := Lib.hid h
  clear h
  have Hm := Lib.hid h'
  clear h'
  have hd2 := do_chk h2.2.2.1
  have hml := meet_all_left hd2.1
  have hD2 : btwL base l n l.length = allL (txt base l n).size := by
    have hn : n = l.length := Hl.out.1
    rw [hn]; exact btwL_end h1
  rw [hd2.2.1] at hml
  have Hml := Lib.hid hml
  have HD2 := Lib.hid hD2
  have Hmc := Lib.hid hd2.1
  have H2 := Lib.hid h2
  clear h2 hd2 hml hD2
  have hn : n = l.length := Hl.out.1
  have Hn := Lib.hid hn
  have hn64 : (n : Int) ≤ 64 := by have := (txE_parts h1).2.1; omega
  have hK := wi_lt r (n + 1) (by omega)
  obtain ⟨K, hKe⟩ : ∃ K, wi r (n + 1) = K := ⟨_, rfl⟩
  rw [hKe] at hK
  have HKe := Lib.hid hKe
  obtain ⟨S, hS⟩ : ∃ S, txt base l K = S := ⟨_, rfl⟩
  obtain ⟨T, hT⟩ : ∃ T, txt base l n = T := ⟨_, rfl⟩
  obtain ⟨Dd, hD⟩ : ∃ Dd, btwL base l K l.length = Dd := ⟨_, rfl⟩
  have hb := btw_of h1 K l.length (by omega) (Nat.le_refl _)
  have hb1 : doE Dd S = 0 ∧ doS Dd S = T := by rw [← hD, ← hS, ← hT, hn]; exact hb
  have hS5 : S.size ≤ 500 := by rw [← hS]; exact txt_size l base K (txE_parts h1).1
  have hT5 : T.size ≤ 500 := by rw [← hT]; exact txt_size l base n (txE_parts h1).1
  have hDc := do_chk hb1.1
  have hma := meet_all hDc.1
  have hDo : nO (units Dd) = T.size := by rw [← hb1.2]; exact (do_size hb1.1).symm
  rw [hDc.2.1, hDo] at hma
  have hok : CaOk base l K (allL S.size) := ⟨by omega, h1, by rw [hS]; exact (do_all hS5).1, by rw [hD]; exact hma.1⟩
  have Hok := Lib.hid hok
  have Hma := Lib.hid hma
  have HS := Lib.hid hS
  have HT := Lib.hid hT
  have HD := Lib.hid hD
  have H1 := Lib.hid h1
  have hcast : ((n + 1 : Nat) : Int) = (n : Int) + 1 := by omega
  have Hcast := Lib.hid hcast
  have HKn := Lib.hid hK
  clear h1 hn hS hT hD hb hb1 hDc hma hDo hok hKe hcast
  rw [HT.out] at Hml HD2
  go_enter Try.func4, Try.ntmps4
  go_wp2_with fail
  have hc := put_any ⟨#[97]⟩ (by decide) w
  refine (hc).mono ?_
  rintro e w1 ⟨Ap, rfl, hrp, hb1⟩
  have hbw1 := hbw0.trans (hb1.mono hbw0.size)
  have Hl1 := Lib.hid (RdR.step Hl.out hb1)
  clear Hl
  have Hl := Hl1
  clear Hl1
  have Hm1 := Lib.hid (RdP.step Hm.out hb1)
  clear Hm
  have Hm := Hm1
  clear Hm1
  clear hb1
  clear hc
  have Hp := Lib.hid hrp
  clear hrp
  go_wp2_with fail
  have hn0 : RdR w1 w1.heap.size none 0 0 [] := RdR.nil _ _
  have Hh := Lib.hid hn0
  clear hn0
  have hc := catch_good ⟨#[]⟩ [] [(2, 0, ⟨#[97]⟩)] none Ap 0 0 1 1 0 w1 Hh.out Hp.out ⟨by decide, by decide, by decide, by decide⟩ [] [(2, 0, ⟨#[97]⟩)] [(1, 1, emp)] (by decide) (by decide) (by decide)
  refine (hc).mono ?_
  rintro e w2 ⟨Ax, nx, cx, Ay, ny, cy, Az, nz, cz, rfl, hrx, hry, hrz, hb2⟩
  have hbw2 := hbw1.trans (hb2.mono hbw1.size)
  have Hl2 := Lib.hid (RdR.step Hl.out hb2)
  clear Hl
  have Hl := Hl2
  clear Hl2
  have Hm2 := Lib.hid (RdP.step Hm.out hb2)
  clear Hm
  have Hm := Hm2
  clear Hm2
  have Hp2 := Lib.hid (RdP.step Hp.out hb2)
  clear Hp
  have Hp := Hp2
  clear Hp2
  have Hh2 := Lib.hid (RdR.step Hh.out hb2)
  clear Hh
  have Hh := Hh2
  clear Hh2
  clear hb2
  clear hc
  have Hx := Lib.hid hrx
  clear hrx
  have Hy := Lib.hid hry
  clear hry
  have Hz := Lib.hid hrz
  clear hrz
  obtain rfl : nx = 0 := Hx.out.1
  go_wp2_with fail
  clear Hh
  clear Hp
  clear Hx
  have hc := put_any ⟨#[97]⟩ (by decide) w2
  refine (hc).mono ?_
  rintro e w3 ⟨Aq, rfl, hrq, hb3⟩
  have hbw3 := hbw2.trans (hb3.mono hbw2.size)
  have Hl3 := Lib.hid (RdR.step Hl.out hb3)
  clear Hl
  have Hl := Hl3
  clear Hl3
  have Hm3 := Lib.hid (RdP.step Hm.out hb3)
  clear Hm
  have Hm := Hm3
  clear Hm3
  have Hy3 := Lib.hid (RdP.step Hy.out hb3)
  clear Hy
  have Hy := Hy3
  clear Hy3
  have Hz3 := Lib.hid (RdP.step Hz.out hb3)
  clear Hz
  have Hz := Hz3
  clear Hz3
  clear hb3
  clear hc
  have Hq := Lib.hid hrq
  clear hrq
  go_wp2_with fail
  refine (same_true [(2, 0, ⟨#[97]⟩)] [(2, 0, ⟨#[97]⟩)] Ay Aq _ _ cy 1 _ _ _ Hy.out Hq.out rfl).mono ?_
  rintro e w4 ⟨rfl, hb4⟩
  have hbw4 := hbw3.trans (hb4.mono hbw3.size)
  have Hl4 := Lib.hid (RdR.step Hl.out hb4)
  clear Hl
  have Hl := Hl4
  clear Hl4
  have Hm4 := Lib.hid (RdP.step Hm.out hb4)
  clear Hm
  have Hm := Hm4
  clear Hm4
  have Hy4 := Lib.hid (RdP.step Hy.out hb4)
  clear Hy
  have Hy := Hy4
  clear Hy4
  have Hz4 := Lib.hid (RdP.step Hz.out hb4)
  clear Hz
  have Hz := Hz4
  clear Hz4
  have Hq4 := Lib.hid (RdP.step Hq.out hb4)
  clear Hq
  have Hq := Hq4
  clear Hq4
  clear hb4
  go_wp2_with fail
  clear Hy
  clear Hq
  have hc := all_any 1 w4
  refine (hc).mono ?_
  rintro e w5 ⟨Aq, cq, rfl, hrq, hb5⟩
  have hbw5 := hbw4.trans (hb5.mono hbw4.size)
  have Hl5 := Lib.hid (RdR.step Hl.out hb5)
  clear Hl
  have Hl := Hl5
  clear Hl5
  have Hm5 := Lib.hid (RdP.step Hm.out hb5)
  clear Hm
  have Hm := Hm5
  clear Hm5
  have Hz5 := Lib.hid (RdP.step Hz.out hb5)
  clear Hz
  have Hz := Hz5
  clear Hz5
  clear hb5
  clear hc
  have Hq := Lib.hid hrq
  clear hrq
  go_wp2_with fail
  refine (same_true [(1, 1, emp)] (allL 1) Az Aq _ _ cz cq _ _ _ Hz.out Hq.out (by decide)).mono ?_
  rintro e w6 ⟨rfl, hb6⟩
  have hbw6 := hbw5.trans (hb6.mono hbw5.size)
  have Hl6 := Lib.hid (RdR.step Hl.out hb6)
  clear Hl
  have Hl := Hl6
  clear Hl6
  have Hm6 := Lib.hid (RdP.step Hm.out hb6)
  clear Hm
  have Hm := Hm6
  clear Hm6
  have Hz6 := Lib.hid (RdP.step Hz.out hb6)
  clear Hz
  have Hz := Hz6
  clear Hz6
  have Hq6 := Lib.hid (RdP.step Hq.out hb6)
  clear Hq
  have Hq := Hq6
  clear Hq6
  clear hb6
  go_wp2_with fail
  clear Hz
  clear Hq
  have hc := rcheck_any base l A n c _ _ Hl.out (Nat.le_refl _) (by omega)
  rw [H1.out] at hc
  refine (hc).mono ?_
  rintro e w7 ⟨rfl, hb7⟩
  have hbw7 := hbw6.trans (hb7.mono hbw6.size)
  have Hl7 := Lib.hid (RdR.step Hl.out hb7)
  clear Hl
  have Hl := Hl7
  clear Hl7
  have Hm7 := Lib.hid (RdP.step Hm.out hb7)
  clear Hm
  have Hm := Hm7
  clear Hm7
  clear hb7
  clear hc
  go_wp2_with fail
  have hc := within_any r (n + 1) w7 (by omega) (by omega)
  rw [Hcast.out, HKe.out] at hc
  refine (hc).mono ?_
  rintro e w8 ⟨rfl, rfl⟩
  clear hc
  go_wp2_with fail
  have hc := rtext_good base l A n c _ K w7 Hl.out (Nat.le_refl _) H1.out (by have := Hn.out; have := HKn.out; omega)
  rw [HS.out] at hc
  refine (hc).mono ?_
  rintro e w9 ⟨rfl, hb9⟩
  have hbw9 := hbw7.trans (hb9.mono hbw7.size)
  have Hl9 := Lib.hid (RdR.step Hl.out hb9)
  clear Hl
  have Hl := Hl9
  clear Hl9
  have Hm9 := Lib.hid (RdP.step Hm.out hb9)
  clear Hm
  have Hm := Hm9
  clear Hm9
  clear hb9
  clear hc
  go_wp2_with fail
  have hc := rtext_good base l A n c _ n w9 Hl.out (Nat.le_refl _) H1.out (by have := Hn.out; omega)
  rw [HT.out] at hc
  refine (hc).mono ?_
  rintro e w10 ⟨rfl, hb10⟩
  have hbw10 := hbw9.trans (hb10.mono hbw9.size)
  have Hl10 := Lib.hid (RdR.step Hl.out hb10)
  clear Hl
  have Hl := Hl10
  clear Hl10
  have Hm10 := Lib.hid (RdP.step Hm.out hb10)
  clear Hm
  have Hm := Hm10
  clear Hm10
  clear hb10
  clear hc
  go_wp2_with fail
  have hc := all_any (S.size : Int) w10
  refine (hc).mono ?_
  rintro e w11 ⟨As, cs, rfl, hrs, hb11⟩
  have hbw11 := hbw10.trans (hb11.mono hbw10.size)
  have Hl11 := Lib.hid (RdR.step Hl.out hb11)
  clear Hl
  have Hl := Hl11
  clear Hl11
  have Hm11 := Lib.hid (RdP.step Hm.out hb11)
  clear Hm
  have Hm := Hm11
  clear Hm11
  clear hb11
  clear hc
  have Hs := Lib.hid hrs
  clear hrs
  go_wp2_with fail
  have hc := catch_good base l (allL (S.size : Int)) A As n c ((allL (S.size : Int)).length) cs K w11 Hl.out Hs.out Hok.out Dd (allL T.size) Dd HD.out Hma.out.2.2 Hma.out.2.1
  refine (hc).mono ?_
  rintro e w12 ⟨Aa1, na1, ca1, Ab1, nb1, cb1, Ad1, nd1, cd1, rfl, hra1, hrb1, hrd1, hb12⟩
  have hbw12 := hbw11.trans (hb12.mono hbw11.size)
  have Hl12 := Lib.hid (RdR.step Hl.out hb12)
  clear Hl
  have Hl := Hl12
  clear Hl12
  have Hm12 := Lib.hid (RdP.step Hm.out hb12)
  clear Hm
  have Hm := Hm12
  clear Hm12
  have Hs12 := Lib.hid (RdP.step Hs.out hb12)
  clear Hs
  have Hs := Hs12
  clear Hs12
  clear hb12
  clear hc
  have Ha1 := Lib.hid hra1
  clear hra1
  have Hb1 := Lib.hid hrb1
  clear hrb1
  have Hd1 := Lib.hid hrd1
  clear hrd1
  go_wp2_with fail
  refine (same_true Dd Dd Aa1 Ad1 _ _ ca1 cd1 _ _ _ Ha1.out Hd1.out rfl).mono ?_
  rintro e w13 ⟨rfl, hb13⟩
  have hbw13 := hbw12.trans (hb13.mono hbw12.size)
  have Hl13 := Lib.hid (RdR.step Hl.out hb13)
  clear Hl
  have Hl := Hl13
  clear Hl13
  have Hm13 := Lib.hid (RdP.step Hm.out hb13)
  clear Hm
  have Hm := Hm13
  clear Hm13
  have Hs13 := Lib.hid (RdP.step Hs.out hb13)
  clear Hs
  have Hs := Hs13
  clear Hs13
  have Ha113 := Lib.hid (RdP.step Ha1.out hb13)
  clear Ha1
  have Ha1 := Ha113
  clear Ha113
  have Hb113 := Lib.hid (RdP.step Hb1.out hb13)
  clear Hb1
  have Hb1 := Hb113
  clear Hb113
  have Hd113 := Lib.hid (RdP.step Hd1.out hb13)
  clear Hd1
  have Hd1 := Hd113
  clear Hd113
  clear hb13
  go_wp2_with fail
  clear Ha1
  clear Hd1
  clear Hs
  have hc := all_any (T.size : Int) w13
  refine (hc).mono ?_
  rintro e w14 ⟨At, ct, rfl, hrt, hb14⟩
  have hbw14 := hbw13.trans (hb14.mono hbw13.size)
  have Hl14 := Lib.hid (RdR.step Hl.out hb14)
  clear Hl
  have Hl := Hl14
  clear Hl14
  have Hm14 := Lib.hid (RdP.step Hm.out hb14)
  clear Hm
  have Hm := Hm14
  clear Hm14
  have Hb114 := Lib.hid (RdP.step Hb1.out hb14)
  clear Hb1
  have Hb1 := Hb114
  clear Hb114
  clear hb14
  clear hc
  have Ht := Lib.hid hrt
  clear hrt
  go_wp2_with fail
  refine (same_true (allL T.size) (allL (T.size : Int)) Ab1 At _ _ cb1 ct _ _ _ Hb1.out Ht.out rfl).mono ?_
  rintro e w15 ⟨rfl, hb15⟩
  have hbw15 := hbw14.trans (hb15.mono hbw14.size)
  have Hl15 := Lib.hid (RdR.step Hl.out hb15)
  clear Hl
  have Hl := Hl15
  clear Hl15
  have Hm15 := Lib.hid (RdP.step Hm.out hb15)
  clear Hm
  have Hm := Hm15
  clear Hm15
  have Hb115 := Lib.hid (RdP.step Hb1.out hb15)
  clear Hb1
  have Hb1 := Hb115
  clear Hb115
  have Ht15 := Lib.hid (RdP.step Ht.out hb15)
  clear Ht
  have Ht := Ht15
  clear Ht15
  clear hb15
  go_wp2_with fail
  clear Hb1
  have hc := catch_good base l mine A A' n c n' c' n w15 Hl.out Hm.out H2.out (allL T.size) mine (allL (nO (units mine))) HD2.out Hml.out.2.2 Hml.out.2.1
  refine (hc).mono ?_
  rintro e w16 ⟨Ax, nx, cx, Ay, ny, cy, Az, nz, cz, rfl, hrx, hry, hrz, hb16⟩
  have hbw16 := hbw15.trans (hb16.mono hbw15.size)
  have Hl16 := Lib.hid (RdR.step Hl.out hb16)
  clear Hl
  have Hl := Hl16
  clear Hl16
  have Hm16 := Lib.hid (RdP.step Hm.out hb16)
  clear Hm
  have Hm := Hm16
  clear Hm16
  have Ht16 := Lib.hid (RdP.step Ht.out hb16)
  clear Ht
  have Ht := Ht16
  clear Ht16
  clear hb16
  clear hc
  have Hx := Lib.hid hrx
  clear hrx
  have Hy := Lib.hid hry
  clear hry
  have Hz := Lib.hid hrz
  clear hrz
  go_wp2_with fail
  have hc := psizes_good mine A' n' c' _ _ Hm.out (Nat.le_refl _) Hmc.out
  refine (hc).mono ?_
  rintro e w17 ⟨rfl, hb17⟩
  have hbw17 := hbw16.trans (hb17.mono hbw16.size)
  have Hl17 := Lib.hid (RdR.step Hl.out hb17)
  clear Hl
  have Hl := Hl17
  clear Hl17
  have Hm17 := Lib.hid (RdP.step Hm.out hb17)
  clear Hm
  have Hm := Hm17
  clear Hm17
  have Ht17 := Lib.hid (RdP.step Ht.out hb17)
  clear Ht
  have Ht := Ht17
  clear Ht17
  have Hx17 := Lib.hid (RdP.step Hx.out hb17)
  clear Hx
  have Hx := Hx17
  clear Hx17
  have Hy17 := Lib.hid (RdP.step Hy.out hb17)
  clear Hy
  have Hy := Hy17
  clear Hy17
  have Hz17 := Lib.hid (RdP.step Hz.out hb17)
  clear Hz
  have Hz := Hz17
  clear Hz17
  clear hb17
  clear hc
  go_wp2_with fail
  clear Ht
  have hc := all_any (T.size : Int) w17
  refine (hc).mono ?_
  rintro e w18 ⟨At, ct, rfl, hrt, hb18⟩
  have hbw18 := hbw17.trans (hb18.mono hbw17.size)
  have Hl18 := Lib.hid (RdR.step Hl.out hb18)
  clear Hl
  have Hl := Hl18
  clear Hl18
  have Hm18 := Lib.hid (RdP.step Hm.out hb18)
  clear Hm
  have Hm := Hm18
  clear Hm18
  have Hx18 := Lib.hid (RdP.step Hx.out hb18)
  clear Hx
  have Hx := Hx18
  clear Hx18
  have Hy18 := Lib.hid (RdP.step Hy.out hb18)
  clear Hy
  have Hy := Hy18
  clear Hy18
  have Hz18 := Lib.hid (RdP.step Hz.out hb18)
  clear Hz
  have Hz := Hz18
  clear Hz18
  clear hb18
  clear hc
  have Ht := Lib.hid hrt
  clear hrt
  go_wp2_with fail
  refine (same_true (allL T.size) (allL (T.size : Int)) Ax At _ _ cx ct _ _ _ Hx.out Ht.out rfl).mono ?_
  rintro e w19 ⟨rfl, hb19⟩
  have hbw19 := hbw18.trans (hb19.mono hbw18.size)
  have Hl19 := Lib.hid (RdR.step Hl.out hb19)
  clear Hl
  have Hl := Hl19
  clear Hl19
  have Hm19 := Lib.hid (RdP.step Hm.out hb19)
  clear Hm
  have Hm := Hm19
  clear Hm19
  have Hx19 := Lib.hid (RdP.step Hx.out hb19)
  clear Hx
  have Hx := Hx19
  clear Hx19
  have Hy19 := Lib.hid (RdP.step Hy.out hb19)
  clear Hy
  have Hy := Hy19
  clear Hy19
  have Hz19 := Lib.hid (RdP.step Hz.out hb19)
  clear Hz
  have Hz := Hz19
  clear Hz19
  have Ht19 := Lib.hid (RdP.step Ht.out hb19)
  clear Ht
  have Ht := Ht19
  clear Ht19
  clear hb19
  go_wp2_with fail
  clear Hx
  clear Ht
  refine (same_true mine mine Ay A' _ _ cy c' _ _ _ Hy.out Hm.out rfl).mono ?_
  rintro e w20 ⟨rfl, hb20⟩
  have hbw20 := hbw19.trans (hb20.mono hbw19.size)
  have Hl20 := Lib.hid (RdR.step Hl.out hb20)
  clear Hl
  have Hl := Hl20
  clear Hl20
  have Hm20 := Lib.hid (RdP.step Hm.out hb20)
  clear Hm
  have Hm := Hm20
  clear Hm20
  have Hy20 := Lib.hid (RdP.step Hy.out hb20)
  clear Hy
  have Hy := Hy20
  clear Hy20
  have Hz20 := Lib.hid (RdP.step Hz.out hb20)
  clear Hz
  have Hz := Hz20
  clear Hz20
  clear hb20
  go_wp2_with fail
  clear Hy
  have hc := all_any (nO (units mine) : Int) w20
  refine (hc).mono ?_
  rintro e w21 ⟨At, ct, rfl, hrt, hb21⟩
  have hbw21 := hbw20.trans (hb21.mono hbw20.size)
  have Hl21 := Lib.hid (RdR.step Hl.out hb21)
  clear Hl
  have Hl := Hl21
  clear Hl21
  have Hm21 := Lib.hid (RdP.step Hm.out hb21)
  clear Hm
  have Hm := Hm21
  clear Hm21
  have Hz21 := Lib.hid (RdP.step Hz.out hb21)
  clear Hz
  have Hz := Hz21
  clear Hz21
  clear hb21
  clear hc
  have Ht := Lib.hid hrt
  clear hrt
  go_wp2_with fail
  refine (same_true (allL (nO (units mine))) (allL (nO (units mine) : Int)) Az At _ _ cz ct _ _ _ Hz.out Ht.out rfl).mono ?_
  rintro e w22 ⟨rfl, hb22⟩
  have hbw22 := hbw21.trans (hb22.mono hbw21.size)
  have Hl22 := Lib.hid (RdR.step Hl.out hb22)
  clear Hl
  have Hl := Hl22
  clear Hl22
  have Hm22 := Lib.hid (RdP.step Hm.out hb22)
  clear Hm
  have Hm := Hm22
  clear Hm22
  have Hz22 := Lib.hid (RdP.step Hz.out hb22)
  clear Hz
  have Hz := Hz22
  clear Hz22
  have Ht22 := Lib.hid (RdP.step Ht.out hb22)
  clear Ht
  have Ht := Ht22
  clear Ht22
  clear hb22
  go_wp2_with fail
  go_ret
  exact ⟨rfl, hbw22⟩
theorem walk_CatchIdle (base : ByteArray) (hs : base.size ≤ 140737488351232) (v : Value) (l : List Rv) (r : Int) (wr : (Lit.int .i64 r).wf = true) (v' : Value) (mine : List Pt) (w : World) (hx : IsRevs w v l) (hx' : IsParts w v' mine) :
    Calls Try.prog 4 #[.string base, v, .int .i64 r, v'] w fun e w' => e = .returned (.bool true) ∧ Below w.heap.size w w' := by
  obtain ⟨A, n, c, rfl, h⟩ := hx
  obtain ⟨A', n', c', rfl, h'⟩ := hx'
  by_cases h1 : txE base l = 0
  · rcases ca_cases base l n mine with ⟨E, he⟩ | ⟨k, hk, hok⟩
    · exact catchIdle_err base l mine A A' n c n' c' r hs w h h' h1 E he
    · obtain rfl : n = k := by omega
      exact catchIdle_ok base l mine A A' n c n' c' r hs w h h' h1 hok
  · exact catchIdle_no base l mine A A' n c n' c' r hs w h h' h1
end Go.Proofs.Ytchnbmdfpgkefaa
