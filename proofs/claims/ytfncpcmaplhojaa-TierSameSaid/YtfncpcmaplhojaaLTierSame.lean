/- TierSame: the walk. By tiers it is what it is revision by revision. -/
import Derived.Test.YtfncpcmaplhojaaTierKit
import Derived.Test.YtfncpcmaplhojaaFirst
import Derived.Test.YtfncpcmaplhojaaOpenRevs
import Derived.Test.YtfncpcmaplhojaaWithin
import Derived.Test.YtfncpcmaplhojaaMinMax
namespace Go.Proofs.Ytfncpcmaplhojaa
open Go.ChangeShapes Go.WideShapes Go.RowKit
set_option linter.unusedVariables false
set_option linter.unusedSimpArgs false
set_option maxRecDepth 100000
set_option maxHeartbeats 4000000


theorem tierSame_err (base : ByteArray) (l : List Rv) (A : Option Addr) (n c : Nat) (i k : Int) (hs : base.size ≤ 140737488351232) (w : World) (h : RdR w w.heap.size A n c l) (h1 : txE base l ≠ 0) :
    Calls Try.prog 4 #[.string base, .slice A n c, .int .i64 i, .int .i64 k] w fun e w' => e = .returned (.bool true) ∧ Below w.heap.size w w' := by
  have hbw0 : Below w.heap.size w w := Below.refl _ _
  have Hl := Lib.hid h
  clear h
  have hne : (txE base l != 0) = true := by simpa using h1
  have H1 := Lib.hid h1
  clear h1
  go_enter Try.func4, Try.ntmps4
  go_wp2_with fail
  refine (first_any ⟨#[97]⟩ (by decide) w).mono ?_
  rintro e w1 ⟨Af, rfl, hrf, hb1⟩
  have hbw1 := hbw0.trans (hb1.mono hbw0.size)
  have Hl1 := Lib.hid (RdR.step Hl.out hb1)
  clear Hl
  have Hl := Hl1
  clear Hl1
  clear hb1
  have Hf := Lib.hid hrf
  clear hrf
  go_wp2_with fail
  have hrh : RdR (w1.alloc (.cells #[.int .i64 1, .int .i64 1, .slice Af 1 1] 29)) (w1.alloc (.cells #[.int .i64 1, .int .i64 1, .slice Af 1 1] 29)).heap.size (some ⟨w1.heap.size, 0, none⟩) 1 1 [(1, 1, [(2, 0, ⟨#[97]⟩)])] := by
    have q := RdR.built1 w1 1 1 Af 1 1 [(2, 0, ⟨#[97]⟩)] Hf.out
    simpa only [World.size_alloc] using q
  have hbw2 := hbw1.alloc hbw1.size (.cells #[.int .i64 1, .int .i64 1, .slice Af 1 1] 29)
  have Hl2 := Lib.hid (RdR.stepA Hl.out (.cells #[.int .i64 1, .int .i64 1, .slice Af 1 1] 29))
  clear Hl
  have Hl := Hl2
  clear Hl2
  have Hf2 := Lib.hid (RdP.stepA Hf.out (.cells #[.int .i64 1, .int .i64 1, .slice Af 1 1] 29))
  clear Hf
  have Hf := Hf2
  clear Hf2
  have Hh := Lib.hid hrh
  clear hrh
  clear Hf
  go_wp2_with fail
  have hc := build_rd ⟨#[]⟩ [(1, 1, [(2, 0, ⟨#[97]⟩)])] (some ⟨w1.heap.size, 0, none⟩) 1 1 (w1.alloc (.cells #[.int .i64 1, .int .i64 1, .slice Af 1 1] 29)) Hh.out (by decide) 1 (by decide)
  refine (hc).mono ?_
  rintro e w3 ⟨At0, ct0, rst0, ust0, rfl, hrt0, hit0, hb3⟩
  have hbw3 := hbw2.trans (hb3.mono hbw2.size)
  have Hl3 := Lib.hid (RdR.step Hl.out hb3)
  clear Hl
  have Hl := Hl3
  clear Hl3
  have Hh3 := Lib.hid (RdR.step Hh.out hb3)
  clear Hh
  have Hh := Hh3
  clear Hh3
  clear hb3
  clear hc hit0
  have Ht0 := Lib.hid hrt0
  clear hrt0
  go_wp2_with fail
  clear Hh
  have hc := tbetween_good ⟨#[]⟩ [(1, 1, [(2, 0, ⟨#[97]⟩)])] (by decide) At0 1 ct0 _ rst0 ust0 0 1 w3 Ht0.out (by decide) (by decide)
  refine (hc).mono ?_
  rintro e w4 ⟨Ab0, nb0, cb0, rfl, hrb0, hb4⟩
  have hbw4 := hbw3.trans (hb4.mono hbw3.size)
  have Hl4 := Lib.hid (RdR.step Hl.out hb4)
  clear Hl
  have Hl := Hl4
  clear Hl4
  have Ht04 := Lib.hid (OwnTier.step Ht0.out hb4)
  clear Ht0
  have Ht0 := Ht04
  clear Ht04
  clear hb4
  clear hc
  have Hb0 := Lib.hid hrb0
  clear hrb0
  go_wp2_with fail
  clear Ht0
  rw [show bk ⟨#[]⟩ [(1, 1, [(2, 0, ⟨#[97]⟩)])] 0 1 = [(2, 0, ⟨#[97]⟩)] from by decide] at Hb0
  have hc := put_any ⟨#[97]⟩ (by decide) w4
  refine (hc).mono ?_
  rintro e w5 ⟨Ap0, rfl, hrp0, hb5⟩
  have hbw5 := hbw4.trans (hb5.mono hbw4.size)
  have Hl5 := Lib.hid (RdR.step Hl.out hb5)
  clear Hl
  have Hl := Hl5
  clear Hl5
  have Hb05 := Lib.hid (RdP.step Hb0.out hb5)
  clear Hb0
  have Hb0 := Hb05
  clear Hb05
  clear hb5
  clear hc
  have Hp0 := Lib.hid hrp0
  clear hrp0
  go_wp2_with fail
  refine (same_true [(2, 0, ⟨#[97]⟩)] [(2, 0, ⟨#[97]⟩)] Ab0 Ap0 _ _ cb0 1 _ _ _ Hb0.out Hp0.out rfl).mono ?_
  rintro e w6 ⟨rfl, hb6⟩
  have hbw6 := hbw5.trans (hb6.mono hbw5.size)
  have Hl6 := Lib.hid (RdR.step Hl.out hb6)
  clear Hl
  have Hl := Hl6
  clear Hl6
  have Hb06 := Lib.hid (RdP.step Hb0.out hb6)
  clear Hb0
  have Hb0 := Hb06
  clear Hb06
  have Hp06 := Lib.hid (RdP.step Hp0.out hb6)
  clear Hp0
  have Hp0 := Hp06
  clear Hp06
  clear hb6
  go_wp2_with fail
  clear Hb0
  clear Hp0
  refine (build_err base l A n c _ _ Hl.out (Nat.le_refl _) (by omega) H1.out).mono ?_
  rintro e w7 ⟨rfl, hb7⟩
  have hbw7 := hbw6.trans (hb7.mono hbw6.size)
  have Hl7 := Lib.hid (RdR.step Hl.out hb7)
  clear Hl
  have Hl := Hl7
  clear Hl7
  clear hb7
  go_wp2_with fail
  go_ret
  exact ⟨rfl, hbw7⟩
theorem tierSame_eq (base : ByteArray) (l : List Rv) (A : Option Addr) (n c : Nat) (i k : Int) (hs : base.size ≤ 140737488351232) (w : World) (h : RdR w w.heap.size A n c l) (h1 : txE base l = 0) (P Q : Nat) (hP : min ((wi i (n + 1) : Nat) : Int) ((wi k (n + 1) : Nat) : Int) = (P : Int)) (hQ : max ((wi i (n + 1) : Nat) : Int) ((wi k (n + 1) : Nat) : Int) = (Q : Int)) (hPQ : P = Q) (hQn : Q ≤ n) :
    Calls Try.prog 4 #[.string base, .slice A n c, .int .i64 i, .int .i64 k] w fun e w' => e = .returned (.bool true) ∧ Below w.heap.size w w' := by
  have hbw0 : Below w.heap.size w w := Below.refl _ _
  have Hl := Lib.hid h
  clear h
  subst hPQ
  have hn : n = l.length := Hl.out.1
  have Hn := Lib.hid hn
  have hn64 : (n : Int) ≤ 64 := by have := (txE_parts h1).2.1; omega
  have H1 := Lib.hid h1
  have hcast : ((n + 1 : Nat) : Int) = (n : Int) + 1 := by omega
  have Hcast := Lib.hid hcast
  have HP := Lib.hid hP
  have HQ := Lib.hid hQ
  obtain ⟨m, hm⟩ : ∃ m, (tiersL l).length = m := ⟨_, rfl⟩
  have Hm := Lib.hid hm
  have hm64 : m ≤ 7 := by rw [← hm]; exact (tiersL_len (txE_parts h1).2.1).2
  clear h1 hn hcast hP hQ hm
  go_enter Try.func4, Try.ntmps4
  go_wp2_with fail
  refine (first_any ⟨#[97]⟩ (by decide) w).mono ?_
  rintro e w1 ⟨Af, rfl, hrf, hb1⟩
  have hbw1 := hbw0.trans (hb1.mono hbw0.size)
  have Hl1 := Lib.hid (RdR.step Hl.out hb1)
  clear Hl
  have Hl := Hl1
  clear Hl1
  clear hb1
  have Hf := Lib.hid hrf
  clear hrf
  go_wp2_with fail
  have hrh : RdR (w1.alloc (.cells #[.int .i64 1, .int .i64 1, .slice Af 1 1] 29)) (w1.alloc (.cells #[.int .i64 1, .int .i64 1, .slice Af 1 1] 29)).heap.size (some ⟨w1.heap.size, 0, none⟩) 1 1 [(1, 1, [(2, 0, ⟨#[97]⟩)])] := by
    have q := RdR.built1 w1 1 1 Af 1 1 [(2, 0, ⟨#[97]⟩)] Hf.out
    simpa only [World.size_alloc] using q
  have hbw2 := hbw1.alloc hbw1.size (.cells #[.int .i64 1, .int .i64 1, .slice Af 1 1] 29)
  have Hl2 := Lib.hid (RdR.stepA Hl.out (.cells #[.int .i64 1, .int .i64 1, .slice Af 1 1] 29))
  clear Hl
  have Hl := Hl2
  clear Hl2
  have Hf2 := Lib.hid (RdP.stepA Hf.out (.cells #[.int .i64 1, .int .i64 1, .slice Af 1 1] 29))
  clear Hf
  have Hf := Hf2
  clear Hf2
  have Hh := Lib.hid hrh
  clear hrh
  clear Hf
  go_wp2_with fail
  have hc := build_rd ⟨#[]⟩ [(1, 1, [(2, 0, ⟨#[97]⟩)])] (some ⟨w1.heap.size, 0, none⟩) 1 1 (w1.alloc (.cells #[.int .i64 1, .int .i64 1, .slice Af 1 1] 29)) Hh.out (by decide) 1 (by decide)
  refine (hc).mono ?_
  rintro e w3 ⟨At0, ct0, rst0, ust0, rfl, hrt0, hit0, hb3⟩
  have hbw3 := hbw2.trans (hb3.mono hbw2.size)
  have Hl3 := Lib.hid (RdR.step Hl.out hb3)
  clear Hl
  have Hl := Hl3
  clear Hl3
  have Hh3 := Lib.hid (RdR.step Hh.out hb3)
  clear Hh
  have Hh := Hh3
  clear Hh3
  clear hb3
  clear hc hit0
  have Ht0 := Lib.hid hrt0
  clear hrt0
  go_wp2_with fail
  clear Hh
  have hc := tbetween_good ⟨#[]⟩ [(1, 1, [(2, 0, ⟨#[97]⟩)])] (by decide) At0 1 ct0 _ rst0 ust0 0 1 w3 Ht0.out (by decide) (by decide)
  refine (hc).mono ?_
  rintro e w4 ⟨Ab0, nb0, cb0, rfl, hrb0, hb4⟩
  have hbw4 := hbw3.trans (hb4.mono hbw3.size)
  have Hl4 := Lib.hid (RdR.step Hl.out hb4)
  clear Hl
  have Hl := Hl4
  clear Hl4
  have Ht04 := Lib.hid (OwnTier.step Ht0.out hb4)
  clear Ht0
  have Ht0 := Ht04
  clear Ht04
  clear hb4
  clear hc
  have Hb0 := Lib.hid hrb0
  clear hrb0
  go_wp2_with fail
  clear Ht0
  rw [show bk ⟨#[]⟩ [(1, 1, [(2, 0, ⟨#[97]⟩)])] 0 1 = [(2, 0, ⟨#[97]⟩)] from by decide] at Hb0
  have hc := put_any ⟨#[97]⟩ (by decide) w4
  refine (hc).mono ?_
  rintro e w5 ⟨Ap0, rfl, hrp0, hb5⟩
  have hbw5 := hbw4.trans (hb5.mono hbw4.size)
  have Hl5 := Lib.hid (RdR.step Hl.out hb5)
  clear Hl
  have Hl := Hl5
  clear Hl5
  have Hb05 := Lib.hid (RdP.step Hb0.out hb5)
  clear Hb0
  have Hb0 := Hb05
  clear Hb05
  clear hb5
  clear hc
  have Hp0 := Lib.hid hrp0
  clear hrp0
  go_wp2_with fail
  refine (same_true [(2, 0, ⟨#[97]⟩)] [(2, 0, ⟨#[97]⟩)] Ab0 Ap0 _ _ cb0 1 _ _ _ Hb0.out Hp0.out rfl).mono ?_
  rintro e w6 ⟨rfl, hb6⟩
  have hbw6 := hbw5.trans (hb6.mono hbw5.size)
  have Hl6 := Lib.hid (RdR.step Hl.out hb6)
  clear Hl
  have Hl := Hl6
  clear Hl6
  have Hb06 := Lib.hid (RdP.step Hb0.out hb6)
  clear Hb0
  have Hb0 := Hb06
  clear Hb06
  have Hp06 := Lib.hid (RdP.step Hp0.out hb6)
  clear Hp0
  have Hp0 := Hp06
  clear Hp06
  clear hb6
  go_wp2_with fail
  clear Hb0
  clear Hp0
  have hc := build_rd base l A n c w6 Hl.out H1.out m Hm.out
  refine (hc).mono ?_
  rintro e w7 ⟨At, ct, rst, ust, rfl, hrt, hit, hb7⟩
  have hbw7 := hbw6.trans (hb7.mono hbw6.size)
  have Hl7 := Lib.hid (RdR.step Hl.out hb7)
  clear Hl
  have Hl := Hl7
  clear Hl7
  clear hb7
  clear hc hit
  have Ht := Lib.hid hrt
  clear hrt
  go_wp2_with fail
  have hc := within_any i (n + 1) w7 (by omega) (by omega)
  rw [Hcast.out] at hc
  refine (hc).mono ?_
  rintro e w8 ⟨rfl, rfl⟩
  clear hc
  go_wp2_with fail
  have hc := within_any k (n + 1) w7 (by omega) (by omega)
  rw [Hcast.out] at hc
  refine (hc).mono ?_
  rintro e w9 ⟨rfl, rfl⟩
  clear hc
  generalize wi i (n + 1) = I at *
  generalize wi k (n + 1) = K at *
  go_wp2_with (first | (refine wpList_min2 rfl (.tmp 60) (.tmp 61) _ rfl _ _ _ rfl rfl HP.out ?_) | (refine wpList_max2 rfl (.tmp 63) (.tmp 64) _ rfl _ _ _ rfl rfl HQ.out ?_))
  obtain ⟨R, hR⟩ : ∃ R, btw (allL (txt base l P).size) ((l.drop P).take (P - P)) = R := ⟨_, rfl⟩
  have HR := Lib.hid hR
  clear hR
  have hc := between_good base l A n c _ P P w7 Hl.out (Nat.le_refl _) H1.out (by omega) (by omega) R HR.out
  refine (hc).mono ?_
  rintro e w10 ⟨Aa, na, ca, rfl, hra, hb10⟩
  have hbw10 := hbw7.trans (hb10.mono hbw7.size)
  have Hl10 := Lib.hid (RdR.step Hl.out hb10)
  clear Hl
  have Hl := Hl10
  clear Hl10
  have Ht10 := Lib.hid (OwnTier.step Ht.out hb10)
  clear Ht
  have Ht := Ht10
  clear Ht10
  clear hb10
  clear hc
  have Ha := Lib.hid hra
  clear hra
  go_wp2_with fail
  refine (tbetween_same At m ct P w10 (by omega)).mono ?_
  rintro e w11 ⟨rfl, hb11⟩
  have hbw11 := hbw10.trans (hb11.mono hbw10.size)
  have Hl11 := Lib.hid (RdR.step Hl.out hb11)
  clear Hl
  have Hl := Hl11
  clear Hl11
  have Ht11 := Lib.hid (OwnTier.step Ht.out hb11)
  clear Ht
  have Ht := Ht11
  clear Ht11
  have Ha11 := Lib.hid (RdP.step Ha.out hb11)
  clear Ha
  have Ha := Ha11
  clear Ha11
  clear hb11
  go_wp2_with fail
  go_ret
  exact ⟨rfl, hbw11⟩
theorem tierSame_lt (base : ByteArray) (l : List Rv) (A : Option Addr) (n c : Nat) (i k : Int) (hs : base.size ≤ 140737488351232) (w : World) (h : RdR w w.heap.size A n c l) (h1 : txE base l = 0) (P Q : Nat) (hP : min ((wi i (n + 1) : Nat) : Int) ((wi k (n + 1) : Nat) : Int) = (P : Int)) (hQ : max ((wi i (n + 1) : Nat) : Int) ((wi k (n + 1) : Nat) : Int) = (Q : Int)) (hPQ : P < Q) (hQn : Q ≤ n) :
    Calls Try.prog 4 #[.string base, .slice A n c, .int .i64 i, .int .i64 k] w fun e w' => e = .returned (.bool true) ∧ Below w.heap.size w w' := by
  have hbw0 : Below w.heap.size w w := Below.refl _ _
  have Hl := Lib.hid h
  clear h
  have hn : n = l.length := Hl.out.1
  have Hn := Lib.hid hn
  have hn64 : (n : Int) ≤ 64 := by have := (txE_parts h1).2.1; omega
  have H1 := Lib.hid h1
  have hcast : ((n + 1 : Nat) : Int) = (n : Int) + 1 := by omega
  have Hcast := Lib.hid hcast
  have HP := Lib.hid hP
  have HQ := Lib.hid hQ
  obtain ⟨m, hm⟩ : ∃ m, (tiersL l).length = m := ⟨_, rfl⟩
  have Hm := Lib.hid hm
  have hm64 : m ≤ 7 := by rw [← hm]; exact (tiersL_len (txE_parts h1).2.1).2
  clear h1 hn hcast hP hQ hm
  have hne : ((P : Int) == (Q : Int)) = false := by simp; omega
  go_enter Try.func4, Try.ntmps4
  go_wp2_with fail
  refine (first_any ⟨#[97]⟩ (by decide) w).mono ?_
  rintro e w1 ⟨Af, rfl, hrf, hb1⟩
  have hbw1 := hbw0.trans (hb1.mono hbw0.size)
  have Hl1 := Lib.hid (RdR.step Hl.out hb1)
  clear Hl
  have Hl := Hl1
  clear Hl1
  clear hb1
  have Hf := Lib.hid hrf
  clear hrf
  go_wp2_with fail
  have hrh : RdR (w1.alloc (.cells #[.int .i64 1, .int .i64 1, .slice Af 1 1] 29)) (w1.alloc (.cells #[.int .i64 1, .int .i64 1, .slice Af 1 1] 29)).heap.size (some ⟨w1.heap.size, 0, none⟩) 1 1 [(1, 1, [(2, 0, ⟨#[97]⟩)])] := by
    have q := RdR.built1 w1 1 1 Af 1 1 [(2, 0, ⟨#[97]⟩)] Hf.out
    simpa only [World.size_alloc] using q
  have hbw2 := hbw1.alloc hbw1.size (.cells #[.int .i64 1, .int .i64 1, .slice Af 1 1] 29)
  have Hl2 := Lib.hid (RdR.stepA Hl.out (.cells #[.int .i64 1, .int .i64 1, .slice Af 1 1] 29))
  clear Hl
  have Hl := Hl2
  clear Hl2
  have Hf2 := Lib.hid (RdP.stepA Hf.out (.cells #[.int .i64 1, .int .i64 1, .slice Af 1 1] 29))
  clear Hf
  have Hf := Hf2
  clear Hf2
  have Hh := Lib.hid hrh
  clear hrh
  clear Hf
  go_wp2_with fail
  have hc := build_rd ⟨#[]⟩ [(1, 1, [(2, 0, ⟨#[97]⟩)])] (some ⟨w1.heap.size, 0, none⟩) 1 1 (w1.alloc (.cells #[.int .i64 1, .int .i64 1, .slice Af 1 1] 29)) Hh.out (by decide) 1 (by decide)
  refine (hc).mono ?_
  rintro e w3 ⟨At0, ct0, rst0, ust0, rfl, hrt0, hit0, hb3⟩
  have hbw3 := hbw2.trans (hb3.mono hbw2.size)
  have Hl3 := Lib.hid (RdR.step Hl.out hb3)
  clear Hl
  have Hl := Hl3
  clear Hl3
  have Hh3 := Lib.hid (RdR.step Hh.out hb3)
  clear Hh
  have Hh := Hh3
  clear Hh3
  clear hb3
  clear hc hit0
  have Ht0 := Lib.hid hrt0
  clear hrt0
  go_wp2_with fail
  clear Hh
  have hc := tbetween_good ⟨#[]⟩ [(1, 1, [(2, 0, ⟨#[97]⟩)])] (by decide) At0 1 ct0 _ rst0 ust0 0 1 w3 Ht0.out (by decide) (by decide)
  refine (hc).mono ?_
  rintro e w4 ⟨Ab0, nb0, cb0, rfl, hrb0, hb4⟩
  have hbw4 := hbw3.trans (hb4.mono hbw3.size)
  have Hl4 := Lib.hid (RdR.step Hl.out hb4)
  clear Hl
  have Hl := Hl4
  clear Hl4
  have Ht04 := Lib.hid (OwnTier.step Ht0.out hb4)
  clear Ht0
  have Ht0 := Ht04
  clear Ht04
  clear hb4
  clear hc
  have Hb0 := Lib.hid hrb0
  clear hrb0
  go_wp2_with fail
  clear Ht0
  rw [show bk ⟨#[]⟩ [(1, 1, [(2, 0, ⟨#[97]⟩)])] 0 1 = [(2, 0, ⟨#[97]⟩)] from by decide] at Hb0
  have hc := put_any ⟨#[97]⟩ (by decide) w4
  refine (hc).mono ?_
  rintro e w5 ⟨Ap0, rfl, hrp0, hb5⟩
  have hbw5 := hbw4.trans (hb5.mono hbw4.size)
  have Hl5 := Lib.hid (RdR.step Hl.out hb5)
  clear Hl
  have Hl := Hl5
  clear Hl5
  have Hb05 := Lib.hid (RdP.step Hb0.out hb5)
  clear Hb0
  have Hb0 := Hb05
  clear Hb05
  clear hb5
  clear hc
  have Hp0 := Lib.hid hrp0
  clear hrp0
  go_wp2_with fail
  refine (same_true [(2, 0, ⟨#[97]⟩)] [(2, 0, ⟨#[97]⟩)] Ab0 Ap0 _ _ cb0 1 _ _ _ Hb0.out Hp0.out rfl).mono ?_
  rintro e w6 ⟨rfl, hb6⟩
  have hbw6 := hbw5.trans (hb6.mono hbw5.size)
  have Hl6 := Lib.hid (RdR.step Hl.out hb6)
  clear Hl
  have Hl := Hl6
  clear Hl6
  have Hb06 := Lib.hid (RdP.step Hb0.out hb6)
  clear Hb0
  have Hb0 := Hb06
  clear Hb06
  have Hp06 := Lib.hid (RdP.step Hp0.out hb6)
  clear Hp0
  have Hp0 := Hp06
  clear Hp06
  clear hb6
  go_wp2_with fail
  clear Hb0
  clear Hp0
  have hc := build_rd base l A n c w6 Hl.out H1.out m Hm.out
  refine (hc).mono ?_
  rintro e w7 ⟨At, ct, rst, ust, rfl, hrt, hit, hb7⟩
  have hbw7 := hbw6.trans (hb7.mono hbw6.size)
  have Hl7 := Lib.hid (RdR.step Hl.out hb7)
  clear Hl
  have Hl := Hl7
  clear Hl7
  clear hb7
  clear hc hit
  have Ht := Lib.hid hrt
  clear hrt
  go_wp2_with fail
  have hc := within_any i (n + 1) w7 (by omega) (by omega)
  rw [Hcast.out] at hc
  refine (hc).mono ?_
  rintro e w8 ⟨rfl, rfl⟩
  clear hc
  go_wp2_with fail
  have hc := within_any k (n + 1) w7 (by omega) (by omega)
  rw [Hcast.out] at hc
  refine (hc).mono ?_
  rintro e w9 ⟨rfl, rfl⟩
  clear hc
  generalize wi i (n + 1) = I at *
  generalize wi k (n + 1) = K at *
  go_wp2_with (first | (refine wpList_min2 rfl (.tmp 60) (.tmp 61) _ rfl _ _ _ rfl rfl HP.out ?_) | (refine wpList_max2 rfl (.tmp 63) (.tmp 64) _ rfl _ _ _ rfl rfl HQ.out ?_))
  obtain ⟨R, hR⟩ : ∃ R, btw (allL (txt base l P).size) ((l.drop P).take (Q - P)) = R := ⟨_, rfl⟩
  have HR := Lib.hid hR
  clear hR
  have hc := between_good base l A n c _ P Q w7 Hl.out (Nat.le_refl _) H1.out (by omega) (by omega) R HR.out
  refine (hc).mono ?_
  rintro e w10 ⟨Aa, na, ca, rfl, hra, hb10⟩
  have hbw10 := hbw7.trans (hb10.mono hbw7.size)
  have Hl10 := Lib.hid (RdR.step Hl.out hb10)
  clear Hl
  have Hl := Hl10
  clear Hl10
  have Ht10 := Lib.hid (OwnTier.step Ht.out hb10)
  clear Ht
  have Ht := Ht10
  clear Ht10
  clear hb10
  clear hc
  have Ha := Lib.hid hra
  clear hra
  go_wp2_with fail
  have hc := tbetween_good base l H1.out At m ct _ rst ust P Q w10 Ht.out hPQ (by have := Hn.out; omega)
  refine (hc).mono ?_
  rintro e w11 ⟨Ab, nb, cb, rfl, hrb, hb11⟩
  have hbw11 := hbw10.trans (hb11.mono hbw10.size)
  have Hl11 := Lib.hid (RdR.step Hl.out hb11)
  clear Hl
  have Hl := Hl11
  clear Hl11
  have Ht11 := Lib.hid (OwnTier.step Ht.out hb11)
  clear Ht
  have Ht := Ht11
  clear Ht11
  have Ha11 := Lib.hid (RdP.step Ha.out hb11)
  clear Ha
  have Ha := Ha11
  clear Ha11
  clear hb11
  clear hc
  have Hb := Lib.hid hrb
  clear hrb
  go_wp2_with fail
  have hRR : bk base l P Q = R := HR.out
  rw [hRR] at Hb
  clear hRR
  refine (same_true R R Aa Ab _ _ ca cb _ _ _ Ha.out Hb.out rfl).mono ?_
  rintro e w12 ⟨rfl, hb12⟩
  have hbw12 := hbw11.trans (hb12.mono hbw11.size)
  have Hl12 := Lib.hid (RdR.step Hl.out hb12)
  clear Hl
  have Hl := Hl12
  clear Hl12
  have Ht12 := Lib.hid (OwnTier.step Ht.out hb12)
  clear Ht
  have Ht := Ht12
  clear Ht12
  have Ha12 := Lib.hid (RdP.step Ha.out hb12)
  clear Ha
  have Ha := Ha12
  clear Ha12
  have Hb12 := Lib.hid (RdP.step Hb.out hb12)
  clear Hb
  have Hb := Hb12
  clear Hb12
  clear hb12
  go_wp2_with fail
  go_ret
  exact ⟨rfl, hbw12⟩
theorem walk_TierSame (base : ByteArray) (hs : base.size ≤ 140737488351232) (v : Value) (l : List Rv) (i : Int) (wi_ : (Lit.int .i64 i).wf = true) (k : Int) (wk : (Lit.int .i64 k).wf = true) (w : World) (hx : IsRevs w v l) :
    Calls Try.prog 4 #[.string base, v, .int .i64 i, .int .i64 k] w fun e w' => e = .returned (.bool true) ∧ Below w.heap.size w w' := by
  obtain ⟨A, n, c, rfl, h⟩ := hx
  by_cases h1 : txE base l = 0
  · have h2 := wi_lt i (n + 1) (by omega)
    have h3 := wi_lt k (n + 1) (by omega)
    have hP : min ((wi i (n + 1) : Nat) : Int) ((wi k (n + 1) : Nat) : Int) = ((min (wi i (n + 1)) (wi k (n + 1)) : Nat) : Int) := by omega
    have hQ : max ((wi i (n + 1) : Nat) : Int) ((wi k (n + 1) : Nat) : Int) = ((max (wi i (n + 1)) (wi k (n + 1)) : Nat) : Int) := by omega
    by_cases he : min (wi i (n + 1)) (wi k (n + 1)) = max (wi i (n + 1)) (wi k (n + 1))
    · exact tierSame_eq base l A n c i k hs w h h1 _ _ hP hQ he (by omega)
    · exact tierSame_lt base l A n c i k hs w h h1 _ _ hP hQ (by omega) (by omega)
  · exact tierSame_err base l A n c i k hs w h h1
end Go.Proofs.Ytfncpcmaplhojaa
