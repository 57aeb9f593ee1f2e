/- CatchEach: the walk. What is left behind all revisions at once is what is left behind each, one after the other. -/
import Derived.Test.YtchnbmdfpgkefaaCatch
import Derived.Test.YtchnbmdfpgkefaaCatchLaw
import Derived.Test.YtchnbmdfpgkefaaEachLaw
import Derived.Test.YtchnbmdfpgkefaaPlain
import Derived.Test.YtchnbmdfpgkefaaFirst
import Derived.Test.YtchnbmdfpgkefaaOpenRevs
import Derived.Test.YtchnbmdfpgkefaaOpenParts
namespace Go.Proofs.Ytchnbmdfpgkefaa
open Go.ChangeShapes Go.WideShapes Go.RowKit
set_option linter.unusedVariables false
set_option linter.unusedSimpArgs false
set_option maxRecDepth 100000
set_option maxHeartbeats 4000000


theorem catchEach_err (base : ByteArray) (l : List Rv) (mine : List Pt) (A A' : Option Addr) (n c n' c' : Nat) (r : Int) (hs : base.size ≤ 140737488351232) (w : World) (h : RdR w w.heap.size A n c l) (h' : RdP w w.heap.size A' n' c' mine) (E : Int) (h1 : CaErr base l r mine E) :
    Calls Try.prog 5 #[.string base, .slice A n c, .int .i64 r, .slice A' n' c'] w fun e w' => e = .returned (.bool true) ∧ Below w.heap.size w w' := by
  have hbw0 : Below w.heap.size w w := Below.refl _ _
  have Hl := Lib.hid h
  clear h
  have Hm := Lib.hid h'
  clear h'
  have hne : (E != 0) = true := by simpa using h1.1
  have hne2 : (E == 0) = false := by simpa using h1.1
  have H1 := Lib.hid h1
  clear h1
  go_enter Try.func5, Try.ntmps5
  go_wp2_with fail
  refine (first_any ⟨#[97]⟩ (by decide) w).mono ?_
  rintro e w1 ⟨Af, rfl, hrf, hb1⟩
  have hbw1 := hbw0.trans (hb1.mono hbw0.size)
  have Hl1 := Lib.hid (RdR.step Hl.out hb1)
  clear Hl
  have Hl := Hl1
  clear Hl1
  have Hm1 := Lib.hid (RdP.step Hm.out hb1)
  clear Hm
  have Hm := Hm1
  clear Hm1
  clear hb1
  have Hf := Lib.hid hrf
  clear hrf
  go_wp2_with fail
  have hrh : RdR (w1.alloc (.cells #[.int .i64 1, .int .i64 1, .slice Af 1 1] 28)) (w1.alloc (.cells #[.int .i64 1, .int .i64 1, .slice Af 1 1] 28)).heap.size (some ⟨w1.heap.size, 0, none⟩) 1 1 [(1, 1, [(2, 0, ⟨#[97]⟩)])] := by
    have q := RdR.built1 w1 1 1 Af 1 1 [(2, 0, ⟨#[97]⟩)] Hf.out
    simpa only [World.size_alloc] using q
  have hbw2 := hbw1.alloc hbw1.size (.cells #[.int .i64 1, .int .i64 1, .slice Af 1 1] 28)
  have Hl2 := Lib.hid (RdR.stepA Hl.out (.cells #[.int .i64 1, .int .i64 1, .slice Af 1 1] 28))
  clear Hl
  have Hl := Hl2
  clear Hl2
  have Hm2 := Lib.hid (RdP.stepA Hm.out (.cells #[.int .i64 1, .int .i64 1, .slice Af 1 1] 28))
  clear Hm
  have Hm := Hm2
  clear Hm2
  have Hf2 := Lib.hid (RdP.stepA Hf.out (.cells #[.int .i64 1, .int .i64 1, .slice Af 1 1] 28))
  clear Hf
  have Hf := Hf2
  clear Hf2
  have Hh := Lib.hid hrh
  clear hrh
  clear Hf
  go_wp2_with fail
  have hc := put_any ⟨#[98]⟩ (by decide) (w1.alloc (.cells #[.int .i64 1, .int .i64 1, .slice Af 1 1] 28))
  refine (hc).mono ?_
  rintro e w3 ⟨Ap, rfl, hrp, hb3⟩
  have hbw3 := hbw2.trans (hb3.mono hbw2.size)
  have Hl3 := Lib.hid (RdR.step Hl.out hb3)
  clear Hl
  have Hl := Hl3
  clear Hl3
  have Hm3 := Lib.hid (RdP.step Hm.out hb3)
  clear Hm
  have Hm := Hm3
  clear Hm3
  have Hh3 := Lib.hid (RdR.step Hh.out hb3)
  clear Hh
  have Hh := Hh3
  clear Hh3
  clear hb3
  clear hc
  have Hp := Lib.hid hrp
  clear hrp
  go_wp2_with fail
  have hc := catch_good ⟨#[]⟩ [(1, 1, [(2, 0, ⟨#[97]⟩)])] [(2, 0, ⟨#[98]⟩)] (some ⟨w1.heap.size, 0, none⟩) Ap 1 1 1 1 0 w3 Hh.out Hp.out ⟨by decide, by decide, by decide, by decide⟩ [(2, 0, ⟨#[97]⟩)] [(1, 1, emp), (2, 0, ⟨#[98]⟩)] [(2, 0, ⟨#[97]⟩), (1, 1, emp)] (by decide) (by decide) (by decide)
  refine (hc).mono ?_
  rintro e w4 ⟨Ax, nx, cx, Ay, ny, cy, Az, nz, cz, rfl, hrx, hry, hrz, hb4⟩
  have hbw4 := hbw3.trans (hb4.mono hbw3.size)
  have Hl4 := Lib.hid (RdR.step Hl.out hb4)
  clear Hl
  have Hl := Hl4
  clear Hl4
  have Hm4 := Lib.hid (RdP.step Hm.out hb4)
  clear Hm
  have Hm := Hm4
  clear Hm4
  have Hh4 := Lib.hid (RdR.step Hh.out hb4)
  clear Hh
  have Hh := Hh4
  clear Hh4
  have Hp4 := Lib.hid (RdP.step Hp.out hb4)
  clear Hp
  have Hp := Hp4
  clear Hp4
  clear hb4
  clear hc
  have Hx := Lib.hid hrx
  clear hrx
  have Hy := Lib.hid hry
  clear hry
  have Hz := Lib.hid hrz
  clear hrz
  go_wp2_with fail
  clear Hh
  clear Hp
  clear Hx
  clear Hz
  have hrq := RdP.builtS w4 #[.int .i64 1, .int .i64 1, .string ⟨#[]⟩, .int .i64 2, .int .i64 0, .string ⟨#[98]⟩] [(1, 1, emp), (2, 0, ⟨#[98]⟩)] 2 rfl rfl (by decide) (by decide)
  have hbw5 := hbw4.alloc hbw4.size (.cells #[.int .i64 1, .int .i64 1, .string ⟨#[]⟩, .int .i64 2, .int .i64 0, .string ⟨#[98]⟩] 42)
  have Hl5 := Lib.hid (RdR.stepA Hl.out (.cells #[.int .i64 1, .int .i64 1, .string ⟨#[]⟩, .int .i64 2, .int .i64 0, .string ⟨#[98]⟩] 42))
  clear Hl
  have Hl := Hl5
  clear Hl5
  have Hm5 := Lib.hid (RdP.stepA Hm.out (.cells #[.int .i64 1, .int .i64 1, .string ⟨#[]⟩, .int .i64 2, .int .i64 0, .string ⟨#[98]⟩] 42))
  clear Hm
  have Hm := Hm5
  clear Hm5
  have Hy5 := Lib.hid (RdP.stepA Hy.out (.cells #[.int .i64 1, .int .i64 1, .string ⟨#[]⟩, .int .i64 2, .int .i64 0, .string ⟨#[98]⟩] 42))
  clear Hy
  have Hy := Hy5
  clear Hy5
  have Hq := Lib.hid hrq
  clear hrq
  refine (same_true [(1, 1, emp), (2, 0, ⟨#[98]⟩)] [(1, 1, emp), (2, 0, ⟨#[98]⟩)] Ay (some ⟨w4.heap.size, 0, none⟩) _ _ cy 2 _ _ _ Hy.out Hq.out rfl).mono ?_
  rintro e w6 ⟨rfl, hb6⟩
  have hbw6 := hbw5.trans (hb6.mono hbw5.size)
  have Hl6 := Lib.hid (RdR.step Hl.out hb6)
  clear Hl
  have Hl := Hl6
  clear Hl6
  have Hm6 := Lib.hid (RdP.step Hm.out hb6)
  clear Hm
  have Hm := Hm6
  clear Hm6
  have Hy6 := Lib.hid (RdP.step Hy.out hb6)
  clear Hy
  have Hy := Hy6
  clear Hy6
  have Hq6 := Lib.hid (RdP.step Hq.out hb6)
  clear Hq
  have Hq := Hq6
  clear Hq6
  clear hb6
  go_wp2_with fail
  clear Hy
  clear Hq
  refine (catch_err base l mine A A' n c n' c' r E _ Hl.out Hm.out (by omega) H1.out).mono ?_
  rintro e w7 ⟨rfl, hb7⟩
  have hbw7 := hbw6.trans (hb7.mono hbw6.size)
  have Hl7 := Lib.hid (RdR.step Hl.out hb7)
  clear Hl
  have Hl := Hl7
  clear Hl7
  have Hm7 := Lib.hid (RdP.step Hm.out hb7)
  clear Hm
  have Hm := Hm7
  clear Hm7
  clear hb7
  go_wp2_with fail
  go_ret
  exact ⟨rfl, hbw7⟩
theorem catchEach_cute (base : ByteArray) (l : List Rv) (mine : List Pt) (A A' : Option Addr) (n c n' c' : Nat) (r : Nat) (hs : base.size ≤ 140737488351232) (w : World) (h : RdR w w.heap.size A n c l) (h' : RdP w w.heap.size A' n' c' mine) (h1 : CaOk base l r mine) (hcr : c = r) (h2 : anyCut (l.drop r).tail = true) :
    Calls Try.prog 5 #[.string base, .slice A n c, .int .i64 r, .slice A' n' c'] w fun e w' => e = .returned (.bool true) ∧ Below w.heap.size w w' := by
  have hbw0 : Below w.heap.size w w := Below.refl _ _
  have Hl := Lib.hid h
  clear h
  have Hm := Lib.hid h'
  clear h'
  have hn : n = l.length := Hl.out.1
  have Hn := Lib.hid hn
  have hcaps := Hl.out.caps
  have hrn : (r : Int) ≤ (n : Int) := by have := h1.1; omega
  have hr0 : (0 : Int) ≤ (r : Int) := by omega
  have hn64 : (n : Int) ≤ 64 := by have := (txE_parts h1.2.1).2.1; omega
  have hnc : (n : Int) ≤ (c : Int) := by omega
  have hrc : (r : Int) ≤ (c : Int) := by omega
  obtain ⟨Dd, hD⟩ : ∃ Dd, btwL base l r l.length = Dd := ⟨_, rfl⟩
  have HD := Lib.hid hD
  have H1 := Lib.hid h1
  clear h1 hn hD
  have H2 := Lib.hid h2
  clear h2
  have hrest := Hl.out.rest r (by omega)
  subst hcr
  rw [if_pos rfl] at hrest
  obtain hnr : n = c := by omega
  subst hnr
  rw [Nat.sub_self] at hrest
  clear hrest
  go_enter Try.func5, Try.ntmps5
  go_wp2_with fail
  refine (first_any ⟨#[97]⟩ (by decide) w).mono ?_
  rintro e w1 ⟨Af, rfl, hrf, hb1⟩
  have hbw1 := hbw0.trans (hb1.mono hbw0.size)
  have Hl1 := Lib.hid (RdR.step Hl.out hb1)
  clear Hl
  have Hl := Hl1
  clear Hl1
  have Hm1 := Lib.hid (RdP.step Hm.out hb1)
  clear Hm
  have Hm := Hm1
  clear Hm1
  clear hb1
  have Hf := Lib.hid hrf
  clear hrf
  go_wp2_with fail
  have hrh : RdR (w1.alloc (.cells #[.int .i64 1, .int .i64 1, .slice Af 1 1] 28)) (w1.alloc (.cells #[.int .i64 1, .int .i64 1, .slice Af 1 1] 28)).heap.size (some ⟨w1.heap.size, 0, none⟩) 1 1 [(1, 1, [(2, 0, ⟨#[97]⟩)])] := by
    have q := RdR.built1 w1 1 1 Af 1 1 [(2, 0, ⟨#[97]⟩)] Hf.out
    simpa only [World.size_alloc] using q
  have hbw2 := hbw1.alloc hbw1.size (.cells #[.int .i64 1, .int .i64 1, .slice Af 1 1] 28)
  have Hl2 := Lib.hid (RdR.stepA Hl.out (.cells #[.int .i64 1, .int .i64 1, .slice Af 1 1] 28))
  clear Hl
  have Hl := Hl2
  clear Hl2
  have Hm2 := Lib.hid (RdP.stepA Hm.out (.cells #[.int .i64 1, .int .i64 1, .slice Af 1 1] 28))
  clear Hm
  have Hm := Hm2
  clear Hm2
  have Hf2 := Lib.hid (RdP.stepA Hf.out (.cells #[.int .i64 1, .int .i64 1, .slice Af 1 1] 28))
  clear Hf
  have Hf := Hf2
  clear Hf2
  have Hh := Lib.hid hrh
  clear hrh
  clear Hf
  go_wp2_with fail
  have hc := put_any ⟨#[98]⟩ (by decide) (w1.alloc (.cells #[.int .i64 1, .int .i64 1, .slice Af 1 1] 28))
  refine (hc).mono ?_
  rintro e w3 ⟨Ap, rfl, hrp, hb3⟩
  have hbw3 := hbw2.trans (hb3.mono hbw2.size)
  have Hl3 := Lib.hid (RdR.step Hl.out hb3)
  clear Hl
  have Hl := Hl3
  clear Hl3
  have Hm3 := Lib.hid (RdP.step Hm.out hb3)
  clear Hm
  have Hm := Hm3
  clear Hm3
  have Hh3 := Lib.hid (RdR.step Hh.out hb3)
  clear Hh
  have Hh := Hh3
  clear Hh3
  clear hb3
  clear hc
  have Hp := Lib.hid hrp
  clear hrp
  go_wp2_with fail
  have hc := catch_good ⟨#[]⟩ [(1, 1, [(2, 0, ⟨#[97]⟩)])] [(2, 0, ⟨#[98]⟩)] (some ⟨w1.heap.size, 0, none⟩) Ap 1 1 1 1 0 w3 Hh.out Hp.out ⟨by decide, by decide, by decide, by decide⟩ [(2, 0, ⟨#[97]⟩)] [(1, 1, emp), (2, 0, ⟨#[98]⟩)] [(2, 0, ⟨#[97]⟩), (1, 1, emp)] (by decide) (by decide) (by decide)
  refine (hc).mono ?_
  rintro e w4 ⟨Ax, nx, cx, Ay, ny, cy, Az, nz, cz, rfl, hrx, hry, hrz, hb4⟩
  have hbw4 := hbw3.trans (hb4.mono hbw3.size)
  have Hl4 := Lib.hid (RdR.step Hl.out hb4)
  clear Hl
  have Hl := Hl4
  clear Hl4
  have Hm4 := Lib.hid (RdP.step Hm.out hb4)
  clear Hm
  have Hm := Hm4
  clear Hm4
  have Hh4 := Lib.hid (RdR.step Hh.out hb4)
  clear Hh
  have Hh := Hh4
  clear Hh4
  have Hp4 := Lib.hid (RdP.step Hp.out hb4)
  clear Hp
  have Hp := Hp4
  clear Hp4
  clear hb4
  clear hc
  have Hx := Lib.hid hrx
  clear hrx
  have Hy := Lib.hid hry
  clear hry
  have Hz := Lib.hid hrz
  clear hrz
  go_wp2_with fail
  clear Hh
  clear Hp
  clear Hx
  clear Hz
  have hrq := RdP.builtS w4 #[.int .i64 1, .int .i64 1, .string ⟨#[]⟩, .int .i64 2, .int .i64 0, .string ⟨#[98]⟩] [(1, 1, emp), (2, 0, ⟨#[98]⟩)] 2 rfl rfl (by decide) (by decide)
  have hbw5 := hbw4.alloc hbw4.size (.cells #[.int .i64 1, .int .i64 1, .string ⟨#[]⟩, .int .i64 2, .int .i64 0, .string ⟨#[98]⟩] 42)
  have Hl5 := Lib.hid (RdR.stepA Hl.out (.cells #[.int .i64 1, .int .i64 1, .string ⟨#[]⟩, .int .i64 2, .int .i64 0, .string ⟨#[98]⟩] 42))
  clear Hl
  have Hl := Hl5
  clear Hl5
  have Hm5 := Lib.hid (RdP.stepA Hm.out (.cells #[.int .i64 1, .int .i64 1, .string ⟨#[]⟩, .int .i64 2, .int .i64 0, .string ⟨#[98]⟩] 42))
  clear Hm
  have Hm := Hm5
  clear Hm5
  have Hy5 := Lib.hid (RdP.stepA Hy.out (.cells #[.int .i64 1, .int .i64 1, .string ⟨#[]⟩, .int .i64 2, .int .i64 0, .string ⟨#[98]⟩] 42))
  clear Hy
  have Hy := Hy5
  clear Hy5
  have Hq := Lib.hid hrq
  clear hrq
  refine (same_true [(1, 1, emp), (2, 0, ⟨#[98]⟩)] [(1, 1, emp), (2, 0, ⟨#[98]⟩)] Ay (some ⟨w4.heap.size, 0, none⟩) _ _ cy 2 _ _ _ Hy.out Hq.out rfl).mono ?_
  rintro e w6 ⟨rfl, hb6⟩
  have hbw6 := hbw5.trans (hb6.mono hbw5.size)
  have Hl6 := Lib.hid (RdR.step Hl.out hb6)
  clear Hl
  have Hl := Hl6
  clear Hl6
  have Hm6 := Lib.hid (RdP.step Hm.out hb6)
  clear Hm
  have Hm := Hm6
  clear Hm6
  have Hy6 := Lib.hid (RdP.step Hy.out hb6)
  clear Hy
  have Hy := Hy6
  clear Hy6
  have Hq6 := Lib.hid (RdP.step Hq.out hb6)
  clear Hq
  have Hq := Hq6
  clear Hq6
  clear hb6
  go_wp2_with fail
  clear Hy
  clear Hq
  have hc := catch_good base l mine A A' n n n' c' n w6 Hl.out Hm.out H1.out Dd (meetD Dd mine) (meetC Dd mine) HD.out rfl rfl
  refine (hc).mono ?_
  rintro e w7 ⟨Aa1, na1, ca1, Ab1, nb1, cb1, Ad1, nd1, cd1, rfl, hra1, hrb1, hrd1, hb7⟩
  have hbw7 := hbw6.trans (hb7.mono hbw6.size)
  have Hl7 := Lib.hid (RdR.step Hl.out hb7)
  clear Hl
  have Hl := Hl7
  clear Hl7
  have Hm7 := Lib.hid (RdP.step Hm.out hb7)
  clear Hm
  have Hm := Hm7
  clear Hm7
  clear hb7
  clear hc
  have Ha1 := Lib.hid hra1
  clear hra1
  have Hb1 := Lib.hid hrb1
  clear hrb1
  have Hd1 := Lib.hid hrd1
  clear hrd1
  go_wp2_with fail
  have hrest := Hl.out.rest n (Nat.le_refl _)
  rw [if_pos rfl, Nat.sub_self] at hrest
  have Hrest := Lib.hid hrest
  clear hrest
  refine (plain_any (l.drop n) A 0 0 _ _ Hrest.out (Nat.le_refl _) _ H2.out).mono ?_
  rintro e w8 ⟨rfl, hb8⟩
  have hbw8 := hbw7.trans (hb8.mono hbw7.size)
  have Hl8 := Lib.hid (RdR.step Hl.out hb8)
  clear Hl
  have Hl := Hl8
  clear Hl8
  have Hm8 := Lib.hid (RdP.step Hm.out hb8)
  clear Hm
  have Hm := Hm8
  clear Hm8
  have Ha18 := Lib.hid (RdP.step Ha1.out hb8)
  clear Ha1
  have Ha1 := Ha18
  clear Ha18
  have Hb18 := Lib.hid (RdP.step Hb1.out hb8)
  clear Hb1
  have Hb1 := Hb18
  clear Hb18
  have Hd18 := Lib.hid (RdP.step Hd1.out hb8)
  clear Hd1
  have Hd1 := Hd18
  clear Hd18
  have Hrest8 := Lib.hid (RdR.step Hrest.out hb8)
  clear Hrest
  have Hrest := Hrest8
  clear Hrest8
  clear hb8
  go_wp2_with fail
  go_ret
  exact ⟨rfl, hbw8⟩
theorem catchEach_minee (base : ByteArray) (l : List Rv) (mine : List Pt) (A A' : Option Addr) (n c n' c' : Nat) (r : Nat) (hs : base.size ≤ 140737488351232) (w : World) (h : RdR w w.heap.size A n c l) (h' : RdP w w.heap.size A' n' c' mine) (h1 : CaOk base l r mine) (hcr : c = r) (h2 : anyCut (l.drop r).tail = false) (h3 : hasCut mine = true) :
    Calls Try.prog 5 #[.string base, .slice A n c, .int .i64 r, .slice A' n' c'] w fun e w' => e = .returned (.bool true) ∧ Below w.heap.size w w' := by
  have hbw0 : Below w.heap.size w w := Below.refl _ _
  have Hl := Lib.hid h
  clear h
  have Hm := Lib.hid h'
  clear h'
  have hn : n = l.length := Hl.out.1
  have Hn := Lib.hid hn
  have hcaps := Hl.out.caps
  have hrn : (r : Int) ≤ (n : Int) := by have := h1.1; omega
  have hr0 : (0 : Int) ≤ (r : Int) := by omega
  have hn64 : (n : Int) ≤ 64 := by have := (txE_parts h1.2.1).2.1; omega
  have hnc : (n : Int) ≤ (c : Int) := by omega
  have hrc : (r : Int) ≤ (c : Int) := by omega
  obtain ⟨Dd, hD⟩ : ∃ Dd, btwL base l r l.length = Dd := ⟨_, rfl⟩
  have HD := Lib.hid hD
  have H1 := Lib.hid h1
  clear h1 hn hD
  have H2 := Lib.hid h2
  clear h2
  have H3 := Lib.hid h3
  clear h3
  have hrest := Hl.out.rest r (by omega)
  subst hcr
  rw [if_pos rfl] at hrest
  obtain hnr : n = c := by omega
  subst hnr
  rw [Nat.sub_self] at hrest
  clear hrest
  go_enter Try.func5, Try.ntmps5
  go_wp2_with fail
  refine (first_any ⟨#[97]⟩ (by decide) w).mono ?_
  rintro e w1 ⟨Af, rfl, hrf, hb1⟩
  have hbw1 := hbw0.trans (hb1.mono hbw0.size)
  have Hl1 := Lib.hid (RdR.step Hl.out hb1)
  clear Hl
  have Hl := Hl1
  clear Hl1
  have Hm1 := Lib.hid (RdP.step Hm.out hb1)
  clear Hm
  have Hm := Hm1
  clear Hm1
  clear hb1
  have Hf := Lib.hid hrf
  clear hrf
  go_wp2_with fail
  have hrh : RdR (w1.alloc (.cells #[.int .i64 1, .int .i64 1, .slice Af 1 1] 28)) (w1.alloc (.cells #[.int .i64 1, .int .i64 1, .slice Af 1 1] 28)).heap.size (some ⟨w1.heap.size, 0, none⟩) 1 1 [(1, 1, [(2, 0, ⟨#[97]⟩)])] := by
    have q := RdR.built1 w1 1 1 Af 1 1 [(2, 0, ⟨#[97]⟩)] Hf.out
    simpa only [World.size_alloc] using q
  have hbw2 := hbw1.alloc hbw1.size (.cells #[.int .i64 1, .int .i64 1, .slice Af 1 1] 28)
  have Hl2 := Lib.hid (RdR.stepA Hl.out (.cells #[.int .i64 1, .int .i64 1, .slice Af 1 1] 28))
  clear Hl
  have Hl := Hl2
  clear Hl2
  have Hm2 := Lib.hid (RdP.stepA Hm.out (.cells #[.int .i64 1, .int .i64 1, .slice Af 1 1] 28))
  clear Hm
  have Hm := Hm2
  clear Hm2
  have Hf2 := Lib.hid (RdP.stepA Hf.out (.cells #[.int .i64 1, .int .i64 1, .slice Af 1 1] 28))
  clear Hf
  have Hf := Hf2
  clear Hf2
  have Hh := Lib.hid hrh
  clear hrh
  clear Hf
  go_wp2_with fail
  have hc := put_any ⟨#[98]⟩ (by decide) (w1.alloc (.cells #[.int .i64 1, .int .i64 1, .slice Af 1 1] 28))
  refine (hc).mono ?_
  rintro e w3 ⟨Ap, rfl, hrp, hb3⟩
  have hbw3 := hbw2.trans (hb3.mono hbw2.size)
  have Hl3 := Lib.hid (RdR.step Hl.out hb3)
  clear Hl
  have Hl := Hl3
  clear Hl3
  have Hm3 := Lib.hid (RdP.step Hm.out hb3)
  clear Hm
  have Hm := Hm3
  clear Hm3
  have Hh3 := Lib.hid (RdR.step Hh.out hb3)
  clear Hh
  have Hh := Hh3
  clear Hh3
  clear hb3
  clear hc
  have Hp := Lib.hid hrp
  clear hrp
  go_wp2_with fail
  have hc := catch_good ⟨#[]⟩ [(1, 1, [(2, 0, ⟨#[97]⟩)])] [(2, 0, ⟨#[98]⟩)] (some ⟨w1.heap.size, 0, none⟩) Ap 1 1 1 1 0 w3 Hh.out Hp.out ⟨by decide, by decide, by decide, by decide⟩ [(2, 0, ⟨#[97]⟩)] [(1, 1, emp), (2, 0, ⟨#[98]⟩)] [(2, 0, ⟨#[97]⟩), (1, 1, emp)] (by decide) (by decide) (by decide)
  refine (hc).mono ?_
  rintro e w4 ⟨Ax, nx, cx, Ay, ny, cy, Az, nz, cz, rfl, hrx, hry, hrz, hb4⟩
  have hbw4 := hbw3.trans (hb4.mono hbw3.size)
  have Hl4 := Lib.hid (RdR.step Hl.out hb4)
  clear Hl
  have Hl := Hl4
  clear Hl4
  have Hm4 := Lib.hid (RdP.step Hm.out hb4)
  clear Hm
  have Hm := Hm4
  clear Hm4
  have Hh4 := Lib.hid (RdR.step Hh.out hb4)
  clear Hh
  have Hh := Hh4
  clear Hh4
  have Hp4 := Lib.hid (RdP.step Hp.out hb4)
  clear Hp
  have Hp := Hp4
  clear Hp4
  clear hb4
  clear hc
  have Hx := Lib.hid hrx
  clear hrx
  have Hy := Lib.hid hry
  clear hry
  have Hz := Lib.hid hrz
  clear hrz
  go_wp2_with fail
  clear Hh
  clear Hp
  clear Hx
  clear Hz
  have hrq := RdP.builtS w4 #[.int .i64 1, .int .i64 1, .string ⟨#[]⟩, .int .i64 2, .int .i64 0, .string ⟨#[98]⟩] [(1, 1, emp), (2, 0, ⟨#[98]⟩)] 2 rfl rfl (by decide) (by decide)
  have hbw5 := hbw4.alloc hbw4.size (.cells #[.int .i64 1, .int .i64 1, .string ⟨#[]⟩, .int .i64 2, .int .i64 0, .string ⟨#[98]⟩] 42)
  have Hl5 := Lib.hid (RdR.stepA Hl.out (.cells #[.int .i64 1, .int .i64 1, .string ⟨#[]⟩, .int .i64 2, .int .i64 0, .string ⟨#[98]⟩] 42))
  clear Hl
  have Hl := Hl5
  clear Hl5
  have Hm5 := Lib.hid (RdP.stepA Hm.out (.cells #[.int .i64 1, .int .i64 1, .string ⟨#[]⟩, .int .i64 2, .int .i64 0, .string ⟨#[98]⟩] 42))
  clear Hm
  have Hm := Hm5
  clear Hm5
  have Hy5 := Lib.hid (RdP.stepA Hy.out (.cells #[.int .i64 1, .int .i64 1, .string ⟨#[]⟩, .int .i64 2, .int .i64 0, .string ⟨#[98]⟩] 42))
  clear Hy
  have Hy := Hy5
  clear Hy5
  have Hq := Lib.hid hrq
  clear hrq
  refine (same_true [(1, 1, emp), (2, 0, ⟨#[98]⟩)] [(1, 1, emp), (2, 0, ⟨#[98]⟩)] Ay (some ⟨w4.heap.size, 0, none⟩) _ _ cy 2 _ _ _ Hy.out Hq.out rfl).mono ?_
  rintro e w6 ⟨rfl, hb6⟩
  have hbw6 := hbw5.trans (hb6.mono hbw5.size)
  have Hl6 := Lib.hid (RdR.step Hl.out hb6)
  clear Hl
  have Hl := Hl6
  clear Hl6
  have Hm6 := Lib.hid (RdP.step Hm.out hb6)
  clear Hm
  have Hm := Hm6
  clear Hm6
  have Hy6 := Lib.hid (RdP.step Hy.out hb6)
  clear Hy
  have Hy := Hy6
  clear Hy6
  have Hq6 := Lib.hid (RdP.step Hq.out hb6)
  clear Hq
  have Hq := Hq6
  clear Hq6
  clear hb6
  go_wp2_with fail
  clear Hy
  clear Hq
  have hc := catch_good base l mine A A' n n n' c' n w6 Hl.out Hm.out H1.out Dd (meetD Dd mine) (meetC Dd mine) HD.out rfl rfl
  refine (hc).mono ?_
  rintro e w7 ⟨Aa1, na1, ca1, Ab1, nb1, cb1, Ad1, nd1, cd1, rfl, hra1, hrb1, hrd1, hb7⟩
  have hbw7 := hbw6.trans (hb7.mono hbw6.size)
  have Hl7 := Lib.hid (RdR.step Hl.out hb7)
  clear Hl
  have Hl := Hl7
  clear Hl7
  have Hm7 := Lib.hid (RdP.step Hm.out hb7)
  clear Hm
  have Hm := Hm7
  clear Hm7
  clear hb7
  clear hc
  have Ha1 := Lib.hid hra1
  clear hra1
  have Hb1 := Lib.hid hrb1
  clear hrb1
  have Hd1 := Lib.hid hrd1
  clear hrd1
  go_wp2_with fail
  have hrest := Hl.out.rest n (Nat.le_refl _)
  rw [if_pos rfl, Nat.sub_self] at hrest
  have Hrest := Lib.hid hrest
  clear hrest
  refine (plain_any (l.drop n) A 0 0 _ _ Hrest.out (Nat.le_refl _) _ H2.out).mono ?_
  rintro e w8 ⟨rfl, hb8⟩
  have hbw8 := hbw7.trans (hb8.mono hbw7.size)
  have Hl8 := Lib.hid (RdR.step Hl.out hb8)
  clear Hl
  have Hl := Hl8
  clear Hl8
  have Hm8 := Lib.hid (RdP.step Hm.out hb8)
  clear Hm
  have Hm := Hm8
  clear Hm8
  have Ha18 := Lib.hid (RdP.step Ha1.out hb8)
  clear Ha1
  have Ha1 := Ha18
  clear Ha18
  have Hb18 := Lib.hid (RdP.step Hb1.out hb8)
  clear Hb1
  have Hb1 := Hb18
  clear Hb18
  have Hd18 := Lib.hid (RdP.step Hd1.out hb8)
  clear Hd1
  have Hd1 := Hd18
  clear Hd18
  have Hrest8 := Lib.hid (RdR.step Hrest.out hb8)
  clear Hrest
  have Hrest := Hrest8
  clear Hrest8
  clear hb8
  go_wp2_with fail
  have hc := cuts_any mine A' n' c' _ w8 Hm.out (Nat.le_refl _)
  rw [H3.out] at hc
  refine (hc).mono ?_
  rintro e w9 ⟨rfl, hb9⟩
  have hbw9 := hbw8.trans (hb9.mono hbw8.size)
  have Hl9 := Lib.hid (RdR.step Hl.out hb9)
  clear Hl
  have Hl := Hl9
  clear Hl9
  have Hm9 := Lib.hid (RdP.step Hm.out hb9)
  clear Hm
  have Hm := Hm9
  clear Hm9
  have Ha19 := Lib.hid (RdP.step Ha1.out hb9)
  clear Ha1
  have Ha1 := Ha19
  clear Ha19
  have Hb19 := Lib.hid (RdP.step Hb1.out hb9)
  clear Hb1
  have Hb1 := Hb19
  clear Hb19
  have Hd19 := Lib.hid (RdP.step Hd1.out hb9)
  clear Hd1
  have Hd1 := Hd19
  clear Hd19
  have Hrest9 := Lib.hid (RdR.step Hrest.out hb9)
  clear Hrest
  have Hrest := Hrest9
  clear Hrest9
  clear hb9
  clear hc
  go_wp2_with fail
  go_ret
  exact ⟨rfl, hbw9⟩
theorem catchEach_oke (base : ByteArray) (l : List Rv) (mine : List Pt) (A A' : Option Addr) (n c n' c' : Nat) (r : Nat) (hs : base.size ≤ 140737488351232) (w : World) (h : RdR w w.heap.size A n c l) (h' : RdP w w.heap.size A' n' c' mine) (h1 : CaOk base l r mine) (hcr : c = r) (h2 : anyCut (l.drop r).tail = false) (h3 : hasCut mine = false) :
    Calls Try.prog 5 #[.string base, .slice A n c, .int .i64 r, .slice A' n' c'] w fun e w' => e = .returned (.bool true) ∧ Below w.heap.size w w' := by
  have hbw0 : Below w.heap.size w w := Below.refl _ _
  have Hl := Lib.hid h
  clear h
  have Hm := Lib.hid h'
  clear h'
  have hce := catch_each (mine := mine) h3 (l.drop r) (txr_drop l base r (txE_parts h1.2.1).2.2) (txt_size l base r (txE_parts h1.2.1).1) (fun x hx => by
    have h4 := h2
    unfold anyCut at h4
    rw [List.any_eq_false] at h4
    simpa using h4 x hx) h1.2.2.1 (by
    have h5 := h1.2.2.2
    unfold btwL at h5
    rwa [List.take_of_length_le (by rw [List.length_drop]; omega)] at h5)
  have hbl : btwL base l r l.length = btw (allL (txt base l r).size) (l.drop r) := by
    unfold btwL
    rw [List.take_of_length_le (by rw [List.length_drop]; omega)]
  rw [← hbl] at hce
  have Hce := Lib.hid hce
  clear hce hbl
  have hn : n = l.length := Hl.out.1
  have Hn := Lib.hid hn
  have hcaps := Hl.out.caps
  have hrn : (r : Int) ≤ (n : Int) := by have := h1.1; omega
  have hr0 : (0 : Int) ≤ (r : Int) := by omega
  have hn64 : (n : Int) ≤ 64 := by have := (txE_parts h1.2.1).2.1; omega
  have hnc : (n : Int) ≤ (c : Int) := by omega
  have hrc : (r : Int) ≤ (c : Int) := by omega
  obtain ⟨Dd, hD⟩ : ∃ Dd, btwL base l r l.length = Dd := ⟨_, rfl⟩
  have HD := Lib.hid hD
  have H1 := Lib.hid h1
  clear h1 hn hD
  have H2 := Lib.hid h2
  clear h2
  have H3 := Lib.hid h3
  clear h3
  have hrest := Hl.out.rest r (by omega)
  subst hcr
  rw [if_pos rfl] at hrest
  obtain hnr : n = c := by omega
  subst hnr
  rw [Nat.sub_self] at hrest
  clear hrest
  go_enter Try.func5, Try.ntmps5
  go_wp2_with fail
  refine (first_any ⟨#[97]⟩ (by decide) w).mono ?_
  rintro e w1 ⟨Af, rfl, hrf, hb1⟩
  have hbw1 := hbw0.trans (hb1.mono hbw0.size)
  have Hl1 := Lib.hid (RdR.step Hl.out hb1)
  clear Hl
  have Hl := Hl1
  clear Hl1
  have Hm1 := Lib.hid (RdP.step Hm.out hb1)
  clear Hm
  have Hm := Hm1
  clear Hm1
  clear hb1
  have Hf := Lib.hid hrf
  clear hrf
  go_wp2_with fail
  have hrh : RdR (w1.alloc (.cells #[.int .i64 1, .int .i64 1, .slice Af 1 1] 28)) (w1.alloc (.cells #[.int .i64 1, .int .i64 1, .slice Af 1 1] 28)).heap.size (some ⟨w1.heap.size, 0, none⟩) 1 1 [(1, 1, [(2, 0, ⟨#[97]⟩)])] := by
    have q := RdR.built1 w1 1 1 Af 1 1 [(2, 0, ⟨#[97]⟩)] Hf.out
    simpa only [World.size_alloc] using q
  have hbw2 := hbw1.alloc hbw1.size (.cells #[.int .i64 1, .int .i64 1, .slice Af 1 1] 28)
  have Hl2 := Lib.hid (RdR.stepA Hl.out (.cells #[.int .i64 1, .int .i64 1, .slice Af 1 1] 28))
  clear Hl
  have Hl := Hl2
  clear Hl2
  have Hm2 := Lib.hid (RdP.stepA Hm.out (.cells #[.int .i64 1, .int .i64 1, .slice Af 1 1] 28))
  clear Hm
  have Hm := Hm2
  clear Hm2
  have Hf2 := Lib.hid (RdP.stepA Hf.out (.cells #[.int .i64 1, .int .i64 1, .slice Af 1 1] 28))
  clear Hf
  have Hf := Hf2
  clear Hf2
  have Hh := Lib.hid hrh
  clear hrh
  clear Hf
  go_wp2_with fail
  have hc := put_any ⟨#[98]⟩ (by decide) (w1.alloc (.cells #[.int .i64 1, .int .i64 1, .slice Af 1 1] 28))
  refine (hc).mono ?_
  rintro e w3 ⟨Ap, rfl, hrp, hb3⟩
  have hbw3 := hbw2.trans (hb3.mono hbw2.size)
  have Hl3 := Lib.hid (RdR.step Hl.out hb3)
  clear Hl
  have Hl := Hl3
  clear Hl3
  have Hm3 := Lib.hid (RdP.step Hm.out hb3)
  clear Hm
  have Hm := Hm3
  clear Hm3
  have Hh3 := Lib.hid (RdR.step Hh.out hb3)
  clear Hh
  have Hh := Hh3
  clear Hh3
  clear hb3
  clear hc
  have Hp := Lib.hid hrp
  clear hrp
  go_wp2_with fail
  have hc := catch_good ⟨#[]⟩ [(1, 1, [(2, 0, ⟨#[97]⟩)])] [(2, 0, ⟨#[98]⟩)] (some ⟨w1.heap.size, 0, none⟩) Ap 1 1 1 1 0 w3 Hh.out Hp.out ⟨by decide, by decide, by decide, by decide⟩ [(2, 0, ⟨#[97]⟩)] [(1, 1, emp), (2, 0, ⟨#[98]⟩)] [(2, 0, ⟨#[97]⟩), (1, 1, emp)] (by decide) (by decide) (by decide)
  refine (hc).mono ?_
  rintro e w4 ⟨Ax, nx, cx, Ay, ny, cy, Az, nz, cz, rfl, hrx, hry, hrz, hb4⟩
  have hbw4 := hbw3.trans (hb4.mono hbw3.size)
  have Hl4 := Lib.hid (RdR.step Hl.out hb4)
  clear Hl
  have Hl := Hl4
  clear Hl4
  have Hm4 := Lib.hid (RdP.step Hm.out hb4)
  clear Hm
  have Hm := Hm4
  clear Hm4
  have Hh4 := Lib.hid (RdR.step Hh.out hb4)
  clear Hh
  have Hh := Hh4
  clear Hh4
  have Hp4 := Lib.hid (RdP.step Hp.out hb4)
  clear Hp
  have Hp := Hp4
  clear Hp4
  clear hb4
  clear hc
  have Hx := Lib.hid hrx
  clear hrx
  have Hy := Lib.hid hry
  clear hry
  have Hz := Lib.hid hrz
  clear hrz
  go_wp2_with fail
  clear Hh
  clear Hp
  clear Hx
  clear Hz
  have hrq := RdP.builtS w4 #[.int .i64 1, .int .i64 1, .string ⟨#[]⟩, .int .i64 2, .int .i64 0, .string ⟨#[98]⟩] [(1, 1, emp), (2, 0, ⟨#[98]⟩)] 2 rfl rfl (by decide) (by decide)
  have hbw5 := hbw4.alloc hbw4.size (.cells #[.int .i64 1, .int .i64 1, .string ⟨#[]⟩, .int .i64 2, .int .i64 0, .string ⟨#[98]⟩] 42)
  have Hl5 := Lib.hid (RdR.stepA Hl.out (.cells #[.int .i64 1, .int .i64 1, .string ⟨#[]⟩, .int .i64 2, .int .i64 0, .string ⟨#[98]⟩] 42))
  clear Hl
  have Hl := Hl5
  clear Hl5
  have Hm5 := Lib.hid (RdP.stepA Hm.out (.cells #[.int .i64 1, .int .i64 1, .string ⟨#[]⟩, .int .i64 2, .int .i64 0, .string ⟨#[98]⟩] 42))
  clear Hm
  have Hm := Hm5
  clear Hm5
  have Hy5 := Lib.hid (RdP.stepA Hy.out (.cells #[.int .i64 1, .int .i64 1, .string ⟨#[]⟩, .int .i64 2, .int .i64 0, .string ⟨#[98]⟩] 42))
  clear Hy
  have Hy := Hy5
  clear Hy5
  have Hq := Lib.hid hrq
  clear hrq
  refine (same_true [(1, 1, emp), (2, 0, ⟨#[98]⟩)] [(1, 1, emp), (2, 0, ⟨#[98]⟩)] Ay (some ⟨w4.heap.size, 0, none⟩) _ _ cy 2 _ _ _ Hy.out Hq.out rfl).mono ?_
  rintro e w6 ⟨rfl, hb6⟩
  have hbw6 := hbw5.trans (hb6.mono hbw5.size)
  have Hl6 := Lib.hid (RdR.step Hl.out hb6)
  clear Hl
  have Hl := Hl6
  clear Hl6
  have Hm6 := Lib.hid (RdP.step Hm.out hb6)
  clear Hm
  have Hm := Hm6
  clear Hm6
  have Hy6 := Lib.hid (RdP.step Hy.out hb6)
  clear Hy
  have Hy := Hy6
  clear Hy6
  have Hq6 := Lib.hid (RdP.step Hq.out hb6)
  clear Hq
  have Hq := Hq6
  clear Hq6
  clear hb6
  go_wp2_with fail
  clear Hy
  clear Hq
  have hc := catch_good base l mine A A' n n n' c' n w6 Hl.out Hm.out H1.out Dd (meetD Dd mine) (meetC Dd mine) HD.out rfl rfl
  refine (hc).mono ?_
  rintro e w7 ⟨Aa1, na1, ca1, Ab1, nb1, cb1, Ad1, nd1, cd1, rfl, hra1, hrb1, hrd1, hb7⟩
  have hbw7 := hbw6.trans (hb7.mono hbw6.size)
  have Hl7 := Lib.hid (RdR.step Hl.out hb7)
  clear Hl
  have Hl := Hl7
  clear Hl7
  have Hm7 := Lib.hid (RdP.step Hm.out hb7)
  clear Hm
  have Hm := Hm7
  clear Hm7
  clear hb7
  clear hc
  have Ha1 := Lib.hid hra1
  clear hra1
  have Hb1 := Lib.hid hrb1
  clear hrb1
  have Hd1 := Lib.hid hrd1
  clear hrd1
  go_wp2_with fail
  have hrest := Hl.out.rest n (Nat.le_refl _)
  rw [if_pos rfl, Nat.sub_self] at hrest
  have Hrest := Lib.hid hrest
  clear hrest
  refine (plain_any (l.drop n) A 0 0 _ _ Hrest.out (Nat.le_refl _) _ H2.out).mono ?_
  rintro e w8 ⟨rfl, hb8⟩
  have hbw8 := hbw7.trans (hb8.mono hbw7.size)
  have Hl8 := Lib.hid (RdR.step Hl.out hb8)
  clear Hl
  have Hl := Hl8
  clear Hl8
  have Hm8 := Lib.hid (RdP.step Hm.out hb8)
  clear Hm
  have Hm := Hm8
  clear Hm8
  have Ha18 := Lib.hid (RdP.step Ha1.out hb8)
  clear Ha1
  have Ha1 := Ha18
  clear Ha18
  have Hb18 := Lib.hid (RdP.step Hb1.out hb8)
  clear Hb1
  have Hb1 := Hb18
  clear Hb18
  have Hd18 := Lib.hid (RdP.step Hd1.out hb8)
  clear Hd1
  have Hd1 := Hd18
  clear Hd18
  have Hrest8 := Lib.hid (RdR.step Hrest.out hb8)
  clear Hrest
  have Hrest := Hrest8
  clear Hrest8
  clear hb8
  go_wp2_with fail
  have hc := cuts_any mine A' n' c' _ w8 Hm.out (Nat.le_refl _)
  rw [H3.out] at hc
  refine (hc).mono ?_
  rintro e w9 ⟨rfl, hb9⟩
  have hbw9 := hbw8.trans (hb9.mono hbw8.size)
  have Hl9 := Lib.hid (RdR.step Hl.out hb9)
  clear Hl
  have Hl := Hl9
  clear Hl9
  have Hm9 := Lib.hid (RdP.step Hm.out hb9)
  clear Hm
  have Hm := Hm9
  clear Hm9
  have Ha19 := Lib.hid (RdP.step Ha1.out hb9)
  clear Ha1
  have Ha1 := Ha19
  clear Ha19
  have Hb19 := Lib.hid (RdP.step Hb1.out hb9)
  clear Hb1
  have Hb1 := Hb19
  clear Hb19
  have Hd19 := Lib.hid (RdP.step Hd1.out hb9)
  clear Hd1
  have Hd1 := Hd19
  clear Hd19
  have Hrest9 := Lib.hid (RdR.step Hrest.out hb9)
  clear Hrest
  have Hrest := Hrest9
  clear Hrest9
  clear hb9
  clear hc
  go_wp2_with fail
  have hfin : mine = meetD Dd mine := by
    have h5 := Hce.out.2
    rw [List.drop_eq_nil_of_le (by have := Hn.out; omega), HD.out] at h5
    exact h5
  have Hfin := Lib.hid hfin
  clear hfin
  go_loopw [16, 17, 19, 74] (fun ev ov pv iv wr => iv = .int .i64 0 ∧ ov = .slice A' n' c' ∧ wr = w9) (fun _ _ _ i _ => 0)
  case atStart => exact ⟨rfl, rfl, rfl⟩
  case round =>
    obtain ⟨rfl, rfl, rfl⟩ := hrel
    go_wp2_with fail
    refine (same_true (meetD Dd mine) mine Ab1 A' _ _ cb1 c' _ _ _ Hb1.out Hm.out Hfin.out.symm).mono ?_
    rintro e wf ⟨rfl, hbf⟩
    have hbwf := hbw9.trans (hbf.mono hbw9.size)
    go_wp2_with fail
    go_ret
    exact ⟨rfl, hbwf⟩
theorem catchEach_cutn (base : ByteArray) (l : List Rv) (mine : List Pt) (A A' : Option Addr) (n c n' c' : Nat) (r : Nat) (hs : base.size ≤ 140737488351232) (w : World) (h : RdR w w.heap.size A n c l) (h' : RdP w w.heap.size A' n' c' mine) (h1 : CaOk base l r mine) (hcr : c ≠ r) (h2 : anyCut (l.drop r).tail = true) :
    Calls Try.prog 5 #[.string base, .slice A n c, .int .i64 r, .slice A' n' c'] w fun e w' => e = .returned (.bool true) ∧ Below w.heap.size w w' := by
  have hbw0 : Below w.heap.size w w := Below.refl _ _
  have Hl := Lib.hid h
  clear h
  have Hm := Lib.hid h'
  clear h'
  have hn : n = l.length := Hl.out.1
  have Hn := Lib.hid hn
  have hcaps := Hl.out.caps
  have hrn : (r : Int) ≤ (n : Int) := by have := h1.1; omega
  have hr0 : (0 : Int) ≤ (r : Int) := by omega
  have hn64 : (n : Int) ≤ 64 := by have := (txE_parts h1.2.1).2.1; omega
  have hnc : (n : Int) ≤ (c : Int) := by omega
  have hrc : (r : Int) ≤ (c : Int) := by omega
  obtain ⟨Dd, hD⟩ : ∃ Dd, btwL base l r l.length = Dd := ⟨_, rfl⟩
  have HD := Lib.hid hD
  have H1 := Lib.hid h1
  clear h1 hn hD
  have H2 := Lib.hid h2
  clear h2
  have hrest := Hl.out.rest r (by omega)
  rw [if_neg hcr] at hrest
  have hcf : (c = r) = False := by simp; exact hcr
  clear hcr
  clear hrest
  go_enter Try.func5, Try.ntmps5
  go_wp2_with fail
  refine (first_any ⟨#[97]⟩ (by decide) w).mono ?_
  rintro e w1 ⟨Af, rfl, hrf, hb1⟩
  have hbw1 := hbw0.trans (hb1.mono hbw0.size)
  have Hl1 := Lib.hid (RdR.step Hl.out hb1)
  clear Hl
  have Hl := Hl1
  clear Hl1
  have Hm1 := Lib.hid (RdP.step Hm.out hb1)
  clear Hm
  have Hm := Hm1
  clear Hm1
  clear hb1
  have Hf := Lib.hid hrf
  clear hrf
  go_wp2_with fail
  have hrh : RdR (w1.alloc (.cells #[.int .i64 1, .int .i64 1, .slice Af 1 1] 28)) (w1.alloc (.cells #[.int .i64 1, .int .i64 1, .slice Af 1 1] 28)).heap.size (some ⟨w1.heap.size, 0, none⟩) 1 1 [(1, 1, [(2, 0, ⟨#[97]⟩)])] := by
    have q := RdR.built1 w1 1 1 Af 1 1 [(2, 0, ⟨#[97]⟩)] Hf.out
    simpa only [World.size_alloc] using q
  have hbw2 := hbw1.alloc hbw1.size (.cells #[.int .i64 1, .int .i64 1, .slice Af 1 1] 28)
  have Hl2 := Lib.hid (RdR.stepA Hl.out (.cells #[.int .i64 1, .int .i64 1, .slice Af 1 1] 28))
  clear Hl
  have Hl := Hl2
  clear Hl2
  have Hm2 := Lib.hid (RdP.stepA Hm.out (.cells #[.int .i64 1, .int .i64 1, .slice Af 1 1] 28))
  clear Hm
  have Hm := Hm2
  clear Hm2
  have Hf2 := Lib.hid (RdP.stepA Hf.out (.cells #[.int .i64 1, .int .i64 1, .slice Af 1 1] 28))
  clear Hf
  have Hf := Hf2
  clear Hf2
  have Hh := Lib.hid hrh
  clear hrh
  clear Hf
  go_wp2_with fail
  have hc := put_any ⟨#[98]⟩ (by decide) (w1.alloc (.cells #[.int .i64 1, .int .i64 1, .slice Af 1 1] 28))
  refine (hc).mono ?_
  rintro e w3 ⟨Ap, rfl, hrp, hb3⟩
  have hbw3 := hbw2.trans (hb3.mono hbw2.size)
  have Hl3 := Lib.hid (RdR.step Hl.out hb3)
  clear Hl
  have Hl := Hl3
  clear Hl3
  have Hm3 := Lib.hid (RdP.step Hm.out hb3)
  clear Hm
  have Hm := Hm3
  clear Hm3
  have Hh3 := Lib.hid (RdR.step Hh.out hb3)
  clear Hh
  have Hh := Hh3
  clear Hh3
  clear hb3
  clear hc
  have Hp := Lib.hid hrp
  clear hrp
  go_wp2_with fail
  have hc := catch_good ⟨#[]⟩ [(1, 1, [(2, 0, ⟨#[97]⟩)])] [(2, 0, ⟨#[98]⟩)] (some ⟨w1.heap.size, 0, none⟩) Ap 1 1 1 1 0 w3 Hh.out Hp.out ⟨by decide, by decide, by decide, by decide⟩ [(2, 0, ⟨#[97]⟩)] [(1, 1, emp), (2, 0, ⟨#[98]⟩)] [(2, 0, ⟨#[97]⟩), (1, 1, emp)] (by decide) (by decide) (by decide)
  refine (hc).mono ?_
  rintro e w4 ⟨Ax, nx, cx, Ay, ny, cy, Az, nz, cz, rfl, hrx, hry, hrz, hb4⟩
  have hbw4 := hbw3.trans (hb4.mono hbw3.size)
  have Hl4 := Lib.hid (RdR.step Hl.out hb4)
  clear Hl
  have Hl := Hl4
  clear Hl4
  have Hm4 := Lib.hid (RdP.step Hm.out hb4)
  clear Hm
  have Hm := Hm4
  clear Hm4
  have Hh4 := Lib.hid (RdR.step Hh.out hb4)
  clear Hh
  have Hh := Hh4
  clear Hh4
  have Hp4 := Lib.hid (RdP.step Hp.out hb4)
  clear Hp
  have Hp := Hp4
  clear Hp4
  clear hb4
  clear hc
  have Hx := Lib.hid hrx
  clear hrx
  have Hy := Lib.hid hry
  clear hry
  have Hz := Lib.hid hrz
  clear hrz
  go_wp2_with fail
  clear Hh
  clear Hp
  clear Hx
  clear Hz
  have hrq := RdP.builtS w4 #[.int .i64 1, .int .i64 1, .string ⟨#[]⟩, .int .i64 2, .int .i64 0, .string ⟨#[98]⟩] [(1, 1, emp), (2, 0, ⟨#[98]⟩)] 2 rfl rfl (by decide) (by decide)
  have hbw5 := hbw4.alloc hbw4.size (.cells #[.int .i64 1, .int .i64 1, .string ⟨#[]⟩, .int .i64 2, .int .i64 0, .string ⟨#[98]⟩] 42)
  have Hl5 := Lib.hid (RdR.stepA Hl.out (.cells #[.int .i64 1, .int .i64 1, .string ⟨#[]⟩, .int .i64 2, .int .i64 0, .string ⟨#[98]⟩] 42))
  clear Hl
  have Hl := Hl5
  clear Hl5
  have Hm5 := Lib.hid (RdP.stepA Hm.out (.cells #[.int .i64 1, .int .i64 1, .string ⟨#[]⟩, .int .i64 2, .int .i64 0, .string ⟨#[98]⟩] 42))
  clear Hm
  have Hm := Hm5
  clear Hm5
  have Hy5 := Lib.hid (RdP.stepA Hy.out (.cells #[.int .i64 1, .int .i64 1, .string ⟨#[]⟩, .int .i64 2, .int .i64 0, .string ⟨#[98]⟩] 42))
  clear Hy
  have Hy := Hy5
  clear Hy5
  have Hq := Lib.hid hrq
  clear hrq
  refine (same_true [(1, 1, emp), (2, 0, ⟨#[98]⟩)] [(1, 1, emp), (2, 0, ⟨#[98]⟩)] Ay (some ⟨w4.heap.size, 0, none⟩) _ _ cy 2 _ _ _ Hy.out Hq.out rfl).mono ?_
  rintro e w6 ⟨rfl, hb6⟩
  have hbw6 := hbw5.trans (hb6.mono hbw5.size)
  have Hl6 := Lib.hid (RdR.step Hl.out hb6)
  clear Hl
  have Hl := Hl6
  clear Hl6
  have Hm6 := Lib.hid (RdP.step Hm.out hb6)
  clear Hm
  have Hm := Hm6
  clear Hm6
  have Hy6 := Lib.hid (RdP.step Hy.out hb6)
  clear Hy
  have Hy := Hy6
  clear Hy6
  have Hq6 := Lib.hid (RdP.step Hq.out hb6)
  clear Hq
  have Hq := Hq6
  clear Hq6
  clear hb6
  go_wp2_with fail
  clear Hy
  clear Hq
  have hc := catch_good base l mine A A' n c n' c' r w6 Hl.out Hm.out H1.out Dd (meetD Dd mine) (meetC Dd mine) HD.out rfl rfl
  refine (hc).mono ?_
  rintro e w7 ⟨Aa1, na1, ca1, Ab1, nb1, cb1, Ad1, nd1, cd1, rfl, hra1, hrb1, hrd1, hb7⟩
  have hbw7 := hbw6.trans (hb7.mono hbw6.size)
  have Hl7 := Lib.hid (RdR.step Hl.out hb7)
  clear Hl
  have Hl := Hl7
  clear Hl7
  have Hm7 := Lib.hid (RdP.step Hm.out hb7)
  clear Hm
  have Hm := Hm7
  clear Hm7
  clear hb7
  clear hc
  have Ha1 := Lib.hid hra1
  clear hra1
  have Hb1 := Lib.hid hrb1
  clear hrb1
  have Hd1 := Lib.hid hrd1
  clear hrd1
  go_wp2_with fail
  have hrest := Hl.out.rest r (by omega)
  rw [if_neg (by intro h; rw [h] at hcf; simp at hcf)] at hrest
  have Hrest := Lib.hid hrest
  clear hrest
  refine (plain_any (l.drop r) (Option.map (fun x : Addr => x.add (r * 3)) A) (n - r) (c - r) _ _ Hrest.out (Nat.le_refl _) _ H2.out).mono ?_
  rintro e w8 ⟨rfl, hb8⟩
  have hbw8 := hbw7.trans (hb8.mono hbw7.size)
  have Hl8 := Lib.hid (RdR.step Hl.out hb8)
  clear Hl
  have Hl := Hl8
  clear Hl8
  have Hm8 := Lib.hid (RdP.step Hm.out hb8)
  clear Hm
  have Hm := Hm8
  clear Hm8
  have Ha18 := Lib.hid (RdP.step Ha1.out hb8)
  clear Ha1
  have Ha1 := Ha18
  clear Ha18
  have Hb18 := Lib.hid (RdP.step Hb1.out hb8)
  clear Hb1
  have Hb1 := Hb18
  clear Hb18
  have Hd18 := Lib.hid (RdP.step Hd1.out hb8)
  clear Hd1
  have Hd1 := Hd18
  clear Hd18
  have Hrest8 := Lib.hid (RdR.step Hrest.out hb8)
  clear Hrest
  have Hrest := Hrest8
  clear Hrest8
  clear hb8
  go_wp2_with fail
  go_ret
  exact ⟨rfl, hbw8⟩
theorem catchEach_minen (base : ByteArray) (l : List Rv) (mine : List Pt) (A A' : Option Addr) (n c n' c' : Nat) (r : Nat) (hs : base.size ≤ 140737488351232) (w : World) (h : RdR w w.heap.size A n c l) (h' : RdP w w.heap.size A' n' c' mine) (h1 : CaOk base l r mine) (hcr : c ≠ r) (h2 : anyCut (l.drop r).tail = false) (h3 : hasCut mine = true) :
    Calls Try.prog 5 #[.string base, .slice A n c, .int .i64 r, .slice A' n' c'] w fun e w' => e = .returned (.bool true) ∧ Below w.heap.size w w' := by
  have hbw0 : Below w.heap.size w w := Below.refl _ _
  have Hl := Lib.hid h
  clear h
  have Hm := Lib.hid h'
  clear h'
  have hn : n = l.length := Hl.out.1
  have Hn := Lib.hid hn
  have hcaps := Hl.out.caps
  have hrn : (r : Int) ≤ (n : Int) := by have := h1.1; omega
  have hr0 : (0 : Int) ≤ (r : Int) := by omega
  have hn64 : (n : Int) ≤ 64 := by have := (txE_parts h1.2.1).2.1; omega
  have hnc : (n : Int) ≤ (c : Int) := by omega
  have hrc : (r : Int) ≤ (c : Int) := by omega
  obtain ⟨Dd, hD⟩ : ∃ Dd, btwL base l r l.length = Dd := ⟨_, rfl⟩
  have HD := Lib.hid hD
  have H1 := Lib.hid h1
  clear h1 hn hD
  have H2 := Lib.hid h2
  clear h2
  have H3 := Lib.hid h3
  clear h3
  have hrest := Hl.out.rest r (by omega)
  rw [if_neg hcr] at hrest
  have hcf : (c = r) = False := by simp; exact hcr
  clear hcr
  clear hrest
  go_enter Try.func5, Try.ntmps5
  go_wp2_with fail
  refine (first_any ⟨#[97]⟩ (by decide) w).mono ?_
  rintro e w1 ⟨Af, rfl, hrf, hb1⟩
  have hbw1 := hbw0.trans (hb1.mono hbw0.size)
  have Hl1 := Lib.hid (RdR.step Hl.out hb1)
  clear Hl
  have Hl := Hl1
  clear Hl1
  have Hm1 := Lib.hid (RdP.step Hm.out hb1)
  clear Hm
  have Hm := Hm1
  clear Hm1
  clear hb1
  have Hf := Lib.hid hrf
  clear hrf
  go_wp2_with fail
  have hrh : RdR (w1.alloc (.cells #[.int .i64 1, .int .i64 1, .slice Af 1 1] 28)) (w1.alloc (.cells #[.int .i64 1, .int .i64 1, .slice Af 1 1] 28)).heap.size (some ⟨w1.heap.size, 0, none⟩) 1 1 [(1, 1, [(2, 0, ⟨#[97]⟩)])] := by
    have q := RdR.built1 w1 1 1 Af 1 1 [(2, 0, ⟨#[97]⟩)] Hf.out
    simpa only [World.size_alloc] using q
  have hbw2 := hbw1.alloc hbw1.size (.cells #[.int .i64 1, .int .i64 1, .slice Af 1 1] 28)
  have Hl2 := Lib.hid (RdR.stepA Hl.out (.cells #[.int .i64 1, .int .i64 1, .slice Af 1 1] 28))
  clear Hl
  have Hl := Hl2
  clear Hl2
  have Hm2 := Lib.hid (RdP.stepA Hm.out (.cells #[.int .i64 1, .int .i64 1, .slice Af 1 1] 28))
  clear Hm
  have Hm := Hm2
  clear Hm2
  have Hf2 := Lib.hid (RdP.stepA Hf.out (.cells #[.int .i64 1, .int .i64 1, .slice Af 1 1] 28))
  clear Hf
  have Hf := Hf2
  clear Hf2
  have Hh := Lib.hid hrh
  clear hrh
  clear Hf
  go_wp2_with fail
  have hc := put_any ⟨#[98]⟩ (by decide) (w1.alloc (.cells #[.int .i64 1, .int .i64 1, .slice Af 1 1] 28))
  refine (hc).mono ?_
  rintro e w3 ⟨Ap, rfl, hrp, hb3⟩
  have hbw3 := hbw2.trans (hb3.mono hbw2.size)
  have Hl3 := Lib.hid (RdR.step Hl.out hb3)
  clear Hl
  have Hl := Hl3
  clear Hl3
  have Hm3 := Lib.hid (RdP.step Hm.out hb3)
  clear Hm
  have Hm := Hm3
  clear Hm3
  have Hh3 := Lib.hid (RdR.step Hh.out hb3)
  clear Hh
  have Hh := Hh3
  clear Hh3
  clear hb3
  clear hc
  have Hp := Lib.hid hrp
  clear hrp
  go_wp2_with fail
  have hc := catch_good ⟨#[]⟩ [(1, 1, [(2, 0, ⟨#[97]⟩)])] [(2, 0, ⟨#[98]⟩)] (some ⟨w1.heap.size, 0, none⟩) Ap 1 1 1 1 0 w3 Hh.out Hp.out ⟨by decide, by decide, by decide, by decide⟩ [(2, 0, ⟨#[97]⟩)] [(1, 1, emp), (2, 0, ⟨#[98]⟩)] [(2, 0, ⟨#[97]⟩), (1, 1, emp)] (by decide) (by decide) (by decide)
  refine (hc).mono ?_
  rintro e w4 ⟨Ax, nx, cx, Ay, ny, cy, Az, nz, cz, rfl, hrx, hry, hrz, hb4⟩
  have hbw4 := hbw3.trans (hb4.mono hbw3.size)
  have Hl4 := Lib.hid (RdR.step Hl.out hb4)
  clear Hl
  have Hl := Hl4
  clear Hl4
  have Hm4 := Lib.hid (RdP.step Hm.out hb4)
  clear Hm
  have Hm := Hm4
  clear Hm4
  have Hh4 := Lib.hid (RdR.step Hh.out hb4)
  clear Hh
  have Hh := Hh4
  clear Hh4
  have Hp4 := Lib.hid (RdP.step Hp.out hb4)
  clear Hp
  have Hp := Hp4
  clear Hp4
  clear hb4
  clear hc
  have Hx := Lib.hid hrx
  clear hrx
  have Hy := Lib.hid hry
  clear hry
  have Hz := Lib.hid hrz
  clear hrz
  go_wp2_with fail
  clear Hh
  clear Hp
  clear Hx
  clear Hz
  have hrq := RdP.builtS w4 #[.int .i64 1, .int .i64 1, .string ⟨#[]⟩, .int .i64 2, .int .i64 0, .string ⟨#[98]⟩] [(1, 1, emp), (2, 0, ⟨#[98]⟩)] 2 rfl rfl (by decide) (by decide)
  have hbw5 := hbw4.alloc hbw4.size (.cells #[.int .i64 1, .int .i64 1, .string ⟨#[]⟩, .int .i64 2, .int .i64 0, .string ⟨#[98]⟩] 42)
  have Hl5 := Lib.hid (RdR.stepA Hl.out (.cells #[.int .i64 1, .int .i64 1, .string ⟨#[]⟩, .int .i64 2, .int .i64 0, .string ⟨#[98]⟩] 42))
  clear Hl
  have Hl := Hl5
  clear Hl5
  have Hm5 := Lib.hid (RdP.stepA Hm.out (.cells #[.int .i64 1, .int .i64 1, .string ⟨#[]⟩, .int .i64 2, .int .i64 0, .string ⟨#[98]⟩] 42))
  clear Hm
  have Hm := Hm5
  clear Hm5
  have Hy5 := Lib.hid (RdP.stepA Hy.out (.cells #[.int .i64 1, .int .i64 1, .string ⟨#[]⟩, .int .i64 2, .int .i64 0, .string ⟨#[98]⟩] 42))
  clear Hy
  have Hy := Hy5
  clear Hy5
  have Hq := Lib.hid hrq
  clear hrq
  refine (same_true [(1, 1, emp), (2, 0, ⟨#[98]⟩)] [(1, 1, emp), (2, 0, ⟨#[98]⟩)] Ay (some ⟨w4.heap.size, 0, none⟩) _ _ cy 2 _ _ _ Hy.out Hq.out rfl).mono ?_
  rintro e w6 ⟨rfl, hb6⟩
  have hbw6 := hbw5.trans (hb6.mono hbw5.size)
  have Hl6 := Lib.hid (RdR.step Hl.out hb6)
  clear Hl
  have Hl := Hl6
  clear Hl6
  have Hm6 := Lib.hid (RdP.step Hm.out hb6)
  clear Hm
  have Hm := Hm6
  clear Hm6
  have Hy6 := Lib.hid (RdP.step Hy.out hb6)
  clear Hy
  have Hy := Hy6
  clear Hy6
  have Hq6 := Lib.hid (RdP.step Hq.out hb6)
  clear Hq
  have Hq := Hq6
  clear Hq6
  clear hb6
  go_wp2_with fail
  clear Hy
  clear Hq
  have hc := catch_good base l mine A A' n c n' c' r w6 Hl.out Hm.out H1.out Dd (meetD Dd mine) (meetC Dd mine) HD.out rfl rfl
  refine (hc).mono ?_
  rintro e w7 ⟨Aa1, na1, ca1, Ab1, nb1, cb1, Ad1, nd1, cd1, rfl, hra1, hrb1, hrd1, hb7⟩
  have hbw7 := hbw6.trans (hb7.mono hbw6.size)
  have Hl7 := Lib.hid (RdR.step Hl.out hb7)
  clear Hl
  have Hl := Hl7
  clear Hl7
  have Hm7 := Lib.hid (RdP.step Hm.out hb7)
  clear Hm
  have Hm := Hm7
  clear Hm7
  clear hb7
  clear hc
  have Ha1 := Lib.hid hra1
  clear hra1
  have Hb1 := Lib.hid hrb1
  clear hrb1
  have Hd1 := Lib.hid hrd1
  clear hrd1
  go_wp2_with fail
  have hrest := Hl.out.rest r (by omega)
  rw [if_neg (by intro h; rw [h] at hcf; simp at hcf)] at hrest
  have Hrest := Lib.hid hrest
  clear hrest
  refine (plain_any (l.drop r) (Option.map (fun x : Addr => x.add (r * 3)) A) (n - r) (c - r) _ _ Hrest.out (Nat.le_refl _) _ H2.out).mono ?_
  rintro e w8 ⟨rfl, hb8⟩
  have hbw8 := hbw7.trans (hb8.mono hbw7.size)
  have Hl8 := Lib.hid (RdR.step Hl.out hb8)
  clear Hl
  have Hl := Hl8
  clear Hl8
  have Hm8 := Lib.hid (RdP.step Hm.out hb8)
  clear Hm
  have Hm := Hm8
  clear Hm8
  have Ha18 := Lib.hid (RdP.step Ha1.out hb8)
  clear Ha1
  have Ha1 := Ha18
  clear Ha18
  have Hb18 := Lib.hid (RdP.step Hb1.out hb8)
  clear Hb1
  have Hb1 := Hb18
  clear Hb18
  have Hd18 := Lib.hid (RdP.step Hd1.out hb8)
  clear Hd1
  have Hd1 := Hd18
  clear Hd18
  have Hrest8 := Lib.hid (RdR.step Hrest.out hb8)
  clear Hrest
  have Hrest := Hrest8
  clear Hrest8
  clear hb8
  go_wp2_with fail
  have hc := cuts_any mine A' n' c' _ w8 Hm.out (Nat.le_refl _)
  rw [H3.out] at hc
  refine (hc).mono ?_
  rintro e w9 ⟨rfl, hb9⟩
  have hbw9 := hbw8.trans (hb9.mono hbw8.size)
  have Hl9 := Lib.hid (RdR.step Hl.out hb9)
  clear Hl
  have Hl := Hl9
  clear Hl9
  have Hm9 := Lib.hid (RdP.step Hm.out hb9)
  clear Hm
  have Hm := Hm9
  clear Hm9
  have Ha19 := Lib.hid (RdP.step Ha1.out hb9)
  clear Ha1
  have Ha1 := Ha19
  clear Ha19
  have Hb19 := Lib.hid (RdP.step Hb1.out hb9)
  clear Hb1
  have Hb1 := Hb19
  clear Hb19
  have Hd19 := Lib.hid (RdP.step Hd1.out hb9)
  clear Hd1
  have Hd1 := Hd19
  clear Hd19
  have Hrest9 := Lib.hid (RdR.step Hrest.out hb9)
  clear Hrest
  have Hrest := Hrest9
  clear Hrest9
  clear hb9
  clear hc
  go_wp2_with fail
  go_ret
  exact ⟨rfl, hbw9⟩
theorem catchEach_okn (base : ByteArray) (l : List Rv) (mine : List Pt) (A A' : Option Addr) (n c n' c' : Nat) (r : Nat) (hs : base.size ≤ 140737488351232) (w : World) (h : RdR w w.heap.size A n c l) (h' : RdP w w.heap.size A' n' c' mine) (h1 : CaOk base l r mine) (hcr : c ≠ r) (h2 : anyCut (l.drop r).tail = false) (h3 : hasCut mine = false) :
    Calls Try.prog 5 #[.string base, .slice A n c, .int .i64 r, .slice A' n' c'] w fun e w' => e = .returned (.bool true) ∧ Below w.heap.size w w' := by
  have hbw0 : Below w.heap.size w w := Below.refl _ _
  have Hl := Lib.hid h
  clear h
  have Hm := Lib.hid h'
  clear h'
  have hce := catch_each (mine := mine) h3 (l.drop r) (txr_drop l base r (txE_parts h1.2.1).2.2) (txt_size l base r (txE_parts h1.2.1).1) (fun x hx => by
    have h4 := h2
    unfold anyCut at h4
    rw [List.any_eq_false] at h4
    simpa using h4 x hx) h1.2.2.1 (by
    have h5 := h1.2.2.2
    unfold btwL at h5
    rwa [List.take_of_length_le (by rw [List.length_drop]; omega)] at h5)
  have hbl : btwL base l r l.length = btw (allL (txt base l r).size) (l.drop r) := by
    unfold btwL
    rw [List.take_of_length_le (by rw [List.length_drop]; omega)]
  rw [← hbl] at hce
  have Hce := Lib.hid hce
  clear hce hbl
  have hn : n = l.length := Hl.out.1
  have Hn := Lib.hid hn
  have hcaps := Hl.out.caps
  have hrn : (r : Int) ≤ (n : Int) := by have := h1.1; omega
  have hr0 : (0 : Int) ≤ (r : Int) := by omega
  have hn64 : (n : Int) ≤ 64 := by have := (txE_parts h1.2.1).2.1; omega
  have hnc : (n : Int) ≤ (c : Int) := by omega
  have hrc : (r : Int) ≤ (c : Int) := by omega
  obtain ⟨Dd, hD⟩ : ∃ Dd, btwL base l r l.length = Dd := ⟨_, rfl⟩
  have HD := Lib.hid hD
  have H1 := Lib.hid h1
  clear h1 hn hD
  have H2 := Lib.hid h2
  clear h2
  have H3 := Lib.hid h3
  clear h3
  have hrest := Hl.out.rest r (by omega)
  rw [if_neg hcr] at hrest
  have hcf : (c = r) = False := by simp; exact hcr
  clear hcr
  clear hrest
  go_enter Try.func5, Try.ntmps5
  go_wp2_with fail
  refine (first_any ⟨#[97]⟩ (by decide) w).mono ?_
  rintro e w1 ⟨Af, rfl, hrf, hb1⟩
  have hbw1 := hbw0.trans (hb1.mono hbw0.size)
  have Hl1 := Lib.hid (RdR.step Hl.out hb1)
  clear Hl
  have Hl := Hl1
  clear Hl1
  have Hm1 := Lib.hid (RdP.step Hm.out hb1)
  clear Hm
  have Hm := Hm1
  clear Hm1
  clear hb1
  have Hf := Lib.hid hrf
  clear hrf
  go_wp2_with fail
  have hrh : RdR (w1.alloc (.cells #[.int .i64 1, .int .i64 1, .slice Af 1 1] 28)) (w1.alloc (.cells #[.int .i64 1, .int .i64 1, .slice Af 1 1] 28)).heap.size (some ⟨w1.heap.size, 0, none⟩) 1 1 [(1, 1, [(2, 0, ⟨#[97]⟩)])] := by
    have q := RdR.built1 w1 1 1 Af 1 1 [(2, 0, ⟨#[97]⟩)] Hf.out
    simpa only [World.size_alloc] using q
  have hbw2 := hbw1.alloc hbw1.size (.cells #[.int .i64 1, .int .i64 1, .slice Af 1 1] 28)
  have Hl2 := Lib.hid (RdR.stepA Hl.out (.cells #[.int .i64 1, .int .i64 1, .slice Af 1 1] 28))
  clear Hl
  have Hl := Hl2
  clear Hl2
  have Hm2 := Lib.hid (RdP.stepA Hm.out (.cells #[.int .i64 1, .int .i64 1, .slice Af 1 1] 28))
  clear Hm
  have Hm := Hm2
  clear Hm2
  have Hf2 := Lib.hid (RdP.stepA Hf.out (.cells #[.int .i64 1, .int .i64 1, .slice Af 1 1] 28))
  clear Hf
  have Hf := Hf2
  clear Hf2
  have Hh := Lib.hid hrh
  clear hrh
  clear Hf
  go_wp2_with fail
  have hc := put_any ⟨#[98]⟩ (by decide) (w1.alloc (.cells #[.int .i64 1, .int .i64 1, .slice Af 1 1] 28))
  refine (hc).mono ?_
  rintro e w3 ⟨Ap, rfl, hrp, hb3⟩
  have hbw3 := hbw2.trans (hb3.mono hbw2.size)
  have Hl3 := Lib.hid (RdR.step Hl.out hb3)
  clear Hl
  have Hl := Hl3
  clear Hl3
  have Hm3 := Lib.hid (RdP.step Hm.out hb3)
  clear Hm
  have Hm := Hm3
  clear Hm3
  have Hh3 := Lib.hid (RdR.step Hh.out hb3)
  clear Hh
  have Hh := Hh3
  clear Hh3
  clear hb3
  clear hc
  have Hp := Lib.hid hrp
  clear hrp
  go_wp2_with fail
  have hc := catch_good ⟨#[]⟩ [(1, 1, [(2, 0, ⟨#[97]⟩)])] [(2, 0, ⟨#[98]⟩)] (some ⟨w1.heap.size, 0, none⟩) Ap 1 1 1 1 0 w3 Hh.out Hp.out ⟨by decide, by decide, by decide, by decide⟩ [(2, 0, ⟨#[97]⟩)] [(1, 1, emp), (2, 0, ⟨#[98]⟩)] [(2, 0, ⟨#[97]⟩), (1, 1, emp)] (by decide) (by decide) (by decide)
  refine (hc).mono ?_
  rintro e w4 ⟨Ax, nx, cx, Ay, ny, cy, Az, nz, cz, rfl, hrx, hry, hrz, hb4⟩
  have hbw4 := hbw3.trans (hb4.mono hbw3.size)
  have Hl4 := Lib.hid (RdR.step Hl.out hb4)
  clear Hl
  have Hl := Hl4
  clear Hl4
  have Hm4 := Lib.hid (RdP.step Hm.out hb4)
  clear Hm
  have Hm := Hm4
  clear Hm4
  have Hh4 := Lib.hid (RdR.step Hh.out hb4)
  clear Hh
  have Hh := Hh4
  clear Hh4
  have Hp4 := Lib.hid (RdP.step Hp.out hb4)
  clear Hp
  have Hp := Hp4
  clear Hp4
  clear hb4
  clear hc
  have Hx := Lib.hid hrx
  clear hrx
  have Hy := Lib.hid hry
  clear hry
  have Hz := Lib.hid hrz
  clear hrz
  go_wp2_with fail
  clear Hh
  clear Hp
  clear Hx
  clear Hz
  have hrq := RdP.builtS w4 #[.int .i64 1, .int .i64 1, .string ⟨#[]⟩, .int .i64 2, .int .i64 0, .string ⟨#[98]⟩] [(1, 1, emp), (2, 0, ⟨#[98]⟩)] 2 rfl rfl (by decide) (by decide)
  have hbw5 := hbw4.alloc hbw4.size (.cells #[.int .i64 1, .int .i64 1, .string ⟨#[]⟩, .int .i64 2, .int .i64 0, .string ⟨#[98]⟩] 42)
  have Hl5 := Lib.hid (RdR.stepA Hl.out (.cells #[.int .i64 1, .int .i64 1, .string ⟨#[]⟩, .int .i64 2, .int .i64 0, .string ⟨#[98]⟩] 42))
  clear Hl
  have Hl := Hl5
  clear Hl5
  have Hm5 := Lib.hid (RdP.stepA Hm.out (.cells #[.int .i64 1, .int .i64 1, .string ⟨#[]⟩, .int .i64 2, .int .i64 0, .string ⟨#[98]⟩] 42))
  clear Hm
  have Hm := Hm5
  clear Hm5
  have Hy5 := Lib.hid (RdP.stepA Hy.out (.cells #[.int .i64 1, .int .i64 1, .string ⟨#[]⟩, .int .i64 2, .int .i64 0, .string ⟨#[98]⟩] 42))
  clear Hy
  have Hy := Hy5
  clear Hy5
  have Hq := Lib.hid hrq
  clear hrq
  refine (same_true [(1, 1, emp), (2, 0, ⟨#[98]⟩)] [(1, 1, emp), (2, 0, ⟨#[98]⟩)] Ay (some ⟨w4.heap.size, 0, none⟩) _ _ cy 2 _ _ _ Hy.out Hq.out rfl).mono ?_
  rintro e w6 ⟨rfl, hb6⟩
  have hbw6 := hbw5.trans (hb6.mono hbw5.size)
  have Hl6 := Lib.hid (RdR.step Hl.out hb6)
  clear Hl
  have Hl := Hl6
  clear Hl6
  have Hm6 := Lib.hid (RdP.step Hm.out hb6)
  clear Hm
  have Hm := Hm6
  clear Hm6
  have Hy6 := Lib.hid (RdP.step Hy.out hb6)
  clear Hy
  have Hy := Hy6
  clear Hy6
  have Hq6 := Lib.hid (RdP.step Hq.out hb6)
  clear Hq
  have Hq := Hq6
  clear Hq6
  clear hb6
  go_wp2_with fail
  clear Hy
  clear Hq
  have hc := catch_good base l mine A A' n c n' c' r w6 Hl.out Hm.out H1.out Dd (meetD Dd mine) (meetC Dd mine) HD.out rfl rfl
  refine (hc).mono ?_
  rintro e w7 ⟨Aa1, na1, ca1, Ab1, nb1, cb1, Ad1, nd1, cd1, rfl, hra1, hrb1, hrd1, hb7⟩
  have hbw7 := hbw6.trans (hb7.mono hbw6.size)
  have Hl7 := Lib.hid (RdR.step Hl.out hb7)
  clear Hl
  have Hl := Hl7
  clear Hl7
  have Hm7 := Lib.hid (RdP.step Hm.out hb7)
  clear Hm
  have Hm := Hm7
  clear Hm7
  clear hb7
  clear hc
  have Ha1 := Lib.hid hra1
  clear hra1
  have Hb1 := Lib.hid hrb1
  clear hrb1
  have Hd1 := Lib.hid hrd1
  clear hrd1
  go_wp2_with fail
  have hrest := Hl.out.rest r (by omega)
  rw [if_neg (by intro h; rw [h] at hcf; simp at hcf)] at hrest
  have Hrest := Lib.hid hrest
  clear hrest
  refine (plain_any (l.drop r) (Option.map (fun x : Addr => x.add (r * 3)) A) (n - r) (c - r) _ _ Hrest.out (Nat.le_refl _) _ H2.out).mono ?_
  rintro e w8 ⟨rfl, hb8⟩
  have hbw8 := hbw7.trans (hb8.mono hbw7.size)
  have Hl8 := Lib.hid (RdR.step Hl.out hb8)
  clear Hl
  have Hl := Hl8
  clear Hl8
  have Hm8 := Lib.hid (RdP.step Hm.out hb8)
  clear Hm
  have Hm := Hm8
  clear Hm8
  have Ha18 := Lib.hid (RdP.step Ha1.out hb8)
  clear Ha1
  have Ha1 := Ha18
  clear Ha18
  have Hb18 := Lib.hid (RdP.step Hb1.out hb8)
  clear Hb1
  have Hb1 := Hb18
  clear Hb18
  have Hd18 := Lib.hid (RdP.step Hd1.out hb8)
  clear Hd1
  have Hd1 := Hd18
  clear Hd18
  have Hrest8 := Lib.hid (RdR.step Hrest.out hb8)
  clear Hrest
  have Hrest := Hrest8
  clear Hrest8
  clear hb8
  go_wp2_with fail
  have hc := cuts_any mine A' n' c' _ w8 Hm.out (Nat.le_refl _)
  rw [H3.out] at hc
  refine (hc).mono ?_
  rintro e w9 ⟨rfl, hb9⟩
  have hbw9 := hbw8.trans (hb9.mono hbw8.size)
  have Hl9 := Lib.hid (RdR.step Hl.out hb9)
  clear Hl
  have Hl := Hl9
  clear Hl9
  have Hm9 := Lib.hid (RdP.step Hm.out hb9)
  clear Hm
  have Hm := Hm9
  clear Hm9
  have Ha19 := Lib.hid (RdP.step Ha1.out hb9)
  clear Ha1
  have Ha1 := Ha19
  clear Ha19
  have Hb19 := Lib.hid (RdP.step Hb1.out hb9)
  clear Hb1
  have Hb1 := Hb19
  clear Hb19
  have Hd19 := Lib.hid (RdP.step Hd1.out hb9)
  clear Hd1
  have Hd1 := Hd19
  clear Hd19
  have Hrest9 := Lib.hid (RdR.step Hrest.out hb9)
  clear Hrest
  have Hrest := Hrest9
  clear Hrest9
  clear hb9
  clear hc
  go_wp2_with fail
  obtain ⟨N, hN⟩ : ∃ N, n - r = N := ⟨_, rfl⟩
  rw [hN] at Hrest ⊢
  have hN64 : (N : Int) ≤ 64 := by omega
  have hNr : (n : Int) - (r : Int) = (N : Int) := by omega
  have hbc : Below w.heap.size w w9 := hbw9
  go_loopw [16, 17, 19, 74] (fun ev ov pv iv wr => ∃ (j : Nat) (A1 : Option Addr) (n1 c1 : Nat) (t : List Pt), j ≤ N ∧ iv = .int .i64 j ∧ ov = .slice A1 n1 c1 ∧ Hid (RdP wr wr.heap.size A1 n1 c1 t) ∧ Hid (mtE t ((l.drop r).drop j) = 0 ∧ mtL t ((l.drop r).drop j) = meetD Dd mine) ∧ Below w9.heap.size w9 wr) (fun _ _ _ i _ => N - (intOf i).toNat)
  case atStart => exact ⟨0, _, _, _, mine, by omega, rfl, rfl, Hm, Lib.hid (by rw [List.drop_zero]; have := Hce.out; rwa [HD.out] at this), Below.refl _ _⟩
  case round =>
    obtain ⟨j, A1, n1, c1, t, hj, rfl, rfl, hrt, hst, hbwr⟩ := hrel
    have hwr := hbc.trans (hbwr.mono hbc.size)
    by_cases hlt : j < N
    · have hkl : j < (l.drop r).length := by have := Hrest.out.1; omega
      obtain ⟨b4, o4, A4, n4, c4, e4, hb4, d0, d1, d2, hrd⟩ := (Hrest.out.below hbwr).at_ j hlt
      rw [e4]
      have hdr : (l.drop r).drop j = (l.drop r)[j] :: (l.drop r).drop (j + 1) := List.drop_eq_getElem_cons hkl
      rw [hdr] at hst
      have hstep := Lib.hid (mt_step (E := 0) (R := meetD Dd mine) ⟨hst.out.1, fun _ => hst.out.2⟩)
      have hst2 := hst.out.1
      obtain ⟨x, hx⟩ : ∃ x, x = (l.drop r)[j] := ⟨_, rfl⟩
      rw [← hx] at hst2 hstep d0 d1 hrd
      clear hx hdr hst
      obtain ⟨ra, rb, d⟩ := x
      simp only at d0 d1 d2 hrd hstep
      have hz : meetE d t = 0 := by
        simp only [mtE] at hst2
        split at hst2
        · assumption
        · omega
      have hj0 : (0 : Int) ≤ (j : Int) := by omega
      have hjn : (j : Int) < (N : Int) := by omega
      have hwb := hbwr.size
      have hgl : b4 < wr.heap.size := by omega
      have hw4 := hwr.alloc hwr.size (.cells #[.int .i64 ra, .int .i64 rb, .slice A4 n4 c4] 28)
      have hv4 := hbwr.alloc hbwr.size (.cells #[.int .i64 ra, .int .i64 rb, .slice A4 n4 c4] 28)
      have hrd' := (hrd.more hwb).stepA (.cells #[.int .i64 ra, .int .i64 rb, .slice A4 n4 c4] 28)
      have hrt' := hrt.out.stepA (.cells #[.int .i64 ra, .int .i64 rb, .slice A4 n4 c4] 28)
      have hcall := meet_rdm d t A4 A1 n4 n1 c4 c1 _ hrd' hrt' 0 _ _ hz rfl rfl
      have Hcall := Lib.hid hcall
      have Hnx := Lib.hid (hstep.out.2 hz)
      clear hrd hrd' hrt' hcall hz hst2 hstep
      go_wp2_with fail
      refine Hcall.out.mono ?_
      rintro e w5 ⟨A5, n5, c5, A6, n6, c6, rfl, hr5, hr6, hb5⟩
      have hv5 := hv4.trans (hb5.mono hv4.size)
      have Hr6 := Lib.hid hr6
      clear hr5 hr6 hb5
      go_wp2_with fail
      go_roundw
      case rel => exact ⟨j + 1, _, _, _, _, by omega, by go_num, rfl, Hr6, Lib.hid ⟨Hnx.out.1, Hnx.out.2 trivial⟩, hv5⟩
      case measure => simp [intOf]; omega
    · have hjn : decide (j < N) = false := by simpa using hlt
      obtain rfl : j = N := by omega
      have h1 := hst.out.2
      rw [List.drop_eq_nil_of_le (by have := Hrest.out.1; omega)] at h1
      have Hfin := Lib.hid (show t = meetD Dd mine from h1)
      have Hb2 := Lib.hid ((Hb1.out.below hbwr).more hbwr.size)
      clear hst h1
      go_wp2_with fail
      refine (same_true (meetD Dd mine) t Ab1 A1 _ _ cb1 c1 _ _ _ Hb2.out hrt.out Hfin.out.symm).mono ?_
      rintro e wf ⟨rfl, hbf⟩
      have hbwf := hwr.trans (hbf.mono hwr.size)
      go_wp2_with fail
      go_ret
      exact ⟨rfl, hbwf⟩
theorem walk_CatchEach (base : ByteArray) (hs : base.size ≤ 140737488351232) (v : Value) (l : List Rv) (r : Int) (wr : (Lit.int .i64 r).wf = true) (v' : Value) (mine : List Pt) (w : World) (hx : IsRevs w v l) (hx' : IsParts w v' mine) :
    Calls Try.prog 5 #[.string base, v, .int .i64 r, v'] w fun e w' => e = .returned (.bool true) ∧ Below w.heap.size w w' := by
  obtain ⟨A, n, c, rfl, h⟩ := hx
  obtain ⟨A', n', c', rfl, h'⟩ := hx'
  rcases ca_cases base l r mine with ⟨E, he⟩ | ⟨k, rfl, hk⟩
  · exact catchEach_err base l mine A A' n c n' c' r hs w h h' E he
  · by_cases hcr : c = k
    · cases h2 : anyCut (l.drop k).tail with
      | true => exact catchEach_cute base l mine A A' n c n' c' k hs w h h' hk hcr h2
      | false =>
        cases h3 : hasCut mine with
        | true => exact catchEach_minee base l mine A A' n c n' c' k hs w h h' hk hcr h2 h3
        | false => exact catchEach_oke base l mine A A' n c n' c' k hs w h h' hk hcr h2 h3
    · cases h2 : anyCut (l.drop k).tail with
      | true => exact catchEach_cutn base l mine A A' n c n' c' k hs w h h' hk hcr h2
      | false =>
        cases h3 : hasCut mine with
        | true => exact catchEach_minen base l mine A A' n c n' c' k hs w h h' hk hcr h2 h3
        | false => exact catchEach_okn base l mine A A' n c n' c' k hs w h h' hk hcr h2 h3
end Go.Proofs.Ytchnbmdfpgkefaa
