/- PartOnce: the walk. A delta is as Norm has it. -/
import Derived.Test.YtbgaoehpljnolaaNorm
import Derived.Test.YtbgaoehpljnolaaRefIn
import Derived.Test.YtbgaoehpljnolaaSame
import Derived.Test.YtbgaoehpljnolaaOpenParts
namespace Go.Proofs.Ytbgaoehpljnolaa
open Go.ChangeShapes Go.WideShapes Go.RowKit
set_option linter.unusedVariables false
set_option linter.unusedSimpArgs false
set_option maxRecDepth 100000
set_option maxHeartbeats 4000000


theorem once_e : normE [(3, 1, emp), (2, 0, ⟨#[97]⟩), (1, 0, emp), (3, 2, emp)] = 0 := by decide
theorem once_l : normL [(3, 1, emp), (2, 0, ⟨#[97]⟩), (1, 0, emp), (3, 2, emp)] = [(2, 0, ⟨#[97]⟩), (3, 3, emp)] := by decide
theorem texts_norm (l : List Pt) : ∀ p ∈ normL l, p.2.2.size ≤ 140737488351232 := by
  by_cases h : normE l = 0
  · exact text_good (norm_chk h).1
  · rw [norm_err h]; simp
theorem norm_rd (l : List Pt) (A : Option Addr) (n c B : Nat) (w : World) (h : RdP w B A n c l) (hB : B ≤ w.heap.size) :
    Calls Try.prog 35 #[.slice A n c] w fun e w' => ∃ A c, e = .returned (.tuple #[.slice A (normL l).length c, .int .i64 (normE l)]) ∧ RdP w' w'.heap.size A (normL l).length c (normL l) ∧ Below w.heap.size w w' :=
  (norm_any l A n c B w h hB).mono fun e w' h => h.rd (texts_norm l)

theorem partOnce_good (l : List Pt) (A : Option Addr) (n c : Nat) (w : World) (h : RdP w w.heap.size A n c l) (hk : chk l = 0) :
    Calls Try.prog 9 #[.slice A n c] w fun e w' => e = .returned (.bool true) ∧ Below w.heap.size w w' := by
  have hbw0 : Below w.heap.size w w := Below.refl _ _
  have Hl := Lib.hid h
  clear h
  have he := (norm_good hk).1
  have HL := Lib.hid (norm_good hk).2
  have Hk := Lib.hid hk
  have He := Lib.hid he
  clear hk he
  go_enter Try.func9, Try.ntmps9
  have hr := RdP.built w #[.int .i64 3, .int .i64 1, .string ⟨#[]⟩, .int .i64 2, .int .i64 0, .string ⟨#[97]⟩, .int .i64 1, .int .i64 0, .string ⟨#[]⟩, .int .i64 3, .int .i64 2, .string ⟨#[]⟩] [(3, 1, emp), (2, 0, ⟨#[97]⟩), (1, 0, emp), (3, 2, emp)] 4 rfl rfl (by decide) (by decide)
  have hbw1 := hbw0.alloc hbw0.size (.cells #[.int .i64 3, .int .i64 1, .string ⟨#[]⟩, .int .i64 2, .int .i64 0, .string ⟨#[97]⟩, .int .i64 1, .int .i64 0, .string ⟨#[]⟩, .int .i64 3, .int .i64 2, .string ⟨#[]⟩] 59)
  have Hl1 := Lib.hid (RdP.stepA Hl.out (.cells #[.int .i64 3, .int .i64 1, .string ⟨#[]⟩, .int .i64 2, .int .i64 0, .string ⟨#[97]⟩, .int .i64 1, .int .i64 0, .string ⟨#[]⟩, .int .i64 3, .int .i64 2, .string ⟨#[]⟩] 59))
  clear Hl
  have Hl := Hl1
  clear Hl1
  have Hq := Lib.hid hr
  clear hr
  go_wp2_with fail
  have hc := norm_rd [(3, 1, emp), (2, 0, ⟨#[97]⟩), (1, 0, emp), (3, 2, emp)] _ 4 4 _ _ Hq.out (by simp)
  rw [once_e, once_l] at hc
  clear Hq
  refine (hc).mono ?_
  rintro e w2 ⟨A1, c1, rfl, hr1, hb2⟩
  have hbw2 := hbw1.trans (hb2.mono hbw1.size)
  have Hl2 := Lib.hid (RdP.step Hl.out hb2)
  clear Hl
  have Hl := Hl2
  clear Hl2
  clear hb2
  clear hc
  have Ha := Lib.hid hr1
  clear hr1
  have hr := RdP.built w2 #[.int .i64 2, .int .i64 0, .string ⟨#[97]⟩, .int .i64 3, .int .i64 3, .string ⟨#[]⟩] [(2, 0, ⟨#[97]⟩), (3, 3, emp)] 2 rfl rfl (by decide) (by decide)
  have Hq := Lib.hid hr
  clear hr
  go_wp2_with fail
  have hbw3 := hbw2.alloc hbw2.size (.cells #[.int .i64 2, .int .i64 0, .string ⟨#[97]⟩, .int .i64 3, .int .i64 3, .string ⟨#[]⟩] 59)
  have Hl3 := Lib.hid (RdP.stepA Hl.out (.cells #[.int .i64 2, .int .i64 0, .string ⟨#[97]⟩, .int .i64 3, .int .i64 3, .string ⟨#[]⟩] 59))
  clear Hl
  have Hl := Hl3
  clear Hl3
  have Ha3 := Lib.hid (RdP.stepA Ha.out (.cells #[.int .i64 2, .int .i64 0, .string ⟨#[97]⟩, .int .i64 3, .int .i64 3, .string ⟨#[]⟩] 59))
  clear Ha
  have Ha := Ha3
  clear Ha3
  refine (same_true [(2, 0, ⟨#[97]⟩), (3, 3, emp)] [(2, 0, ⟨#[97]⟩), (3, 3, emp)] A1 _ _ 2 c1 2 _ _ _ Ha.out Hq.out rfl).mono ?_
  rintro e w4 ⟨rfl, hb4⟩
  have hbw4 := hbw3.trans (hb4.mono hbw3.size)
  have Hl4 := Lib.hid (RdP.step Hl.out hb4)
  clear Hl
  have Hl := Hl4
  clear Hl4
  have Ha4 := Lib.hid (RdP.step Ha.out hb4)
  clear Ha
  have Ha := Ha4
  clear Ha4
  clear hb4
  clear Hq
  clear Ha
  go_wp2_with fail
  have hc := norm_rd l A n c _ _ Hl.out (Nat.le_refl _)
  rw [He.out] at hc
  rw [HL.out] at hc
  refine (hc).mono ?_
  rintro e w5 ⟨A2, c2, rfl, hr2, hb5⟩
  have hbw5 := hbw4.trans (hb5.mono hbw4.size)
  have Hl5 := Lib.hid (RdP.step Hl.out hb5)
  clear Hl
  have Hl := Hl5
  clear Hl5
  clear hb5
  clear hc
  have Hd := Lib.hid hr2
  clear hr2
  go_wp2_with fail
  refine (chk_any l A n c _ _ Hl.out (Nat.le_refl _)).mono ?_
  rintro e w6 ⟨rfl, hb6⟩
  have hbw6 := hbw5.trans (hb6.mono hbw5.size)
  have Hl6 := Lib.hid (RdP.step Hl.out hb6)
  clear Hl
  have Hl := Hl6
  clear Hl6
  have Hd6 := Lib.hid (RdP.step Hd.out hb6)
  clear Hd
  have Hd := Hd6
  clear Hd6
  clear hb6
  rw [Hk.out]
  go_wp2_with fail
  refine (same_true l l A2 A _ n c2 c _ _ _ Hd.out Hl.out rfl).mono ?_
  rintro e w7 ⟨rfl, hb7⟩
  have hbw7 := hbw6.trans (hb7.mono hbw6.size)
  have Hl7 := Lib.hid (RdP.step Hl.out hb7)
  clear Hl
  have Hl := Hl7
  clear Hl7
  have Hd7 := Lib.hid (RdP.step Hd.out hb7)
  clear Hd
  have Hd := Hd7
  clear Hd7
  clear hb7
  go_wp2_with fail
  have Hdk := Hk
  refine (psizes_good l A2 _ c2 _ _ Hd.out (Nat.le_refl _) Hdk.out).mono ?_
  rintro e w8 ⟨rfl, hb8⟩
  have hbw8 := hbw7.trans (hb8.mono hbw7.size)
  have Hl8 := Lib.hid (RdP.step Hl.out hb8)
  clear Hl
  have Hl := Hl8
  clear Hl8
  have Hd8 := Lib.hid (RdP.step Hd.out hb8)
  clear Hd
  have Hd := Hd8
  clear Hd8
  clear hb8
  go_wp2_with fail
  have hc := norm_rd l A2 _ c2 _ _ Hd.out (Nat.le_refl _)
  rw [(norm_good Hdk.out).1, (norm_good Hdk.out).2] at hc
  refine (hc).mono ?_
  rintro e w9 ⟨A3, c3, rfl, hr3, hb9⟩
  have hbw9 := hbw8.trans (hb9.mono hbw8.size)
  have Hl9 := Lib.hid (RdP.step Hl.out hb9)
  clear Hl
  have Hl := Hl9
  clear Hl9
  have Hd9 := Lib.hid (RdP.step Hd.out hb9)
  clear Hd
  have Hd := Hd9
  clear Hd9
  clear hb9
  clear hc
  have Hx := Lib.hid hr3
  clear hr3
  go_wp2_with fail
  refine (same_true l l A3 A2 _ _ c3 c2 _ _ _ Hx.out Hd.out rfl).mono ?_
  rintro e w10 ⟨rfl, hb10⟩
  have hbw10 := hbw9.trans (hb10.mono hbw9.size)
  have Hl10 := Lib.hid (RdP.step Hl.out hb10)
  clear Hl
  have Hl := Hl10
  clear Hl10
  have Hd10 := Lib.hid (RdP.step Hd.out hb10)
  clear Hd
  have Hd := Hd10
  clear Hd10
  have Hx10 := Lib.hid (RdP.step Hx.out hb10)
  clear Hx
  have Hx := Hx10
  clear Hx10
  clear hb10
  go_wp2_with fail
  have Hnk := Lib.hid (norm_chk He.out)
  have hn : (n : Int) ≤ 2000 := by have := Hnk.out.2.2.2; have := Hl.out.1; omega
  have hc := in_any l A n c _ _ Hl.out (Nat.le_refl _) hn Hnk.out.2.2.1
  clear hn
  refine (hc).mono ?_
  rintro e w11 ⟨rfl, hb11⟩
  have hbw11 := hbw10.trans (hb11.mono hbw10.size)
  have Hl11 := Lib.hid (RdP.step Hl.out hb11)
  clear Hl
  have Hl := Hl11
  clear Hl11
  have Hd11 := Lib.hid (RdP.step Hd.out hb11)
  clear Hd
  have Hd := Hd11
  clear Hd11
  have Hx11 := Lib.hid (RdP.step Hx.out hb11)
  clear Hx
  have Hx := Hx11
  clear Hx11
  clear hb11
  clear hc
  go_wp2_with fail
  go_ret
  exact ⟨rfl, hbw11⟩
theorem partOnce_ok (l : List Pt) (A : Option Addr) (n c : Nat) (w : World) (h : RdP w w.heap.size A n c l) (hk : chk l ≠ 0) (he : normE l = 0) :
    Calls Try.prog 9 #[.slice A n c] w fun e w' => e = .returned (.bool true) ∧ Below w.heap.size w w' := by
  have hbw0 : Below w.heap.size w w := Below.refl _ _
  have Hl := Lib.hid h
  clear h
  have hne : (chk l == 0) = false := by simpa using hk
  have Hk := Lib.hid hk
  have He := Lib.hid he
  clear hk he
  go_enter Try.func9, Try.ntmps9
  have hr := RdP.built w #[.int .i64 3, .int .i64 1, .string ⟨#[]⟩, .int .i64 2, .int .i64 0, .string ⟨#[97]⟩, .int .i64 1, .int .i64 0, .string ⟨#[]⟩, .int .i64 3, .int .i64 2, .string ⟨#[]⟩] [(3, 1, emp), (2, 0, ⟨#[97]⟩), (1, 0, emp), (3, 2, emp)] 4 rfl rfl (by decide) (by decide)
  have hbw1 := hbw0.alloc hbw0.size (.cells #[.int .i64 3, .int .i64 1, .string ⟨#[]⟩, .int .i64 2, .int .i64 0, .string ⟨#[97]⟩, .int .i64 1, .int .i64 0, .string ⟨#[]⟩, .int .i64 3, .int .i64 2, .string ⟨#[]⟩] 59)
  have Hl1 := Lib.hid (RdP.stepA Hl.out (.cells #[.int .i64 3, .int .i64 1, .string ⟨#[]⟩, .int .i64 2, .int .i64 0, .string ⟨#[97]⟩, .int .i64 1, .int .i64 0, .string ⟨#[]⟩, .int .i64 3, .int .i64 2, .string ⟨#[]⟩] 59))
  clear Hl
  have Hl := Hl1
  clear Hl1
  have Hq := Lib.hid hr
  clear hr
  go_wp2_with fail
  have hc := norm_rd [(3, 1, emp), (2, 0, ⟨#[97]⟩), (1, 0, emp), (3, 2, emp)] _ 4 4 _ _ Hq.out (by simp)
  rw [once_e, once_l] at hc
  clear Hq
  refine (hc).mono ?_
  rintro e w2 ⟨A1, c1, rfl, hr1, hb2⟩
  have hbw2 := hbw1.trans (hb2.mono hbw1.size)
  have Hl2 := Lib.hid (RdP.step Hl.out hb2)
  clear Hl
  have Hl := Hl2
  clear Hl2
  clear hb2
  clear hc
  have Ha := Lib.hid hr1
  clear hr1
  have hr := RdP.built w2 #[.int .i64 2, .int .i64 0, .string ⟨#[97]⟩, .int .i64 3, .int .i64 3, .string ⟨#[]⟩] [(2, 0, ⟨#[97]⟩), (3, 3, emp)] 2 rfl rfl (by decide) (by decide)
  have Hq := Lib.hid hr
  clear hr
  go_wp2_with fail
  have hbw3 := hbw2.alloc hbw2.size (.cells #[.int .i64 2, .int .i64 0, .string ⟨#[97]⟩, .int .i64 3, .int .i64 3, .string ⟨#[]⟩] 59)
  have Hl3 := Lib.hid (RdP.stepA Hl.out (.cells #[.int .i64 2, .int .i64 0, .string ⟨#[97]⟩, .int .i64 3, .int .i64 3, .string ⟨#[]⟩] 59))
  clear Hl
  have Hl := Hl3
  clear Hl3
  have Ha3 := Lib.hid (RdP.stepA Ha.out (.cells #[.int .i64 2, .int .i64 0, .string ⟨#[97]⟩, .int .i64 3, .int .i64 3, .string ⟨#[]⟩] 59))
  clear Ha
  have Ha := Ha3
  clear Ha3
  refine (same_true [(2, 0, ⟨#[97]⟩), (3, 3, emp)] [(2, 0, ⟨#[97]⟩), (3, 3, emp)] A1 _ _ 2 c1 2 _ _ _ Ha.out Hq.out rfl).mono ?_
  rintro e w4 ⟨rfl, hb4⟩
  have hbw4 := hbw3.trans (hb4.mono hbw3.size)
  have Hl4 := Lib.hid (RdP.step Hl.out hb4)
  clear Hl
  have Hl := Hl4
  clear Hl4
  have Ha4 := Lib.hid (RdP.step Ha.out hb4)
  clear Ha
  have Ha := Ha4
  clear Ha4
  clear hb4
  clear Hq
  clear Ha
  go_wp2_with fail
  have hc := norm_rd l A n c _ _ Hl.out (Nat.le_refl _)
  rw [He.out] at hc
  refine (hc).mono ?_
  rintro e w5 ⟨A2, c2, rfl, hr2, hb5⟩
  have hbw5 := hbw4.trans (hb5.mono hbw4.size)
  have Hl5 := Lib.hid (RdP.step Hl.out hb5)
  clear Hl
  have Hl := Hl5
  clear Hl5
  clear hb5
  clear hc
  have Hd := Lib.hid hr2
  clear hr2
  go_wp2_with fail
  refine (chk_any l A n c _ _ Hl.out (Nat.le_refl _)).mono ?_
  rintro e w6 ⟨rfl, hb6⟩
  have hbw6 := hbw5.trans (hb6.mono hbw5.size)
  have Hl6 := Lib.hid (RdP.step Hl.out hb6)
  clear Hl
  have Hl := Hl6
  clear Hl6
  have Hd6 := Lib.hid (RdP.step Hd.out hb6)
  clear Hd
  have Hd := Hd6
  clear Hd6
  clear hb6
  go_wp2_with fail
  have Hdk := Lib.hid (norm_chk He.out).1
  refine (psizes_good (normL l) A2 _ c2 _ _ Hd.out (Nat.le_refl _) Hdk.out).mono ?_
  rintro e w7 ⟨rfl, hb7⟩
  have hbw7 := hbw6.trans (hb7.mono hbw6.size)
  have Hl7 := Lib.hid (RdP.step Hl.out hb7)
  clear Hl
  have Hl := Hl7
  clear Hl7
  have Hd7 := Lib.hid (RdP.step Hd.out hb7)
  clear Hd
  have Hd := Hd7
  clear Hd7
  clear hb7
  go_wp2_with fail
  have hc := norm_rd (normL l) A2 _ c2 _ _ Hd.out (Nat.le_refl _)
  rw [(norm_good Hdk.out).1, (norm_good Hdk.out).2] at hc
  refine (hc).mono ?_
  rintro e w8 ⟨A3, c3, rfl, hr3, hb8⟩
  have hbw8 := hbw7.trans (hb8.mono hbw7.size)
  have Hl8 := Lib.hid (RdP.step Hl.out hb8)
  clear Hl
  have Hl := Hl8
  clear Hl8
  have Hd8 := Lib.hid (RdP.step Hd.out hb8)
  clear Hd
  have Hd := Hd8
  clear Hd8
  clear hb8
  clear hc
  have Hx := Lib.hid hr3
  clear hr3
  go_wp2_with fail
  refine (same_true (normL l) (normL l) A3 A2 _ _ c3 c2 _ _ _ Hx.out Hd.out rfl).mono ?_
  rintro e w9 ⟨rfl, hb9⟩
  have hbw9 := hbw8.trans (hb9.mono hbw8.size)
  have Hl9 := Lib.hid (RdP.step Hl.out hb9)
  clear Hl
  have Hl := Hl9
  clear Hl9
  have Hd9 := Lib.hid (RdP.step Hd.out hb9)
  clear Hd
  have Hd := Hd9
  clear Hd9
  have Hx9 := Lib.hid (RdP.step Hx.out hb9)
  clear Hx
  have Hx := Hx9
  clear Hx9
  clear hb9
  go_wp2_with fail
  have Hnk := Lib.hid (norm_chk He.out)
  have hn : (n : Int) ≤ 2000 := by have := Hnk.out.2.2.2; have := Hl.out.1; omega
  have hc := in_any l A n c _ _ Hl.out (Nat.le_refl _) hn Hnk.out.2.2.1
  rw [show nI (units l) = nI (units (normL l)) from by rw [Hnk.out.2.1, units_grp, nI_cz]] at hc
  clear hn
  refine (hc).mono ?_
  rintro e w10 ⟨rfl, hb10⟩
  have hbw10 := hbw9.trans (hb10.mono hbw9.size)
  have Hl10 := Lib.hid (RdP.step Hl.out hb10)
  clear Hl
  have Hl := Hl10
  clear Hl10
  have Hd10 := Lib.hid (RdP.step Hd.out hb10)
  clear Hd
  have Hd := Hd10
  clear Hd10
  have Hx10 := Lib.hid (RdP.step Hx.out hb10)
  clear Hx
  have Hx := Hx10
  clear Hx10
  clear hb10
  clear hc
  go_wp2_with fail
  go_ret
  exact ⟨rfl, hbw10⟩
theorem partOnce_err (l : List Pt) (A : Option Addr) (n c : Nat) (w : World) (h : RdP w w.heap.size A n c l) (hk : chk l ≠ 0) (he : normE l ≠ 0) :
    Calls Try.prog 9 #[.slice A n c] w fun e w' => e = .returned (.bool true) ∧ Below w.heap.size w w' := by
  have hbw0 : Below w.heap.size w w := Below.refl _ _
  have Hl := Lib.hid h
  clear h
  have hne : (chk l == 0) = false := by simpa using hk
  have hne2 : (normE l != 0) = true := by simpa using he
  have Hk := Lib.hid hk
  have He := Lib.hid he
  clear hk he
  go_enter Try.func9, Try.ntmps9
  have hr := RdP.built w #[.int .i64 3, .int .i64 1, .string ⟨#[]⟩, .int .i64 2, .int .i64 0, .string ⟨#[97]⟩, .int .i64 1, .int .i64 0, .string ⟨#[]⟩, .int .i64 3, .int .i64 2, .string ⟨#[]⟩] [(3, 1, emp), (2, 0, ⟨#[97]⟩), (1, 0, emp), (3, 2, emp)] 4 rfl rfl (by decide) (by decide)
  have hbw1 := hbw0.alloc hbw0.size (.cells #[.int .i64 3, .int .i64 1, .string ⟨#[]⟩, .int .i64 2, .int .i64 0, .string ⟨#[97]⟩, .int .i64 1, .int .i64 0, .string ⟨#[]⟩, .int .i64 3, .int .i64 2, .string ⟨#[]⟩] 59)
  have Hl1 := Lib.hid (RdP.stepA Hl.out (.cells #[.int .i64 3, .int .i64 1, .string ⟨#[]⟩, .int .i64 2, .int .i64 0, .string ⟨#[97]⟩, .int .i64 1, .int .i64 0, .string ⟨#[]⟩, .int .i64 3, .int .i64 2, .string ⟨#[]⟩] 59))
  clear Hl
  have Hl := Hl1
  clear Hl1
  have Hq := Lib.hid hr
  clear hr
  go_wp2_with fail
  have hc := norm_rd [(3, 1, emp), (2, 0, ⟨#[97]⟩), (1, 0, emp), (3, 2, emp)] _ 4 4 _ _ Hq.out (by simp)
  rw [once_e, once_l] at hc
  clear Hq
  refine (hc).mono ?_
  rintro e w2 ⟨A1, c1, rfl, hr1, hb2⟩
  have hbw2 := hbw1.trans (hb2.mono hbw1.size)
  have Hl2 := Lib.hid (RdP.step Hl.out hb2)
  clear Hl
  have Hl := Hl2
  clear Hl2
  clear hb2
  clear hc
  have Ha := Lib.hid hr1
  clear hr1
  have hr := RdP.built w2 #[.int .i64 2, .int .i64 0, .string ⟨#[97]⟩, .int .i64 3, .int .i64 3, .string ⟨#[]⟩] [(2, 0, ⟨#[97]⟩), (3, 3, emp)] 2 rfl rfl (by decide) (by decide)
  have Hq := Lib.hid hr
  clear hr
  go_wp2_with fail
  have hbw3 := hbw2.alloc hbw2.size (.cells #[.int .i64 2, .int .i64 0, .string ⟨#[97]⟩, .int .i64 3, .int .i64 3, .string ⟨#[]⟩] 59)
  have Hl3 := Lib.hid (RdP.stepA Hl.out (.cells #[.int .i64 2, .int .i64 0, .string ⟨#[97]⟩, .int .i64 3, .int .i64 3, .string ⟨#[]⟩] 59))
  clear Hl
  have Hl := Hl3
  clear Hl3
  have Ha3 := Lib.hid (RdP.stepA Ha.out (.cells #[.int .i64 2, .int .i64 0, .string ⟨#[97]⟩, .int .i64 3, .int .i64 3, .string ⟨#[]⟩] 59))
  clear Ha
  have Ha := Ha3
  clear Ha3
  refine (same_true [(2, 0, ⟨#[97]⟩), (3, 3, emp)] [(2, 0, ⟨#[97]⟩), (3, 3, emp)] A1 _ _ 2 c1 2 _ _ _ Ha.out Hq.out rfl).mono ?_
  rintro e w4 ⟨rfl, hb4⟩
  have hbw4 := hbw3.trans (hb4.mono hbw3.size)
  have Hl4 := Lib.hid (RdP.step Hl.out hb4)
  clear Hl
  have Hl := Hl4
  clear Hl4
  have Ha4 := Lib.hid (RdP.step Ha.out hb4)
  clear Ha
  have Ha := Ha4
  clear Ha4
  clear hb4
  clear Hq
  clear Ha
  go_wp2_with fail
  have hc := norm_rd l A n c _ _ Hl.out (Nat.le_refl _)
  rw [norm_err He.out] at hc
  refine (hc).mono ?_
  rintro e w5 ⟨A2, c2, rfl, hr2, hb5⟩
  have hbw5 := hbw4.trans (hb5.mono hbw4.size)
  have Hl5 := Lib.hid (RdP.step Hl.out hb5)
  clear Hl
  have Hl := Hl5
  clear Hl5
  clear hb5
  clear hc
  have Hd := Lib.hid hr2
  clear hr2
  go_wp2_with fail
  refine (chk_any l A n c _ _ Hl.out (Nat.le_refl _)).mono ?_
  rintro e w6 ⟨rfl, hb6⟩
  have hbw6 := hbw5.trans (hb6.mono hbw5.size)
  have Hl6 := Lib.hid (RdP.step Hl.out hb6)
  clear Hl
  have Hl := Hl6
  clear Hl6
  have Hd6 := Lib.hid (RdP.step Hd.out hb6)
  clear Hd
  have Hd := Hd6
  clear Hd6
  clear hb6
  go_wp2_with fail
  go_ret
  exact ⟨rfl, hbw6⟩
theorem walk_PartOnce (v : Value) (l : List Pt) (w : World) (hx : IsParts w v l) :
    Calls Try.prog 9 #[v] w fun e w' => e = .returned (.bool true) ∧ Below w.heap.size w w' := by
  obtain ⟨A, n, c, rfl, h⟩ := hx
  by_cases hk : chk l = 0
  · exact partOnce_good l A n c w h hk
  · by_cases he : normE l = 0
    · exact partOnce_ok l A n c w h hk he
    · exact partOnce_err l A n c w h hk he
end Go.Proofs.Ytbgaoehpljnolaa
