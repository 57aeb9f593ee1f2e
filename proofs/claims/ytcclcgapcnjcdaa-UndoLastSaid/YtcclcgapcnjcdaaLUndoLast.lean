/- UndoLast: the walk. The last revision taken back. -/
import Derived.Test.YtcclcgapcnjcdaaUndo
import Derived.Test.YtcclcgapcnjcdaaFirst
import Derived.Test.YtcclcgapcnjcdaaOpenRevs
namespace Go.Proofs.Ytcclcgapcnjcdaa
open Go.ChangeShapes Go.WideShapes Go.RowKit
set_option linter.unusedVariables false
set_option linter.unusedSimpArgs false
set_option maxRecDepth 100000
set_option maxHeartbeats 4000000


theorem undoLast_err (base : ByteArray) (l : List Rv) (A : Option Addr) (n c : Nat) (hs : base.size ≤ 140737488351232) (w : World) (h : RdR w w.heap.size A n c l) (h1 : txE base l ≠ 0) :
    Calls Try.prog 11 #[.string base, .slice A n c] w fun e w' => e = .returned (.bool true) ∧ Below w.heap.size w w' := by
  have hbw0 : Below w.heap.size w w := Below.refl _ _
  have Hl := Lib.hid h
  clear h
  have hne : (txE base l != 0) = true := by simpa using h1
  have H1 := Lib.hid h1
  clear h1
  go_enter Try.func11, Try.ntmps11
  go_wp2_with fail
  refine (first_any ⟨#[97]⟩ (by decide) w).mono ?_
  rintro e w1 ⟨Af, rfl, hrf, hb1⟩
  have hbw1 := hbw0.trans (hb1.mono hbw0.size)
  have Hl1 := Lib.hid (RdR.step Hl.out hb1)
  clear Hl
  have Hl := Hl1
  clear Hl1
  clear hb1
  have Hf := Lib.hid hrf
  clear hrf
  go_wp2_with fail
  have hrh : RdR (w1.alloc (.cells #[.int .i64 1, .int .i64 1, .slice Af 1 1] 66)) (w1.alloc (.cells #[.int .i64 1, .int .i64 1, .slice Af 1 1] 66)).heap.size (some ⟨w1.heap.size, 0, none⟩) 1 1 [(1, 1, [(2, 0, ⟨#[97]⟩)])] := by
    have q := RdR.built1 w1 1 1 Af 1 1 [(2, 0, ⟨#[97]⟩)] Hf.out
    simpa only [World.size_alloc] using q
  have hbw2 := hbw1.alloc hbw1.size (.cells #[.int .i64 1, .int .i64 1, .slice Af 1 1] 66)
  have Hl2 := Lib.hid (RdR.stepA Hl.out (.cells #[.int .i64 1, .int .i64 1, .slice Af 1 1] 66))
  clear Hl
  have Hl := Hl2
  clear Hl2
  have Hf2 := Lib.hid (RdP.stepA Hf.out (.cells #[.int .i64 1, .int .i64 1, .slice Af 1 1] 66))
  clear Hf
  have Hf := Hf2
  clear Hf2
  have Hh := Lib.hid hrh
  clear hrh
  clear Hf
  have hc := undo_good ⟨#[]⟩ [(1, 1, [(2, 0, ⟨#[97]⟩)])] (some ⟨w1.heap.size, 0, none⟩) 1 1 _ 1 0 (w1.alloc (.cells #[.int .i64 1, .int .i64 1, .slice Af 1 1] 66)) Hh.out (Nat.le_refl _) (by decide) rfl (by decide) _ (fun _ => rfl) [(3, 1, emp)] (by decide) 0 [(3, 1, emp)] ⟨rfl, fun _ => rfl⟩ (fun h => absurd rfl h)
  refine (hc).mono ?_
  rintro e w3 ⟨Ad0, nd0, cd0, rfl, hrd0, hb3⟩
  have hbw3 := hbw2.trans (hb3.mono hbw2.size)
  have Hl3 := Lib.hid (RdR.step Hl.out hb3)
  clear Hl
  have Hl := Hl3
  clear Hl3
  have Hh3 := Lib.hid (RdR.step Hh.out hb3)
  clear Hh
  have Hh := Hh3
  clear Hh3
  clear hb3
  clear hc
  have Hd0 := Lib.hid hrd0
  clear hrd0
  go_wp2_with fail
  clear Hh
  have hrq := RdP.builtS w3 #[.int .i64 3, .int .i64 1, .string ⟨#[]⟩] [(3, 1, emp)] 1 rfl rfl (by decide) (by decide)
  have hbw4 := hbw3.alloc hbw3.size (.cells #[.int .i64 3, .int .i64 1, .string ⟨#[]⟩] 56)
  have Hl4 := Lib.hid (RdR.stepA Hl.out (.cells #[.int .i64 3, .int .i64 1, .string ⟨#[]⟩] 56))
  clear Hl
  have Hl := Hl4
  clear Hl4
  have Hd04 := Lib.hid (RdP.stepA Hd0.out (.cells #[.int .i64 3, .int .i64 1, .string ⟨#[]⟩] 56))
  clear Hd0
  have Hd0 := Hd04
  clear Hd04
  have Hq := Lib.hid hrq
  clear hrq
  refine (same_true [(3, 1, emp)] [(3, 1, emp)] Ad0 (some ⟨w3.heap.size, 0, none⟩) _ _ cd0 1 _ _ _ Hd0.out Hq.out rfl).mono ?_
  rintro e w5 ⟨rfl, hb5⟩
  have hbw5 := hbw4.trans (hb5.mono hbw4.size)
  have Hl5 := Lib.hid (RdR.step Hl.out hb5)
  clear Hl
  have Hl := Hl5
  clear Hl5
  have Hd05 := Lib.hid (RdP.step Hd0.out hb5)
  clear Hd0
  have Hd0 := Hd05
  clear Hd05
  have Hq5 := Lib.hid (RdP.step Hq.out hb5)
  clear Hq
  have Hq := Hq5
  clear Hq5
  clear hb5
  go_wp2_with fail
  clear Hd0
  clear Hq
  refine (undo_err base l A n c _ n _ Hl.out (Nat.le_refl _) (by omega) H1.out).mono ?_
  rintro e w6 ⟨rfl, hb6⟩
  have hbw6 := hbw5.trans (hb6.mono hbw5.size)
  have Hl6 := Lib.hid (RdR.step Hl.out hb6)
  clear Hl
  have Hl := Hl6
  clear Hl6
  clear hb6
  go_wp2_with fail
  go_ret
  exact ⟨rfl, hbw6⟩
theorem undoLast_arg (base : ByteArray) (l : List Rv) (A : Option Addr) (n c : Nat) (hs : base.size ≤ 140737488351232) (w : World) (h : RdR w w.heap.size A n c l) (h1 : txE base l = 0) (h2 : n = 0) :
    Calls Try.prog 11 #[.string base, .slice A n c] w fun e w' => e = .returned (.bool true) ∧ Below w.heap.size w w' := by
  have hbw0 : Below w.heap.size w w := Below.refl _ _
  have Hl := Lib.hid h
  clear h
  have H1 := Lib.hid h1
  clear h1
  have h2n : (n : Int) < 1 := by omega
  clear h2
  go_enter Try.func11, Try.ntmps11
  go_wp2_with fail
  refine (first_any ⟨#[97]⟩ (by decide) w).mono ?_
  rintro e w1 ⟨Af, rfl, hrf, hb1⟩
  have hbw1 := hbw0.trans (hb1.mono hbw0.size)
  have Hl1 := Lib.hid (RdR.step Hl.out hb1)
  clear Hl
  have Hl := Hl1
  clear Hl1
  clear hb1
  have Hf := Lib.hid hrf
  clear hrf
  go_wp2_with fail
  have hrh : RdR (w1.alloc (.cells #[.int .i64 1, .int .i64 1, .slice Af 1 1] 66)) (w1.alloc (.cells #[.int .i64 1, .int .i64 1, .slice Af 1 1] 66)).heap.size (some ⟨w1.heap.size, 0, none⟩) 1 1 [(1, 1, [(2, 0, ⟨#[97]⟩)])] := by
    have q := RdR.built1 w1 1 1 Af 1 1 [(2, 0, ⟨#[97]⟩)] Hf.out
    simpa only [World.size_alloc] using q
  have hbw2 := hbw1.alloc hbw1.size (.cells #[.int .i64 1, .int .i64 1, .slice Af 1 1] 66)
  have Hl2 := Lib.hid (RdR.stepA Hl.out (.cells #[.int .i64 1, .int .i64 1, .slice Af 1 1] 66))
  clear Hl
  have Hl := Hl2
  clear Hl2
  have Hf2 := Lib.hid (RdP.stepA Hf.out (.cells #[.int .i64 1, .int .i64 1, .slice Af 1 1] 66))
  clear Hf
  have Hf := Hf2
  clear Hf2
  have Hh := Lib.hid hrh
  clear hrh
  clear Hf
  have hc := undo_good ⟨#[]⟩ [(1, 1, [(2, 0, ⟨#[97]⟩)])] (some ⟨w1.heap.size, 0, none⟩) 1 1 _ 1 0 (w1.alloc (.cells #[.int .i64 1, .int .i64 1, .slice Af 1 1] 66)) Hh.out (Nat.le_refl _) (by decide) rfl (by decide) _ (fun _ => rfl) [(3, 1, emp)] (by decide) 0 [(3, 1, emp)] ⟨rfl, fun _ => rfl⟩ (fun h => absurd rfl h)
  refine (hc).mono ?_
  rintro e w3 ⟨Ad0, nd0, cd0, rfl, hrd0, hb3⟩
  have hbw3 := hbw2.trans (hb3.mono hbw2.size)
  have Hl3 := Lib.hid (RdR.step Hl.out hb3)
  clear Hl
  have Hl := Hl3
  clear Hl3
  have Hh3 := Lib.hid (RdR.step Hh.out hb3)
  clear Hh
  have Hh := Hh3
  clear Hh3
  clear hb3
  clear hc
  have Hd0 := Lib.hid hrd0
  clear hrd0
  go_wp2_with fail
  clear Hh
  have hrq := RdP.builtS w3 #[.int .i64 3, .int .i64 1, .string ⟨#[]⟩] [(3, 1, emp)] 1 rfl rfl (by decide) (by decide)
  have hbw4 := hbw3.alloc hbw3.size (.cells #[.int .i64 3, .int .i64 1, .string ⟨#[]⟩] 56)
  have Hl4 := Lib.hid (RdR.stepA Hl.out (.cells #[.int .i64 3, .int .i64 1, .string ⟨#[]⟩] 56))
  clear Hl
  have Hl := Hl4
  clear Hl4
  have Hd04 := Lib.hid (RdP.stepA Hd0.out (.cells #[.int .i64 3, .int .i64 1, .string ⟨#[]⟩] 56))
  clear Hd0
  have Hd0 := Hd04
  clear Hd04
  have Hq := Lib.hid hrq
  clear hrq
  refine (same_true [(3, 1, emp)] [(3, 1, emp)] Ad0 (some ⟨w3.heap.size, 0, none⟩) _ _ cd0 1 _ _ _ Hd0.out Hq.out rfl).mono ?_
  rintro e w5 ⟨rfl, hb5⟩
  have hbw5 := hbw4.trans (hb5.mono hbw4.size)
  have Hl5 := Lib.hid (RdR.step Hl.out hb5)
  clear Hl
  have Hl := Hl5
  clear Hl5
  have Hd05 := Lib.hid (RdP.step Hd0.out hb5)
  clear Hd0
  have Hd0 := Hd05
  clear Hd05
  have Hq5 := Lib.hid (RdP.step Hq.out hb5)
  clear Hq
  have Hq := Hq5
  clear Hq5
  clear hb5
  go_wp2_with fail
  clear Hd0
  clear Hq
  refine (undo_arg base l A n c _ n _ Hl.out (Nat.le_refl _) (by omega) H1.out (.inl h2n)).mono ?_
  rintro e w6 ⟨rfl, hb6⟩
  have hbw6 := hbw5.trans (hb6.mono hbw5.size)
  have Hl6 := Lib.hid (RdR.step Hl.out hb6)
  clear Hl
  have Hl := Hl6
  clear Hl6
  clear hb6
  go_wp2_with fail
  go_ret
  exact ⟨rfl, hbw6⟩
theorem undoLast_ok (base : ByteArray) (l : List Rv) (A : Option Addr) (n c : Nat) (hs : base.size ≤ 140737488351232) (w : World) (h : RdR w w.heap.size A n c l) (m : Nat) (h1 : txE base l = 0) (h2 : n = m + 1) :
    Calls Try.prog 11 #[.string base, .slice A n c] w fun e w' => e = .returned (.bool true) ∧ Below w.heap.size w w' := by
  have hbw0 : Below w.heap.size w w := Below.refl _ _
  have Hl := Lib.hid h
  clear h
  have hn : n = l.length := Hl.out.1
  have Hn := Lib.hid hn
  have H2 := Lib.hid h2
  have H1 := Lib.hid h1
  have hts := txt_size l base m (txE_parts h1).1
  obtain ⟨S, hS⟩ : ∃ S, txt base l m = S := ⟨_, rfl⟩
  obtain ⟨d, hd⟩ : ∃ d, ∀ (hm : m < l.length), (l[m]'hm).2.2 = d := ⟨(l[m]'(by omega)).2.2, fun _ => rfl⟩
  have hat := txr_at l base m (by omega) (txE_parts h1).2.2
  rw [hd, hS] at hat
  have Hat := Lib.hid hat.2
  rw [hS] at hts
  have HDd := Lib.hid hd
  have HS := Lib.hid hS
  have HT := Lib.hid (turn_do Hat.out.1)
  have hnm : (n : Int) - 1 = (m : Int) := by omega
  have hn1 : n - 1 = m := by omega
  have hn64 : (n : Int) ≤ 64 := by have := (txE_parts h1).2.1; omega
  have hds := do_size_any d S
  clear h1 h2 hn hS hd hat
  go_enter Try.func11, Try.ntmps11
  go_wp2_with fail
  refine (first_any ⟨#[97]⟩ (by decide) w).mono ?_
  rintro e w1 ⟨Af, rfl, hrf, hb1⟩
  have hbw1 := hbw0.trans (hb1.mono hbw0.size)
  have Hl1 := Lib.hid (RdR.step Hl.out hb1)
  clear Hl
  have Hl := Hl1
  clear Hl1
  clear hb1
  have Hf := Lib.hid hrf
  clear hrf
  go_wp2_with fail
  have hrh : RdR (w1.alloc (.cells #[.int .i64 1, .int .i64 1, .slice Af 1 1] 66)) (w1.alloc (.cells #[.int .i64 1, .int .i64 1, .slice Af 1 1] 66)).heap.size (some ⟨w1.heap.size, 0, none⟩) 1 1 [(1, 1, [(2, 0, ⟨#[97]⟩)])] := by
    have q := RdR.built1 w1 1 1 Af 1 1 [(2, 0, ⟨#[97]⟩)] Hf.out
    simpa only [World.size_alloc] using q
  have hbw2 := hbw1.alloc hbw1.size (.cells #[.int .i64 1, .int .i64 1, .slice Af 1 1] 66)
  have Hl2 := Lib.hid (RdR.stepA Hl.out (.cells #[.int .i64 1, .int .i64 1, .slice Af 1 1] 66))
  clear Hl
  have Hl := Hl2
  clear Hl2
  have Hf2 := Lib.hid (RdP.stepA Hf.out (.cells #[.int .i64 1, .int .i64 1, .slice Af 1 1] 66))
  clear Hf
  have Hf := Hf2
  clear Hf2
  have Hh := Lib.hid hrh
  clear hrh
  clear Hf
  have hc := undo_good ⟨#[]⟩ [(1, 1, [(2, 0, ⟨#[97]⟩)])] (some ⟨w1.heap.size, 0, none⟩) 1 1 _ 1 0 (w1.alloc (.cells #[.int .i64 1, .int .i64 1, .slice Af 1 1] 66)) Hh.out (Nat.le_refl _) (by decide) rfl (by decide) _ (fun _ => rfl) [(3, 1, emp)] (by decide) 0 [(3, 1, emp)] ⟨rfl, fun _ => rfl⟩ (fun h => absurd rfl h)
  refine (hc).mono ?_
  rintro e w3 ⟨Ad0, nd0, cd0, rfl, hrd0, hb3⟩
  have hbw3 := hbw2.trans (hb3.mono hbw2.size)
  have Hl3 := Lib.hid (RdR.step Hl.out hb3)
  clear Hl
  have Hl := Hl3
  clear Hl3
  have Hh3 := Lib.hid (RdR.step Hh.out hb3)
  clear Hh
  have Hh := Hh3
  clear Hh3
  clear hb3
  clear hc
  have Hd0 := Lib.hid hrd0
  clear hrd0
  go_wp2_with fail
  clear Hh
  have hrq := RdP.builtS w3 #[.int .i64 3, .int .i64 1, .string ⟨#[]⟩] [(3, 1, emp)] 1 rfl rfl (by decide) (by decide)
  have hbw4 := hbw3.alloc hbw3.size (.cells #[.int .i64 3, .int .i64 1, .string ⟨#[]⟩] 56)
  have Hl4 := Lib.hid (RdR.stepA Hl.out (.cells #[.int .i64 3, .int .i64 1, .string ⟨#[]⟩] 56))
  clear Hl
  have Hl := Hl4
  clear Hl4
  have Hd04 := Lib.hid (RdP.stepA Hd0.out (.cells #[.int .i64 3, .int .i64 1, .string ⟨#[]⟩] 56))
  clear Hd0
  have Hd0 := Hd04
  clear Hd04
  have Hq := Lib.hid hrq
  clear hrq
  refine (same_true [(3, 1, emp)] [(3, 1, emp)] Ad0 (some ⟨w3.heap.size, 0, none⟩) _ _ cd0 1 _ _ _ Hd0.out Hq.out rfl).mono ?_
  rintro e w5 ⟨rfl, hb5⟩
  have hbw5 := hbw4.trans (hb5.mono hbw4.size)
  have Hl5 := Lib.hid (RdR.step Hl.out hb5)
  clear Hl
  have Hl := Hl5
  clear Hl5
  have Hd05 := Lib.hid (RdP.step Hd0.out hb5)
  clear Hd0
  have Hd0 := Hd05
  clear Hd05
  have Hq5 := Lib.hid (RdP.step Hq.out hb5)
  clear Hq
  have Hq := Hq5
  clear Hq5
  clear hb5
  go_wp2_with fail
  clear Hd0
  clear Hq
  have hc := undo_good base l A n c _ n m w5 Hl.out (Nat.le_refl _) H1.out H2.out (Nat.le_refl _) d HDd.out (turnL d S) (by rw [HS.out]) 0 (turnL d S) ⟨by rw [List.drop_eq_nil_of_le (by have := Hn.out; omega)]; rfl, fun _ => by rw [List.drop_eq_nil_of_le (by have := Hn.out; omega)]; rfl⟩ (fun h => absurd rfl h)
  refine (hc).mono ?_
  rintro e w6 ⟨Ax, nx, cx, rfl, hrx, hb6⟩
  have hbw6 := hbw5.trans (hb6.mono hbw5.size)
  have Hl6 := Lib.hid (RdR.step Hl.out hb6)
  clear Hl
  have Hl := Hl6
  clear Hl6
  clear hb6
  clear hc
  have Hx := Lib.hid hrx
  clear hrx
  go_wp2_with fail
  have hc := rtext_good base l A n c _ n w6 Hl.out (Nat.le_refl _) H1.out (by have := Hn.out; omega)
  rw [show txt base l n = doS d S from by rw [H2.out]; exact Hat.out.2] at hc
  refine (hc).mono ?_
  rintro e w7 ⟨rfl, hb7⟩
  have hbw7 := hbw6.trans (hb7.mono hbw6.size)
  have Hl7 := Lib.hid (RdR.step Hl.out hb7)
  clear Hl
  have Hl := Hl7
  clear Hl7
  have Hx7 := Lib.hid (RdP.step Hx.out hb7)
  clear Hx
  have Hx := Hx7
  clear Hx7
  clear hb7
  clear hc
  go_wp2_with fail
  have hc := rtext_good base l A n c _ m w7 Hl.out (Nat.le_refl _) H1.out (by have := Hn.out; have := H2.out; omega)
  rw [HS.out] at hc
  refine (hc).mono ?_
  rintro e w8 ⟨rfl, hb8⟩
  have hbw8 := hbw7.trans (hb8.mono hbw7.size)
  have Hl8 := Lib.hid (RdR.step Hl.out hb8)
  clear Hl
  have Hl := Hl8
  clear Hl8
  have Hx8 := Lib.hid (RdP.step Hx.out hb8)
  clear Hx
  have Hx := Hx8
  clear Hx8
  clear hb8
  clear hc
  go_wp2_with fail
  have hc := do_any (turnL d S) Ax nx cx _ (doS d S) _ Hx.out (Nat.le_refl _) (by omega)
  rw [HT.out.1] at hc
  rw [HT.out.2.1] at hc
  refine (hc).mono ?_
  rintro e w9 ⟨rfl, hb9⟩
  have hbw9 := hbw8.trans (hb9.mono hbw8.size)
  have Hl9 := Lib.hid (RdR.step Hl.out hb9)
  clear Hl
  have Hl := Hl9
  clear Hl9
  have Hx9 := Lib.hid (RdP.step Hx.out hb9)
  clear Hx
  have Hx := Hx9
  clear Hx9
  clear hb9
  clear hc
  go_wp2_with fail
  go_ret
  exact ⟨rfl, hbw9⟩
theorem walk_UndoLast (base : ByteArray) (hs : base.size ≤ 140737488351232) (v : Value) (l : List Rv) (w : World) (hx : IsRevs w v l) :
    Calls Try.prog 11 #[.string base, v] w fun e w' => e = .returned (.bool true) ∧ Below w.heap.size w w' := by
  obtain ⟨A, n, c, rfl, h⟩ := hx
  by_cases h1 : txE base l = 0
  · by_cases h2 : n = 0
    · exact undoLast_arg base l A n c hs w h h1 h2
    · exact undoLast_ok base l A n c hs w h (n - 1) h1 (by omega)
  · exact undoLast_err base l A n c hs w h h1
end Go.Proofs.Ytcclcgapcnjcdaa
