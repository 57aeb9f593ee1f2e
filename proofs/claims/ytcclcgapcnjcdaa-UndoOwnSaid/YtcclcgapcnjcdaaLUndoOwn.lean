/- UndoOwn: the walk. What is cut as a revision is taken back is just what is left of what it put. -/
import Derived.Test.YtcclcgapcnjcdaaUndo
import Derived.Test.YtcclcgapcnjcdaaBlame
import Derived.Test.YtcclcgapcnjcdaaOwnLaw
import Derived.Test.YtcclcgapcnjcdaaFirst
import Derived.Test.YtcclcgapcnjcdaaOpenRevs
namespace Go.Proofs.Ytcclcgapcnjcdaa
open Go.ChangeShapes Go.WideShapes Go.RowKit
set_option linter.unusedVariables false
set_option linter.unusedSimpArgs false
set_option maxRecDepth 100000
set_option maxHeartbeats 4000000


theorem undoOwn_err (base : ByteArray) (l : List Rv) (A : Option Addr) (n c : Nat) (k : Int) (hs : base.size ≤ 140737488351232) (w : World) (h : RdR w w.heap.size A n c l) (h1 : txE base l ≠ 0) :
    Calls Try.prog 14 #[.string base, .slice A n c, .int .i64 k] w fun e w' => e = .returned (.bool true) ∧ Below w.heap.size w w' := by
  have hbw0 : Below w.heap.size w w := Below.refl _ _
  have Hl := Lib.hid h
  clear h
  have hne : (txE base l != 0) = true := by simpa using h1
  have H1 := Lib.hid h1
  clear h1
  go_enter Try.func14, Try.ntmps14
  go_wp2_with fail
  refine (first_any ⟨#[97]⟩ (by decide) w).mono ?_
  rintro e w1 ⟨Af, rfl, hrf, hb1⟩
  have hbw1 := hbw0.trans (hb1.mono hbw0.size)
  have Hl1 := Lib.hid (RdR.step Hl.out hb1)
  clear Hl
  have Hl := Hl1
  clear Hl1
  clear hb1
  have Hf := Lib.hid hrf
  clear hrf
  go_wp2_with fail
  have hrq := RdP.builtS w1 #[.int .i64 2, .int .i64 0, .string ⟨#[98]⟩, .int .i64 1, .int .i64 1, .string ⟨#[]⟩] [(2, 0, ⟨#[98]⟩), (1, 1, emp)] 2 rfl rfl (by decide) (by decide)
  have hbw2 := hbw1.alloc hbw1.size (.cells #[.int .i64 2, .int .i64 0, .string ⟨#[98]⟩, .int .i64 1, .int .i64 1, .string ⟨#[]⟩] 56)
  have Hl2 := Lib.hid (RdR.stepA Hl.out (.cells #[.int .i64 2, .int .i64 0, .string ⟨#[98]⟩, .int .i64 1, .int .i64 1, .string ⟨#[]⟩] 56))
  clear Hl
  have Hl := Hl2
  clear Hl2
  have Hf2 := Lib.hid (RdP.stepA Hf.out (.cells #[.int .i64 2, .int .i64 0, .string ⟨#[98]⟩, .int .i64 1, .int .i64 1, .string ⟨#[]⟩] 56))
  clear Hf
  have Hf := Hf2
  clear Hf2
  have Hq := Lib.hid hrq
  clear hrq
  have hrh : RdR ((w1.alloc (.cells #[.int .i64 2, .int .i64 0, .string ⟨#[98]⟩, .int .i64 1, .int .i64 1, .string ⟨#[]⟩] 56)).alloc (.cells #[.int .i64 1, .int .i64 1, .slice Af 1 1, .int .i64 2, .int .i64 1, .slice (some ⟨w1.heap.size, 0, none⟩) 2 2] 66)) ((w1.alloc (.cells #[.int .i64 2, .int .i64 0, .string ⟨#[98]⟩, .int .i64 1, .int .i64 1, .string ⟨#[]⟩] 56)).alloc (.cells #[.int .i64 1, .int .i64 1, .slice Af 1 1, .int .i64 2, .int .i64 1, .slice (some ⟨w1.heap.size, 0, none⟩) 2 2] 66)).heap.size (some ⟨w1.heap.size + 1, 0, none⟩) 2 2 [(1, 1, [(2, 0, ⟨#[97]⟩)]), (2, 1, [(2, 0, ⟨#[98]⟩), (1, 1, emp)])] := by
    have q := RdR.built2 (w1.alloc (.cells #[.int .i64 2, .int .i64 0, .string ⟨#[98]⟩, .int .i64 1, .int .i64 1, .string ⟨#[]⟩] 56)) 1 1 2 1 Af (some ⟨w1.heap.size, 0, none⟩) 1 1 2 2 [(2, 0, ⟨#[97]⟩)] [(2, 0, ⟨#[98]⟩), (1, 1, emp)] Hf.out Hq.out
    simpa only [World.size_alloc] using q
  have hbw3 := hbw2.alloc hbw2.size (.cells #[.int .i64 1, .int .i64 1, .slice Af 1 1, .int .i64 2, .int .i64 1, .slice (some ⟨w1.heap.size, 0, none⟩) 2 2] 66)
  have Hl3 := Lib.hid (RdR.stepA Hl.out (.cells #[.int .i64 1, .int .i64 1, .slice Af 1 1, .int .i64 2, .int .i64 1, .slice (some ⟨w1.heap.size, 0, none⟩) 2 2] 66))
  clear Hl
  have Hl := Hl3
  clear Hl3
  have Hf3 := Lib.hid (RdP.stepA Hf.out (.cells #[.int .i64 1, .int .i64 1, .slice Af 1 1, .int .i64 2, .int .i64 1, .slice (some ⟨w1.heap.size, 0, none⟩) 2 2] 66))
  clear Hf
  have Hf := Hf3
  clear Hf3
  have Hq3 := Lib.hid (RdP.stepA Hq.out (.cells #[.int .i64 1, .int .i64 1, .slice Af 1 1, .int .i64 2, .int .i64 1, .slice (some ⟨w1.heap.size, 0, none⟩) 2 2] 66))
  clear Hq
  have Hq := Hq3
  clear Hq3
  have Hh := Lib.hid hrh
  clear hrh
  clear Hq
  clear Hf
  have hc := undo_good ⟨#[]⟩ [(1, 1, [(2, 0, ⟨#[97]⟩)]), (2, 1, [(2, 0, ⟨#[98]⟩), (1, 1, emp)])] (some ⟨w1.heap.size + 1, 0, none⟩) 2 2 _ 1 0 ((w1.alloc (.cells #[.int .i64 2, .int .i64 0, .string ⟨#[98]⟩, .int .i64 1, .int .i64 1, .string ⟨#[]⟩] 56)).alloc (.cells #[.int .i64 1, .int .i64 1, .slice Af 1 1, .int .i64 2, .int .i64 1, .slice (some ⟨w1.heap.size, 0, none⟩) 2 2] 66)) Hh.out (Nat.le_refl _) (by decide) rfl (by decide) _ (fun _ => rfl) [(3, 1, emp)] (by decide) 0 [(1, 1, emp), (3, 1, emp)] ⟨by decide, fun _ => by decide⟩ (fun h => absurd rfl h)
  refine (hc).mono ?_
  rintro e w4 ⟨Ad0, nd0, cd0, rfl, hrd0, hb4⟩
  have hbw4 := hbw3.trans (hb4.mono hbw3.size)
  have Hl4 := Lib.hid (RdR.step Hl.out hb4)
  clear Hl
  have Hl := Hl4
  clear Hl4
  have Hh4 := Lib.hid (RdR.step Hh.out hb4)
  clear Hh
  have Hh := Hh4
  clear Hh4
  clear hb4
  clear hc
  have Hd0 := Lib.hid hrd0
  clear hrd0
  go_wp2_with fail
  clear Hh
  have hrq := RdP.builtS w4 #[.int .i64 1, .int .i64 1, .string ⟨#[]⟩, .int .i64 3, .int .i64 1, .string ⟨#[]⟩] [(1, 1, emp), (3, 1, emp)] 2 rfl rfl (by decide) (by decide)
  have hbw5 := hbw4.alloc hbw4.size (.cells #[.int .i64 1, .int .i64 1, .string ⟨#[]⟩, .int .i64 3, .int .i64 1, .string ⟨#[]⟩] 56)
  have Hl5 := Lib.hid (RdR.stepA Hl.out (.cells #[.int .i64 1, .int .i64 1, .string ⟨#[]⟩, .int .i64 3, .int .i64 1, .string ⟨#[]⟩] 56))
  clear Hl
  have Hl := Hl5
  clear Hl5
  have Hd05 := Lib.hid (RdP.stepA Hd0.out (.cells #[.int .i64 1, .int .i64 1, .string ⟨#[]⟩, .int .i64 3, .int .i64 1, .string ⟨#[]⟩] 56))
  clear Hd0
  have Hd0 := Hd05
  clear Hd05
  have Hq := Lib.hid hrq
  clear hrq
  refine (same_true [(1, 1, emp), (3, 1, emp)] [(1, 1, emp), (3, 1, emp)] Ad0 (some ⟨w4.heap.size, 0, none⟩) _ _ cd0 2 _ _ _ Hd0.out Hq.out rfl).mono ?_
  rintro e w6 ⟨rfl, hb6⟩
  have hbw6 := hbw5.trans (hb6.mono hbw5.size)
  have Hl6 := Lib.hid (RdR.step Hl.out hb6)
  clear Hl
  have Hl := Hl6
  clear Hl6
  have Hd06 := Lib.hid (RdP.step Hd0.out hb6)
  clear Hd0
  have Hd0 := Hd06
  clear Hd06
  have Hq6 := Lib.hid (RdP.step Hq.out hb6)
  clear Hq
  have Hq := Hq6
  clear Hq6
  clear hb6
  go_wp2_with fail
  clear Hd0
  clear Hq
  refine (undo_err base l A n c _ k _ Hl.out (Nat.le_refl _) (by omega) H1.out).mono ?_
  rintro e w7 ⟨rfl, hb7⟩
  have hbw7 := hbw6.trans (hb7.mono hbw6.size)
  have Hl7 := Lib.hid (RdR.step Hl.out hb7)
  clear Hl
  have Hl := Hl7
  clear Hl7
  clear hb7
  go_wp2_with fail
  go_ret
  exact ⟨rfl, hbw7⟩
theorem undoOwn_arg (base : ByteArray) (l : List Rv) (A : Option Addr) (n c : Nat) (k : Int) (hs : base.size ≤ 140737488351232) (w : World) (h : RdR w w.heap.size A n c l) (h1 : txE base l = 0) (h2 : k < 1 ∨ (n : Int) < k) :
    Calls Try.prog 14 #[.string base, .slice A n c, .int .i64 k] w fun e w' => e = .returned (.bool true) ∧ Below w.heap.size w w' := by
  have hbw0 : Below w.heap.size w w := Below.refl _ _
  have Hl := Lib.hid h
  clear h
  have H1 := Lib.hid h1
  clear h1
  have H2 := Lib.hid h2
  clear h2
  go_enter Try.func14, Try.ntmps14
  go_wp2_with fail
  refine (first_any ⟨#[97]⟩ (by decide) w).mono ?_
  rintro e w1 ⟨Af, rfl, hrf, hb1⟩
  have hbw1 := hbw0.trans (hb1.mono hbw0.size)
  have Hl1 := Lib.hid (RdR.step Hl.out hb1)
  clear Hl
  have Hl := Hl1
  clear Hl1
  clear hb1
  have Hf := Lib.hid hrf
  clear hrf
  go_wp2_with fail
  have hrq := RdP.builtS w1 #[.int .i64 2, .int .i64 0, .string ⟨#[98]⟩, .int .i64 1, .int .i64 1, .string ⟨#[]⟩] [(2, 0, ⟨#[98]⟩), (1, 1, emp)] 2 rfl rfl (by decide) (by decide)
  have hbw2 := hbw1.alloc hbw1.size (.cells #[.int .i64 2, .int .i64 0, .string ⟨#[98]⟩, .int .i64 1, .int .i64 1, .string ⟨#[]⟩] 56)
  have Hl2 := Lib.hid (RdR.stepA Hl.out (.cells #[.int .i64 2, .int .i64 0, .string ⟨#[98]⟩, .int .i64 1, .int .i64 1, .string ⟨#[]⟩] 56))
  clear Hl
  have Hl := Hl2
  clear Hl2
  have Hf2 := Lib.hid (RdP.stepA Hf.out (.cells #[.int .i64 2, .int .i64 0, .string ⟨#[98]⟩, .int .i64 1, .int .i64 1, .string ⟨#[]⟩] 56))
  clear Hf
  have Hf := Hf2
  clear Hf2
  have Hq := Lib.hid hrq
  clear hrq
  have hrh : RdR ((w1.alloc (.cells #[.int .i64 2, .int .i64 0, .string ⟨#[98]⟩, .int .i64 1, .int .i64 1, .string ⟨#[]⟩] 56)).alloc (.cells #[.int .i64 1, .int .i64 1, .slice Af 1 1, .int .i64 2, .int .i64 1, .slice (some ⟨w1.heap.size, 0, none⟩) 2 2] 66)) ((w1.alloc (.cells #[.int .i64 2, .int .i64 0, .string ⟨#[98]⟩, .int .i64 1, .int .i64 1, .string ⟨#[]⟩] 56)).alloc (.cells #[.int .i64 1, .int .i64 1, .slice Af 1 1, .int .i64 2, .int .i64 1, .slice (some ⟨w1.heap.size, 0, none⟩) 2 2] 66)).heap.size (some ⟨w1.heap.size + 1, 0, none⟩) 2 2 [(1, 1, [(2, 0, ⟨#[97]⟩)]), (2, 1, [(2, 0, ⟨#[98]⟩), (1, 1, emp)])] := by
    have q := RdR.built2 (w1.alloc (.cells #[.int .i64 2, .int .i64 0, .string ⟨#[98]⟩, .int .i64 1, .int .i64 1, .string ⟨#[]⟩] 56)) 1 1 2 1 Af (some ⟨w1.heap.size, 0, none⟩) 1 1 2 2 [(2, 0, ⟨#[97]⟩)] [(2, 0, ⟨#[98]⟩), (1, 1, emp)] Hf.out Hq.out
    simpa only [World.size_alloc] using q
  have hbw3 := hbw2.alloc hbw2.size (.cells #[.int .i64 1, .int .i64 1, .slice Af 1 1, .int .i64 2, .int .i64 1, .slice (some ⟨w1.heap.size, 0, none⟩) 2 2] 66)
  have Hl3 := Lib.hid (RdR.stepA Hl.out (.cells #[.int .i64 1, .int .i64 1, .slice Af 1 1, .int .i64 2, .int .i64 1, .slice (some ⟨w1.heap.size, 0, none⟩) 2 2] 66))
  clear Hl
  have Hl := Hl3
  clear Hl3
  have Hf3 := Lib.hid (RdP.stepA Hf.out (.cells #[.int .i64 1, .int .i64 1, .slice Af 1 1, .int .i64 2, .int .i64 1, .slice (some ⟨w1.heap.size, 0, none⟩) 2 2] 66))
  clear Hf
  have Hf := Hf3
  clear Hf3
  have Hq3 := Lib.hid (RdP.stepA Hq.out (.cells #[.int .i64 1, .int .i64 1, .slice Af 1 1, .int .i64 2, .int .i64 1, .slice (some ⟨w1.heap.size, 0, none⟩) 2 2] 66))
  clear Hq
  have Hq := Hq3
  clear Hq3
  have Hh := Lib.hid hrh
  clear hrh
  clear Hq
  clear Hf
  have hc := undo_good ⟨#[]⟩ [(1, 1, [(2, 0, ⟨#[97]⟩)]), (2, 1, [(2, 0, ⟨#[98]⟩), (1, 1, emp)])] (some ⟨w1.heap.size + 1, 0, none⟩) 2 2 _ 1 0 ((w1.alloc (.cells #[.int .i64 2, .int .i64 0, .string ⟨#[98]⟩, .int .i64 1, .int .i64 1, .string ⟨#[]⟩] 56)).alloc (.cells #[.int .i64 1, .int .i64 1, .slice Af 1 1, .int .i64 2, .int .i64 1, .slice (some ⟨w1.heap.size, 0, none⟩) 2 2] 66)) Hh.out (Nat.le_refl _) (by decide) rfl (by decide) _ (fun _ => rfl) [(3, 1, emp)] (by decide) 0 [(1, 1, emp), (3, 1, emp)] ⟨by decide, fun _ => by decide⟩ (fun h => absurd rfl h)
  refine (hc).mono ?_
  rintro e w4 ⟨Ad0, nd0, cd0, rfl, hrd0, hb4⟩
  have hbw4 := hbw3.trans (hb4.mono hbw3.size)
  have Hl4 := Lib.hid (RdR.step Hl.out hb4)
  clear Hl
  have Hl := Hl4
  clear Hl4
  have Hh4 := Lib.hid (RdR.step Hh.out hb4)
  clear Hh
  have Hh := Hh4
  clear Hh4
  clear hb4
  clear hc
  have Hd0 := Lib.hid hrd0
  clear hrd0
  go_wp2_with fail
  clear Hh
  have hrq := RdP.builtS w4 #[.int .i64 1, .int .i64 1, .string ⟨#[]⟩, .int .i64 3, .int .i64 1, .string ⟨#[]⟩] [(1, 1, emp), (3, 1, emp)] 2 rfl rfl (by decide) (by decide)
  have hbw5 := hbw4.alloc hbw4.size (.cells #[.int .i64 1, .int .i64 1, .string ⟨#[]⟩, .int .i64 3, .int .i64 1, .string ⟨#[]⟩] 56)
  have Hl5 := Lib.hid (RdR.stepA Hl.out (.cells #[.int .i64 1, .int .i64 1, .string ⟨#[]⟩, .int .i64 3, .int .i64 1, .string ⟨#[]⟩] 56))
  clear Hl
  have Hl := Hl5
  clear Hl5
  have Hd05 := Lib.hid (RdP.stepA Hd0.out (.cells #[.int .i64 1, .int .i64 1, .string ⟨#[]⟩, .int .i64 3, .int .i64 1, .string ⟨#[]⟩] 56))
  clear Hd0
  have Hd0 := Hd05
  clear Hd05
  have Hq := Lib.hid hrq
  clear hrq
  refine (same_true [(1, 1, emp), (3, 1, emp)] [(1, 1, emp), (3, 1, emp)] Ad0 (some ⟨w4.heap.size, 0, none⟩) _ _ cd0 2 _ _ _ Hd0.out Hq.out rfl).mono ?_
  rintro e w6 ⟨rfl, hb6⟩
  have hbw6 := hbw5.trans (hb6.mono hbw5.size)
  have Hl6 := Lib.hid (RdR.step Hl.out hb6)
  clear Hl
  have Hl := Hl6
  clear Hl6
  have Hd06 := Lib.hid (RdP.step Hd0.out hb6)
  clear Hd0
  have Hd0 := Hd06
  clear Hd06
  have Hq6 := Lib.hid (RdP.step Hq.out hb6)
  clear Hq
  have Hq := Hq6
  clear Hq6
  clear hb6
  go_wp2_with fail
  clear Hd0
  clear Hq
  refine (undo_arg base l A n c _ k _ Hl.out (Nat.le_refl _) (by omega) H1.out H2.out).mono ?_
  rintro e w7 ⟨rfl, hb7⟩
  have hbw7 := hbw6.trans (hb7.mono hbw6.size)
  have Hl7 := Lib.hid (RdR.step Hl.out hb7)
  clear Hl
  have Hl := Hl7
  clear Hl7
  clear hb7
  go_wp2_with fail
  go_ret
  exact ⟨rfl, hbw7⟩
theorem undoOwn_no (base : ByteArray) (l : List Rv) (A : Option Addr) (n c : Nat) (k m : Nat) (hs : base.size ≤ 140737488351232) (w : World) (h : RdR w w.heap.size A n c l) (h1 : txE base l = 0) (h2 : k = m + 1) (h3 : k ≤ n) (h4 : ∀ (hm : m < l.length), mtE (turnL (l[m]).2.2 (txt base l m)) (l.drop k) ≠ 0) :
    Calls Try.prog 14 #[.string base, .slice A n c, .int .i64 k] w fun e w' => e = .returned (.bool true) ∧ Below w.heap.size w w' := by
  have hbw0 : Below w.heap.size w w := Below.refl _ _
  have Hl := Lib.hid h
  clear h
  have hn : n = l.length := Hl.out.1
  have Hn := Lib.hid hn
  have H2 := Lib.hid h2
  have H1 := Lib.hid h1
  obtain ⟨S, hS⟩ : ∃ S, txt base l m = S := ⟨_, rfl⟩
  obtain ⟨d, hd⟩ : ∃ d, ∀ (hm : m < l.length), (l[m]'hm).2.2 = d := ⟨(l[m]'(by omega)).2.2, fun _ => rfl⟩
  have HDd := Lib.hid hd
  have HS := Lib.hid hS
  have hn64 : (n : Int) ≤ 64 := by have := (txE_parts h1).2.1; omega
  have Hkn := Lib.hid h3
  have h5 := h4 (by omega)
  rw [hd, hS] at h5
  obtain ⟨E, hE⟩ : ∃ E, mtE (turnL d S) (l.drop k) = E := ⟨_, rfl⟩
  rw [hE] at h5
  have HE := Lib.hid hE
  have H5 := Lib.hid h5
  have hne : (E != 0) = true := by simpa using h5
  clear h4 h5 hE h1 h2 hn hS hd h3
  go_enter Try.func14, Try.ntmps14
  go_wp2_with fail
  refine (first_any ⟨#[97]⟩ (by decide) w).mono ?_
  rintro e w1 ⟨Af, rfl, hrf, hb1⟩
  have hbw1 := hbw0.trans (hb1.mono hbw0.size)
  have Hl1 := Lib.hid (RdR.step Hl.out hb1)
  clear Hl
  have Hl := Hl1
  clear Hl1
  clear hb1
  have Hf := Lib.hid hrf
  clear hrf
  go_wp2_with fail
  have hrq := RdP.builtS w1 #[.int .i64 2, .int .i64 0, .string ⟨#[98]⟩, .int .i64 1, .int .i64 1, .string ⟨#[]⟩] [(2, 0, ⟨#[98]⟩), (1, 1, emp)] 2 rfl rfl (by decide) (by decide)
  have hbw2 := hbw1.alloc hbw1.size (.cells #[.int .i64 2, .int .i64 0, .string ⟨#[98]⟩, .int .i64 1, .int .i64 1, .string ⟨#[]⟩] 56)
  have Hl2 := Lib.hid (RdR.stepA Hl.out (.cells #[.int .i64 2, .int .i64 0, .string ⟨#[98]⟩, .int .i64 1, .int .i64 1, .string ⟨#[]⟩] 56))
  clear Hl
  have Hl := Hl2
  clear Hl2
  have Hf2 := Lib.hid (RdP.stepA Hf.out (.cells #[.int .i64 2, .int .i64 0, .string ⟨#[98]⟩, .int .i64 1, .int .i64 1, .string ⟨#[]⟩] 56))
  clear Hf
  have Hf := Hf2
  clear Hf2
  have Hq := Lib.hid hrq
  clear hrq
  have hrh : RdR ((w1.alloc (.cells #[.int .i64 2, .int .i64 0, .string ⟨#[98]⟩, .int .i64 1, .int .i64 1, .string ⟨#[]⟩] 56)).alloc (.cells #[.int .i64 1, .int .i64 1, .slice Af 1 1, .int .i64 2, .int .i64 1, .slice (some ⟨w1.heap.size, 0, none⟩) 2 2] 66)) ((w1.alloc (.cells #[.int .i64 2, .int .i64 0, .string ⟨#[98]⟩, .int .i64 1, .int .i64 1, .string ⟨#[]⟩] 56)).alloc (.cells #[.int .i64 1, .int .i64 1, .slice Af 1 1, .int .i64 2, .int .i64 1, .slice (some ⟨w1.heap.size, 0, none⟩) 2 2] 66)).heap.size (some ⟨w1.heap.size + 1, 0, none⟩) 2 2 [(1, 1, [(2, 0, ⟨#[97]⟩)]), (2, 1, [(2, 0, ⟨#[98]⟩), (1, 1, emp)])] := by
    have q := RdR.built2 (w1.alloc (.cells #[.int .i64 2, .int .i64 0, .string ⟨#[98]⟩, .int .i64 1, .int .i64 1, .string ⟨#[]⟩] 56)) 1 1 2 1 Af (some ⟨w1.heap.size, 0, none⟩) 1 1 2 2 [(2, 0, ⟨#[97]⟩)] [(2, 0, ⟨#[98]⟩), (1, 1, emp)] Hf.out Hq.out
    simpa only [World.size_alloc] using q
  have hbw3 := hbw2.alloc hbw2.size (.cells #[.int .i64 1, .int .i64 1, .slice Af 1 1, .int .i64 2, .int .i64 1, .slice (some ⟨w1.heap.size, 0, none⟩) 2 2] 66)
  have Hl3 := Lib.hid (RdR.stepA Hl.out (.cells #[.int .i64 1, .int .i64 1, .slice Af 1 1, .int .i64 2, .int .i64 1, .slice (some ⟨w1.heap.size, 0, none⟩) 2 2] 66))
  clear Hl
  have Hl := Hl3
  clear Hl3
  have Hf3 := Lib.hid (RdP.stepA Hf.out (.cells #[.int .i64 1, .int .i64 1, .slice Af 1 1, .int .i64 2, .int .i64 1, .slice (some ⟨w1.heap.size, 0, none⟩) 2 2] 66))
  clear Hf
  have Hf := Hf3
  clear Hf3
  have Hq3 := Lib.hid (RdP.stepA Hq.out (.cells #[.int .i64 1, .int .i64 1, .slice Af 1 1, .int .i64 2, .int .i64 1, .slice (some ⟨w1.heap.size, 0, none⟩) 2 2] 66))
  clear Hq
  have Hq := Hq3
  clear Hq3
  have Hh := Lib.hid hrh
  clear hrh
  clear Hq
  clear Hf
  have hc := undo_good ⟨#[]⟩ [(1, 1, [(2, 0, ⟨#[97]⟩)]), (2, 1, [(2, 0, ⟨#[98]⟩), (1, 1, emp)])] (some ⟨w1.heap.size + 1, 0, none⟩) 2 2 _ 1 0 ((w1.alloc (.cells #[.int .i64 2, .int .i64 0, .string ⟨#[98]⟩, .int .i64 1, .int .i64 1, .string ⟨#[]⟩] 56)).alloc (.cells #[.int .i64 1, .int .i64 1, .slice Af 1 1, .int .i64 2, .int .i64 1, .slice (some ⟨w1.heap.size, 0, none⟩) 2 2] 66)) Hh.out (Nat.le_refl _) (by decide) rfl (by decide) _ (fun _ => rfl) [(3, 1, emp)] (by decide) 0 [(1, 1, emp), (3, 1, emp)] ⟨by decide, fun _ => by decide⟩ (fun h => absurd rfl h)
  refine (hc).mono ?_
  rintro e w4 ⟨Ad0, nd0, cd0, rfl, hrd0, hb4⟩
  have hbw4 := hbw3.trans (hb4.mono hbw3.size)
  have Hl4 := Lib.hid (RdR.step Hl.out hb4)
  clear Hl
  have Hl := Hl4
  clear Hl4
  have Hh4 := Lib.hid (RdR.step Hh.out hb4)
  clear Hh
  have Hh := Hh4
  clear Hh4
  clear hb4
  clear hc
  have Hd0 := Lib.hid hrd0
  clear hrd0
  go_wp2_with fail
  clear Hh
  have hrq := RdP.builtS w4 #[.int .i64 1, .int .i64 1, .string ⟨#[]⟩, .int .i64 3, .int .i64 1, .string ⟨#[]⟩] [(1, 1, emp), (3, 1, emp)] 2 rfl rfl (by decide) (by decide)
  have hbw5 := hbw4.alloc hbw4.size (.cells #[.int .i64 1, .int .i64 1, .string ⟨#[]⟩, .int .i64 3, .int .i64 1, .string ⟨#[]⟩] 56)
  have Hl5 := Lib.hid (RdR.stepA Hl.out (.cells #[.int .i64 1, .int .i64 1, .string ⟨#[]⟩, .int .i64 3, .int .i64 1, .string ⟨#[]⟩] 56))
  clear Hl
  have Hl := Hl5
  clear Hl5
  have Hd05 := Lib.hid (RdP.stepA Hd0.out (.cells #[.int .i64 1, .int .i64 1, .string ⟨#[]⟩, .int .i64 3, .int .i64 1, .string ⟨#[]⟩] 56))
  clear Hd0
  have Hd0 := Hd05
  clear Hd05
  have Hq := Lib.hid hrq
  clear hrq
  refine (same_true [(1, 1, emp), (3, 1, emp)] [(1, 1, emp), (3, 1, emp)] Ad0 (some ⟨w4.heap.size, 0, none⟩) _ _ cd0 2 _ _ _ Hd0.out Hq.out rfl).mono ?_
  rintro e w6 ⟨rfl, hb6⟩
  have hbw6 := hbw5.trans (hb6.mono hbw5.size)
  have Hl6 := Lib.hid (RdR.step Hl.out hb6)
  clear Hl
  have Hl := Hl6
  clear Hl6
  have Hd06 := Lib.hid (RdP.step Hd0.out hb6)
  clear Hd0
  have Hd0 := Hd06
  clear Hd06
  have Hq6 := Lib.hid (RdP.step Hq.out hb6)
  clear Hq
  have Hq := Hq6
  clear Hq6
  clear hb6
  go_wp2_with fail
  clear Hd0
  clear Hq
  have hc := undo_good base l A n c _ k m w6 Hl.out (Nat.le_refl _) H1.out H2.out Hkn.out d HDd.out (turnL d S) (by rw [HS.out]) E [] ⟨HE.out, fun h => absurd h H5.out⟩ (fun _ => rfl)
  refine (hc).mono ?_
  rintro e w7 ⟨Ax, nx, cx, rfl, hrx, hb7⟩
  have hbw7 := hbw6.trans (hb7.mono hbw6.size)
  have Hl7 := Lib.hid (RdR.step Hl.out hb7)
  clear Hl
  have Hl := Hl7
  clear Hl7
  clear hb7
  clear hc
  have Hx := Lib.hid hrx
  clear hrx
  obtain rfl : nx = 0 := Hx.out.1
  go_wp2_with fail
  go_ret
  exact ⟨rfl, hbw7⟩
theorem undoOwn_ok (base : ByteArray) (l : List Rv) (A : Option Addr) (n c : Nat) (k m : Nat) (hs : base.size ≤ 140737488351232) (w : World) (h : RdR w w.heap.size A n c l) (h1 : txE base l = 0) (h2 : k = m + 1) (h3 : k ≤ n) (h4 : ∀ (hm : m < l.length), mtE (turnL (l[m]).2.2 (txt base l m)) (l.drop k) = 0) :
    Calls Try.prog 14 #[.string base, .slice A n c, .int .i64 k] w fun e w' => e = .returned (.bool true) ∧ Below w.heap.size w w' := by
  have hbw0 : Below w.heap.size w w := Below.refl _ _
  have Hl := Lib.hid h
  clear h
  have hn : n = l.length := Hl.out.1
  have Hn := Lib.hid hn
  have H2 := Lib.hid h2
  have H1 := Lib.hid h1
  obtain ⟨S, hS⟩ : ∃ S, txt base l m = S := ⟨_, rfl⟩
  obtain ⟨d, hd⟩ : ∃ d, ∀ (hm : m < l.length), (l[m]'hm).2.2 = d := ⟨(l[m]'(by omega)).2.2, fun _ => rfl⟩
  have HDd := Lib.hid hd
  have HS := Lib.hid hS
  have hn64 : (n : Int) ≤ 64 := by have := (txE_parts h1).2.1; omega
  have Hkn := Lib.hid h3
  have h5 := h4 (by omega)
  have hat := txr_at l base m (by omega) (txE_parts h1).2.2
  have hown := undo_own h1 m (by omega) d (hd _) (by rw [← hd (by omega), ← h2]; exact h5)
  rw [hd, hS] at h5
  rw [hd, hS] at hat
  rw [hS, ← h2] at hown
  have hT := turn_ok hat.2.1
  have hg := mt_good (l.drop k) (turnL d S) hT.2.1 h5
  obtain ⟨R, hR⟩ : ∃ R, mtL (turnL d S) (l.drop k) = R := ⟨_, rfl⟩
  obtain ⟨X, hX⟩ : ∃ X, blame base l = X := ⟨_, rfl⟩
  rw [hR] at hg
  rw [hR, hX] at hown
  have hl500 : X.length ≤ 500 := by rw [← hX, blame_len h1]; exact txt_size l base _ (txE_parts h1).1
  have H5 := Lib.hid h5
  have HR := Lib.hid hR
  have HX := Lib.hid hX
  have HF := Lib.hid (chk_parts hg.1).2.2.1
  have hR16 := (chk_parts hg.1).1
  have Hown := Lib.hid hown
  clear h4 h5 hR hX hg hown hT hat h1 h2 hn hS hd h3
  go_enter Try.func14, Try.ntmps14
  go_wp2_with fail
  refine (first_any ⟨#[97]⟩ (by decide) w).mono ?_
  rintro e w1 ⟨Af, rfl, hrf, hb1⟩
  have hbw1 := hbw0.trans (hb1.mono hbw0.size)
  have Hl1 := Lib.hid (RdR.step Hl.out hb1)
  clear Hl
  have Hl := Hl1
  clear Hl1
  clear hb1
  have Hf := Lib.hid hrf
  clear hrf
  go_wp2_with fail
  have hrq := RdP.builtS w1 #[.int .i64 2, .int .i64 0, .string ⟨#[98]⟩, .int .i64 1, .int .i64 1, .string ⟨#[]⟩] [(2, 0, ⟨#[98]⟩), (1, 1, emp)] 2 rfl rfl (by decide) (by decide)
  have hbw2 := hbw1.alloc hbw1.size (.cells #[.int .i64 2, .int .i64 0, .string ⟨#[98]⟩, .int .i64 1, .int .i64 1, .string ⟨#[]⟩] 56)
  have Hl2 := Lib.hid (RdR.stepA Hl.out (.cells #[.int .i64 2, .int .i64 0, .string ⟨#[98]⟩, .int .i64 1, .int .i64 1, .string ⟨#[]⟩] 56))
  clear Hl
  have Hl := Hl2
  clear Hl2
  have Hf2 := Lib.hid (RdP.stepA Hf.out (.cells #[.int .i64 2, .int .i64 0, .string ⟨#[98]⟩, .int .i64 1, .int .i64 1, .string ⟨#[]⟩] 56))
  clear Hf
  have Hf := Hf2
  clear Hf2
  have Hq := Lib.hid hrq
  clear hrq
  have hrh : RdR ((w1.alloc (.cells #[.int .i64 2, .int .i64 0, .string ⟨#[98]⟩, .int .i64 1, .int .i64 1, .string ⟨#[]⟩] 56)).alloc (.cells #[.int .i64 1, .int .i64 1, .slice Af 1 1, .int .i64 2, .int .i64 1, .slice (some ⟨w1.heap.size, 0, none⟩) 2 2] 66)) ((w1.alloc (.cells #[.int .i64 2, .int .i64 0, .string ⟨#[98]⟩, .int .i64 1, .int .i64 1, .string ⟨#[]⟩] 56)).alloc (.cells #[.int .i64 1, .int .i64 1, .slice Af 1 1, .int .i64 2, .int .i64 1, .slice (some ⟨w1.heap.size, 0, none⟩) 2 2] 66)).heap.size (some ⟨w1.heap.size + 1, 0, none⟩) 2 2 [(1, 1, [(2, 0, ⟨#[97]⟩)]), (2, 1, [(2, 0, ⟨#[98]⟩), (1, 1, emp)])] := by
    have q := RdR.built2 (w1.alloc (.cells #[.int .i64 2, .int .i64 0, .string ⟨#[98]⟩, .int .i64 1, .int .i64 1, .string ⟨#[]⟩] 56)) 1 1 2 1 Af (some ⟨w1.heap.size, 0, none⟩) 1 1 2 2 [(2, 0, ⟨#[97]⟩)] [(2, 0, ⟨#[98]⟩), (1, 1, emp)] Hf.out Hq.out
    simpa only [World.size_alloc] using q
  have hbw3 := hbw2.alloc hbw2.size (.cells #[.int .i64 1, .int .i64 1, .slice Af 1 1, .int .i64 2, .int .i64 1, .slice (some ⟨w1.heap.size, 0, none⟩) 2 2] 66)
  have Hl3 := Lib.hid (RdR.stepA Hl.out (.cells #[.int .i64 1, .int .i64 1, .slice Af 1 1, .int .i64 2, .int .i64 1, .slice (some ⟨w1.heap.size, 0, none⟩) 2 2] 66))
  clear Hl
  have Hl := Hl3
  clear Hl3
  have Hf3 := Lib.hid (RdP.stepA Hf.out (.cells #[.int .i64 1, .int .i64 1, .slice Af 1 1, .int .i64 2, .int .i64 1, .slice (some ⟨w1.heap.size, 0, none⟩) 2 2] 66))
  clear Hf
  have Hf := Hf3
  clear Hf3
  have Hq3 := Lib.hid (RdP.stepA Hq.out (.cells #[.int .i64 1, .int .i64 1, .slice Af 1 1, .int .i64 2, .int .i64 1, .slice (some ⟨w1.heap.size, 0, none⟩) 2 2] 66))
  clear Hq
  have Hq := Hq3
  clear Hq3
  have Hh := Lib.hid hrh
  clear hrh
  clear Hq
  clear Hf
  have hc := undo_good ⟨#[]⟩ [(1, 1, [(2, 0, ⟨#[97]⟩)]), (2, 1, [(2, 0, ⟨#[98]⟩), (1, 1, emp)])] (some ⟨w1.heap.size + 1, 0, none⟩) 2 2 _ 1 0 ((w1.alloc (.cells #[.int .i64 2, .int .i64 0, .string ⟨#[98]⟩, .int .i64 1, .int .i64 1, .string ⟨#[]⟩] 56)).alloc (.cells #[.int .i64 1, .int .i64 1, .slice Af 1 1, .int .i64 2, .int .i64 1, .slice (some ⟨w1.heap.size, 0, none⟩) 2 2] 66)) Hh.out (Nat.le_refl _) (by decide) rfl (by decide) _ (fun _ => rfl) [(3, 1, emp)] (by decide) 0 [(1, 1, emp), (3, 1, emp)] ⟨by decide, fun _ => by decide⟩ (fun h => absurd rfl h)
  refine (hc).mono ?_
  rintro e w4 ⟨Ad0, nd0, cd0, rfl, hrd0, hb4⟩
  have hbw4 := hbw3.trans (hb4.mono hbw3.size)
  have Hl4 := Lib.hid (RdR.step Hl.out hb4)
  clear Hl
  have Hl := Hl4
  clear Hl4
  have Hh4 := Lib.hid (RdR.step Hh.out hb4)
  clear Hh
  have Hh := Hh4
  clear Hh4
  clear hb4
  clear hc
  have Hd0 := Lib.hid hrd0
  clear hrd0
  go_wp2_with fail
  clear Hh
  have hrq := RdP.builtS w4 #[.int .i64 1, .int .i64 1, .string ⟨#[]⟩, .int .i64 3, .int .i64 1, .string ⟨#[]⟩] [(1, 1, emp), (3, 1, emp)] 2 rfl rfl (by decide) (by decide)
  have hbw5 := hbw4.alloc hbw4.size (.cells #[.int .i64 1, .int .i64 1, .string ⟨#[]⟩, .int .i64 3, .int .i64 1, .string ⟨#[]⟩] 56)
  have Hl5 := Lib.hid (RdR.stepA Hl.out (.cells #[.int .i64 1, .int .i64 1, .string ⟨#[]⟩, .int .i64 3, .int .i64 1, .string ⟨#[]⟩] 56))
  clear Hl
  have Hl := Hl5
  clear Hl5
  have Hd05 := Lib.hid (RdP.stepA Hd0.out (.cells #[.int .i64 1, .int .i64 1, .string ⟨#[]⟩, .int .i64 3, .int .i64 1, .string ⟨#[]⟩] 56))
  clear Hd0
  have Hd0 := Hd05
  clear Hd05
  have Hq := Lib.hid hrq
  clear hrq
  refine (same_true [(1, 1, emp), (3, 1, emp)] [(1, 1, emp), (3, 1, emp)] Ad0 (some ⟨w4.heap.size, 0, none⟩) _ _ cd0 2 _ _ _ Hd0.out Hq.out rfl).mono ?_
  rintro e w6 ⟨rfl, hb6⟩
  have hbw6 := hbw5.trans (hb6.mono hbw5.size)
  have Hl6 := Lib.hid (RdR.step Hl.out hb6)
  clear Hl
  have Hl := Hl6
  clear Hl6
  have Hd06 := Lib.hid (RdP.step Hd0.out hb6)
  clear Hd0
  have Hd0 := Hd06
  clear Hd06
  have Hq6 := Lib.hid (RdP.step Hq.out hb6)
  clear Hq
  have Hq := Hq6
  clear Hq6
  clear hb6
  go_wp2_with fail
  clear Hd0
  clear Hq
  have hc := undo_good base l A n c _ k m w6 Hl.out (Nat.le_refl _) H1.out H2.out Hkn.out d HDd.out (turnL d S) (by rw [HS.out]) 0 R ⟨H5.out, fun _ => HR.out⟩ (fun h => absurd rfl h)
  refine (hc).mono ?_
  rintro e w7 ⟨Ar, nr, cr, rfl, hrr, hb7⟩
  have hbw7 := hbw6.trans (hb7.mono hbw6.size)
  have Hl7 := Lib.hid (RdR.step Hl.out hb7)
  clear Hl
  have Hl := Hl7
  clear Hl7
  clear hb7
  clear hc
  have Hr := Lib.hid hrr
  clear hrr
  go_wp2_with fail
  have hc := blame_good base l A n c _ w7 Hl.out (Nat.le_refl _) H1.out X HX.out
  refine (hc).mono ?_
  rintro e w8 ⟨Ax, nx, cx, rfl, hrx, hb8⟩
  have hbw8 := hbw7.trans (hb8.mono hbw7.size)
  have Hl8 := Lib.hid (RdR.step Hl.out hb8)
  clear Hl
  have Hl := Hl8
  clear Hl8
  have Hr8 := Lib.hid (RdP.step Hr.out hb8)
  clear Hr
  have Hr := Hr8
  clear Hr8
  clear hb8
  clear hc
  have Hx := Lib.hid hrx
  clear hrx
  go_wp2_with fail
  have hnr : (nr : Int) ≤ 1600 := by have := Hr.out.1; omega
  have hnx : (nx : Int) ≤ 500 := by have := Hx.out.1; omega
  have Hnx := Lib.hid Hx.out.1
  have hxle := Hx.out.le
  go_loopw [12, 14, 15, 58] (fun av pv iv jv wr => ∃ (j a : Nat), j ≤ nr ∧ jv = .int .i64 j ∧ av = .int .i64 a ∧ (a : Int) ≤ (nx : Int) ∧ Hid (chkO (k : Int) (units (R.drop j)) (X.drop a) ∧ nI (units (R.drop j)) = (X.drop a).length) ∧ Below w8.heap.size w8 wr) (fun _ _ _ j _ => nr - (intOf j).toNat)
  case atStart => exact ⟨0, 0, by omega, rfl, rfl, by omega, by simpa using Hown, Below.refl _ _⟩
  case round =>
    obtain ⟨j, a, hj, rfl, rfl, han, hch, hbw⟩ := hrel
    by_cases hlt : j < nr
    · have hkl : j < R.length := by have := Hr.out.1; omega
      obtain ⟨b6, o6, rfl, hb6, p0, p1, p2⟩ := (Hr.out.below hbw).at_ j hlt
      have hdr : R.drop j = R[j] :: R.drop (j + 1) := List.drop_eq_getElem_cons hkl
      rw [hdr] at hch
      have hsh := HF.out R[j] (List.getElem_mem hkl)
      obtain ⟨p, hp⟩ : ∃ p, p = R[j] := ⟨_, rfl⟩
      rw [← hp] at hch hsh p0 p1 p2
      clear hp hdr
      obtain ⟨kd, m2, t⟩ := p
      simp only at p0 p1 p2
      obtain ⟨z, rfl, hz1, hz2, hz3, hz4⟩ := chk_part (k : Int) hsh hch.out.1 hch.out.2 (by have := Hnx.out; omega)
      have Hz2 := Lib.hid hz2
      have Hnxt := Lib.hid (And.intro hz3 hz4)
      have haz : (a : Int) + (z : Int) ≤ (nx : Int) := by have := Hnx.out; omega
      have hj0 : (0 : Int) ≤ (j : Int) := by omega
      have hjn : (j : Int) < (nr : Int) := by omega
      have hgl : b6 < wr.heap.size := by have := hbw.size; omega
      have hw7 := hbw.alloc hbw.size (.cells #[.int .i64 kd, .int .i64 z, .string t] 56)
      have kp := Blk.new wr 56 #[.int .i64 kd, .int .i64 z, .string t]
      have Kp := Lib.hid kp
      clear hsh hz1 hz2 hz3 hz4 hch kp
      go_wp2_with fail
      obtain ⟨W7, hW7⟩ : ∃ W7, wr.alloc (.cells #[.int .i64 kd, .int .i64 z, .string t] 56) = W7 := ⟨_, rfl⟩
      obtain ⟨gp, hgp⟩ : ∃ gp, wr.heap.size = gp := ⟨_, rfl⟩
      rw [hW7] at Kp hw7 ⊢
      rw [hgp] at Kp ⊢
      clear hW7 p0 p1 p2 hgl hgp
      have q0 := Kp.out.cell 0
      have q1 := Kp.out.cell 1
      have lp := Kp.out.lt
      go_loopw [15, 64] (fun iv jv wr2 => ∃ (i q : Nat), i ≤ z ∧ jv = .int .i64 i ∧ wr2 = W7.drewN q) (fun _ j _ => z - (intOf j).toNat)
      case atStart => exact ⟨0, 0, by omega, rfl, rfl⟩
      case round =>
        obtain ⟨i, q, hi, rfl, rfl⟩ := hrel
        by_cases hlt2 : i < z
        · have hix : a + i < X.length := by have := Hnx.out; omega
          obtain ⟨b, o, rfl, hbb, hcx⟩ := (Hx.out.below hw7).at_ (a + i) (by have := Hnx.out; omega)
          have he := Hz2.out i hlt2 hix
          generalize X[a + i] = v at *
          have hi0 : (0 : Int) ≤ (i : Int) := by omega
          have hiz : (i : Int) < (z : Int) := by omega
          have hwr1 : IntKind.i64.wrap ((a : Int) + (i : Int)) = (a : Int) + (i : Int) := IntWalk.i64_in _ (by omega)
          have hge : decide ((nx : Int) ≤ (a : Int) + (i : Int)) = false := by simp; omega
          have hai0 : (0 : Int) ≤ (a : Int) + (i : Int) := by omega
          have hain : (a : Int) + (i : Int) < (nx : Int) := by omega
          have htn : ((a : Int) + (i : Int)).toNat = a + i := by omega
          obtain ⟨bb, hbb2⟩ : ∃ bb, (kd == 3) = bb := ⟨_, rfl⟩
          rw [hbb2] at he
          cases bb
          all_goals
            go_wp2_with fail
            go_quiet (fail)
            go_wp2_with fail
            go_roundw
            case rel => exact ⟨i + 1, _, by omega, by go_num, rfl⟩
            case measure => simp [intOf]; omega
        · have hiz : decide (i < z) = false := by simpa using hlt2
          have hw8 := below_drewN_ hw7 q
          go_wp2_with fail
          go_roundw
          case rel => exact ⟨j + 1, a + z, by omega, by go_num, by go_num, by omega, Hnxt, hw8⟩
          case measure => simp [intOf]; omega
    · have hjn : decide (j < nr) = false := by simpa using hlt
      have ha : a = nx := by
        have h1 := hch.out.2
        rw [List.drop_eq_nil_of_le (by have := Hr.out.1; omega), List.length_drop] at h1
        have h2 : (0 : Nat) = X.length - a := h1
        have := Hnx.out
        omega
      subst ha
      have hwf := hbw8.trans (hbw.mono hbw8.size)
      clear hch
      go_wp2_with fail
      go_ret
      exact ⟨rfl, hwf⟩
theorem walk_UndoOwn (base : ByteArray) (hs : base.size ≤ 140737488351232) (v : Value) (l : List Rv) (k : Int) (wk : (Lit.int .i64 k).wf = true) (w : World) (hx : IsRevs w v l) :
    Calls Try.prog 14 #[.string base, v, .int .i64 k] w fun e w' => e = .returned (.bool true) ∧ Below w.heap.size w w' := by
  obtain ⟨A, n, c, rfl, h⟩ := hx
  by_cases h1 : txE base l = 0
  · by_cases h2 : k < 1 ∨ (n : Int) < k
    · exact undoOwn_arg base l A n c k hs w h h1 h2
    · obtain ⟨q, rfl⟩ : ∃ q : Nat, k = (q : Int) := ⟨k.toNat, by omega⟩
      have hn : n = l.length := h.1
      by_cases h4 : mtE (turnL (l[q - 1]'(by omega)).2.2 (txt base l (q - 1))) (l.drop q) = 0
      · exact undoOwn_ok base l A n c q (q - 1) hs w h h1 (by omega) (by omega) fun _ => h4
      · exact undoOwn_no base l A n c q (q - 1) hs w h h1 (by omega) (by omega) fun _ => h4
  · exact undoOwn_err base l A n c k hs w h h1
end Go.Proofs.Ytcclcgapcnjcdaa
