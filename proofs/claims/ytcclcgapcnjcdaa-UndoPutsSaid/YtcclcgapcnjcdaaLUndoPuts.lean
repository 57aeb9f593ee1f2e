/- UndoPuts: the walk. As a revision is taken back all is put again that it cut. -/
import Derived.Test.YtcclcgapcnjcdaaUndo
import Derived.Test.YtcclcgapcnjcdaaFirst
import Derived.Test.YtcclcgapcnjcdaaOpenRevs
namespace Go.Proofs.Ytcclcgapcnjcdaa
open Go.ChangeShapes Go.WideShapes Go.RowKit
set_option linter.unusedVariables false
set_option linter.unusedSimpArgs false
set_option maxRecDepth 100000
set_option maxHeartbeats 4000000


theorem szP_snoc_ (l : List Pt) (p : Pt) : szP (l ++ [p]) = szP l + (p.2.2.size : Int) := by
  induction l with
  | nil => simp [szP]
  | cons q l ih => simp only [List.cons_append, szP, ih]; omega
theorem szC_snoc (l : List Pt) (p : Pt) : szC (l ++ [p]) = szC l + (if p.1 = 3 then p.2.1 else 0) := by
  induction l with
  | nil => simp [szC]
  | cons q l ih => simp only [List.cons_append, szC, ih]; omega

theorem undoPuts_err (base : ByteArray) (l : List Rv) (A : Option Addr) (n c : Nat) (k : Int) (hs : base.size ≤ 140737488351232) (w : World) (h : RdR w w.heap.size A n c l) (h1 : txE base l ≠ 0) :
    Calls Try.prog 12 #[.string base, .slice A n c, .int .i64 k] w fun e w' => e = .returned (.bool true) ∧ Below w.heap.size w w' := by
  have hbw0 : Below w.heap.size w w := Below.refl _ _
  have Hl := Lib.hid h
  clear h
  have hne : (txE base l != 0) = true := by simpa using h1
  have H1 := Lib.hid h1
  clear h1
  go_enter Try.func12, Try.ntmps12
  go_wp2_with fail
  have hrq := RdP.builtS w #[.int .i64 3, .int .i64 2, .string ⟨#[]⟩] [(3, 2, emp)] 1 rfl rfl (by decide) (by decide)
  have hbw1 := hbw0.alloc hbw0.size (.cells #[.int .i64 3, .int .i64 2, .string ⟨#[]⟩] 56)
  have Hl1 := Lib.hid (RdR.stepA Hl.out (.cells #[.int .i64 3, .int .i64 2, .string ⟨#[]⟩] 56))
  clear Hl
  have Hl := Hl1
  clear Hl1
  have Hq := Lib.hid hrq
  clear hrq
  have hrh : RdR ((w.alloc (.cells #[.int .i64 3, .int .i64 2, .string ⟨#[]⟩] 56)).alloc (.cells #[.int .i64 0, .int .i64 1, .slice (some ⟨w.heap.size, 0, none⟩) 1 1] 66)) ((w.alloc (.cells #[.int .i64 3, .int .i64 2, .string ⟨#[]⟩] 56)).alloc (.cells #[.int .i64 0, .int .i64 1, .slice (some ⟨w.heap.size, 0, none⟩) 1 1] 66)).heap.size (some ⟨w.heap.size + 1, 0, none⟩) 1 1 [(0, 1, [(3, 2, emp)])] := by
    have q := RdR.built1 (w.alloc (.cells #[.int .i64 3, .int .i64 2, .string ⟨#[]⟩] 56)) 0 1 (some ⟨w.heap.size, 0, none⟩) 1 1 [(3, 2, emp)] Hq.out
    simpa only [World.size_alloc] using q
  have hbw2 := hbw1.alloc hbw1.size (.cells #[.int .i64 0, .int .i64 1, .slice (some ⟨w.heap.size, 0, none⟩) 1 1] 66)
  have Hl2 := Lib.hid (RdR.stepA Hl.out (.cells #[.int .i64 0, .int .i64 1, .slice (some ⟨w.heap.size, 0, none⟩) 1 1] 66))
  clear Hl
  have Hl := Hl2
  clear Hl2
  have Hq2 := Lib.hid (RdP.stepA Hq.out (.cells #[.int .i64 0, .int .i64 1, .slice (some ⟨w.heap.size, 0, none⟩) 1 1] 66))
  clear Hq
  have Hq := Hq2
  clear Hq2
  have Hh := Lib.hid hrh
  clear hrh
  have hc := undo_good (⟨#[97, 98]⟩) [(0, 1, [(3, 2, emp)])] (some ⟨w.heap.size + 1, 0, none⟩) 1 1 _ 1 0 ((w.alloc (.cells #[.int .i64 3, .int .i64 2, .string ⟨#[]⟩] 56)).alloc (.cells #[.int .i64 0, .int .i64 1, .slice (some ⟨w.heap.size, 0, none⟩) 1 1] 66)) Hh.out (Nat.le_refl _) (by decide) rfl (by decide) _ (fun _ => rfl) [(2, 0, ⟨#[97, 98]⟩)] (by decide) 0 [(2, 0, ⟨#[97, 98]⟩)] ⟨rfl, fun _ => rfl⟩ (fun h => absurd rfl h)
  refine (hc).mono ?_
  rintro e w3 ⟨Ad0, nd0, cd0, rfl, hrd0, hb3⟩
  have hbw3 := hbw2.trans (hb3.mono hbw2.size)
  have Hl3 := Lib.hid (RdR.step Hl.out hb3)
  clear Hl
  have Hl := Hl3
  clear Hl3
  have Hq3 := Lib.hid (RdP.step Hq.out hb3)
  clear Hq
  have Hq := Hq3
  clear Hq3
  have Hh3 := Lib.hid (RdR.step Hh.out hb3)
  clear Hh
  have Hh := Hh3
  clear Hh3
  clear hb3
  clear hc
  have Hd0 := Lib.hid hrd0
  clear hrd0
  go_wp2_with fail
  clear Hh
  clear Hq
  have hc := put_any ⟨#[97, 98]⟩ (by decide) w3
  refine (hc).mono ?_
  rintro e w4 ⟨Aq, rfl, hrq, hb4⟩
  have hbw4 := hbw3.trans (hb4.mono hbw3.size)
  have Hl4 := Lib.hid (RdR.step Hl.out hb4)
  clear Hl
  have Hl := Hl4
  clear Hl4
  have Hd04 := Lib.hid (RdP.step Hd0.out hb4)
  clear Hd0
  have Hd0 := Hd04
  clear Hd04
  clear hb4
  clear hc
  have Hq := Lib.hid hrq
  clear hrq
  go_wp2_with fail
  refine (same_true [(2, 0, ⟨#[97, 98]⟩)] [(2, 0, ⟨#[97, 98]⟩)] Ad0 Aq _ _ cd0 1 _ _ _ Hd0.out Hq.out rfl).mono ?_
  rintro e w5 ⟨rfl, hb5⟩
  have hbw5 := hbw4.trans (hb5.mono hbw4.size)
  have Hl5 := Lib.hid (RdR.step Hl.out hb5)
  clear Hl
  have Hl := Hl5
  clear Hl5
  have Hd05 := Lib.hid (RdP.step Hd0.out hb5)
  clear Hd0
  have Hd0 := Hd05
  clear Hd05
  have Hq5 := Lib.hid (RdP.step Hq.out hb5)
  clear Hq
  have Hq := Hq5
  clear Hq5
  clear hb5
  go_wp2_with fail
  clear Hd0
  clear Hq
  refine (undo_err base l A n c _ k _ Hl.out (Nat.le_refl _) (by omega) H1.out).mono ?_
  rintro e w6 ⟨rfl, hb6⟩
  have hbw6 := hbw5.trans (hb6.mono hbw5.size)
  have Hl6 := Lib.hid (RdR.step Hl.out hb6)
  clear Hl
  have Hl := Hl6
  clear Hl6
  clear hb6
  go_wp2_with fail
  go_ret
  exact ⟨rfl, hbw6⟩
theorem undoPuts_arg (base : ByteArray) (l : List Rv) (A : Option Addr) (n c : Nat) (k : Int) (hs : base.size ≤ 140737488351232) (w : World) (h : RdR w w.heap.size A n c l) (h1 : txE base l = 0) (h2 : k < 1 ∨ (n : Int) < k) :
    Calls Try.prog 12 #[.string base, .slice A n c, .int .i64 k] w fun e w' => e = .returned (.bool true) ∧ Below w.heap.size w w' := by
  have hbw0 : Below w.heap.size w w := Below.refl _ _
  have Hl := Lib.hid h
  clear h
  have H1 := Lib.hid h1
  clear h1
  have H2 := Lib.hid h2
  clear h2
  go_enter Try.func12, Try.ntmps12
  go_wp2_with fail
  have hrq := RdP.builtS w #[.int .i64 3, .int .i64 2, .string ⟨#[]⟩] [(3, 2, emp)] 1 rfl rfl (by decide) (by decide)
  have hbw1 := hbw0.alloc hbw0.size (.cells #[.int .i64 3, .int .i64 2, .string ⟨#[]⟩] 56)
  have Hl1 := Lib.hid (RdR.stepA Hl.out (.cells #[.int .i64 3, .int .i64 2, .string ⟨#[]⟩] 56))
  clear Hl
  have Hl := Hl1
  clear Hl1
  have Hq := Lib.hid hrq
  clear hrq
  have hrh : RdR ((w.alloc (.cells #[.int .i64 3, .int .i64 2, .string ⟨#[]⟩] 56)).alloc (.cells #[.int .i64 0, .int .i64 1, .slice (some ⟨w.heap.size, 0, none⟩) 1 1] 66)) ((w.alloc (.cells #[.int .i64 3, .int .i64 2, .string ⟨#[]⟩] 56)).alloc (.cells #[.int .i64 0, .int .i64 1, .slice (some ⟨w.heap.size, 0, none⟩) 1 1] 66)).heap.size (some ⟨w.heap.size + 1, 0, none⟩) 1 1 [(0, 1, [(3, 2, emp)])] := by
    have q := RdR.built1 (w.alloc (.cells #[.int .i64 3, .int .i64 2, .string ⟨#[]⟩] 56)) 0 1 (some ⟨w.heap.size, 0, none⟩) 1 1 [(3, 2, emp)] Hq.out
    simpa only [World.size_alloc] using q
  have hbw2 := hbw1.alloc hbw1.size (.cells #[.int .i64 0, .int .i64 1, .slice (some ⟨w.heap.size, 0, none⟩) 1 1] 66)
  have Hl2 := Lib.hid (RdR.stepA Hl.out (.cells #[.int .i64 0, .int .i64 1, .slice (some ⟨w.heap.size, 0, none⟩) 1 1] 66))
  clear Hl
  have Hl := Hl2
  clear Hl2
  have Hq2 := Lib.hid (RdP.stepA Hq.out (.cells #[.int .i64 0, .int .i64 1, .slice (some ⟨w.heap.size, 0, none⟩) 1 1] 66))
  clear Hq
  have Hq := Hq2
  clear Hq2
  have Hh := Lib.hid hrh
  clear hrh
  have hc := undo_good (⟨#[97, 98]⟩) [(0, 1, [(3, 2, emp)])] (some ⟨w.heap.size + 1, 0, none⟩) 1 1 _ 1 0 ((w.alloc (.cells #[.int .i64 3, .int .i64 2, .string ⟨#[]⟩] 56)).alloc (.cells #[.int .i64 0, .int .i64 1, .slice (some ⟨w.heap.size, 0, none⟩) 1 1] 66)) Hh.out (Nat.le_refl _) (by decide) rfl (by decide) _ (fun _ => rfl) [(2, 0, ⟨#[97, 98]⟩)] (by decide) 0 [(2, 0, ⟨#[97, 98]⟩)] ⟨rfl, fun _ => rfl⟩ (fun h => absurd rfl h)
  refine (hc).mono ?_
  rintro e w3 ⟨Ad0, nd0, cd0, rfl, hrd0, hb3⟩
  have hbw3 := hbw2.trans (hb3.mono hbw2.size)
  have Hl3 := Lib.hid (RdR.step Hl.out hb3)
  clear Hl
  have Hl := Hl3
  clear Hl3
  have Hq3 := Lib.hid (RdP.step Hq.out hb3)
  clear Hq
  have Hq := Hq3
  clear Hq3
  have Hh3 := Lib.hid (RdR.step Hh.out hb3)
  clear Hh
  have Hh := Hh3
  clear Hh3
  clear hb3
  clear hc
  have Hd0 := Lib.hid hrd0
  clear hrd0
  go_wp2_with fail
  clear Hh
  clear Hq
  have hc := put_any ⟨#[97, 98]⟩ (by decide) w3
  refine (hc).mono ?_
  rintro e w4 ⟨Aq, rfl, hrq, hb4⟩
  have hbw4 := hbw3.trans (hb4.mono hbw3.size)
  have Hl4 := Lib.hid (RdR.step Hl.out hb4)
  clear Hl
  have Hl := Hl4
  clear Hl4
  have Hd04 := Lib.hid (RdP.step Hd0.out hb4)
  clear Hd0
  have Hd0 := Hd04
  clear Hd04
  clear hb4
  clear hc
  have Hq := Lib.hid hrq
  clear hrq
  go_wp2_with fail
  refine (same_true [(2, 0, ⟨#[97, 98]⟩)] [(2, 0, ⟨#[97, 98]⟩)] Ad0 Aq _ _ cd0 1 _ _ _ Hd0.out Hq.out rfl).mono ?_
  rintro e w5 ⟨rfl, hb5⟩
  have hbw5 := hbw4.trans (hb5.mono hbw4.size)
  have Hl5 := Lib.hid (RdR.step Hl.out hb5)
  clear Hl
  have Hl := Hl5
  clear Hl5
  have Hd05 := Lib.hid (RdP.step Hd0.out hb5)
  clear Hd0
  have Hd0 := Hd05
  clear Hd05
  have Hq5 := Lib.hid (RdP.step Hq.out hb5)
  clear Hq
  have Hq := Hq5
  clear Hq5
  clear hb5
  go_wp2_with fail
  clear Hd0
  clear Hq
  refine (undo_arg base l A n c _ k _ Hl.out (Nat.le_refl _) (by omega) H1.out H2.out).mono ?_
  rintro e w6 ⟨rfl, hb6⟩
  have hbw6 := hbw5.trans (hb6.mono hbw5.size)
  have Hl6 := Lib.hid (RdR.step Hl.out hb6)
  clear Hl
  have Hl := Hl6
  clear Hl6
  clear hb6
  go_wp2_with fail
  go_ret
  exact ⟨rfl, hbw6⟩
theorem undoPuts_no (base : ByteArray) (l : List Rv) (A : Option Addr) (n c : Nat) (k m : Nat) (hs : base.size ≤ 140737488351232) (w : World) (h : RdR w w.heap.size A n c l) (h1 : txE base l = 0) (h2 : k = m + 1) (h3 : k ≤ n) (h4 : ∀ (hm : m < l.length), mtE (turnL (l[m]).2.2 (txt base l m)) (l.drop k) ≠ 0) :
    Calls Try.prog 12 #[.string base, .slice A n c, .int .i64 k] w fun e w' => e = .returned (.bool true) ∧ Below w.heap.size w w' := by
  have hbw0 : Below w.heap.size w w := Below.refl _ _
  have Hl := Lib.hid h
  clear h
  have hn : n = l.length := Hl.out.1
  have Hn := Lib.hid hn
  have H2 := Lib.hid h2
  have H1 := Lib.hid h1
  obtain ⟨S, hS⟩ : ∃ S, txt base l m = S := ⟨_, rfl⟩
  obtain ⟨d, hd⟩ : ∃ d, ∀ (hm : m < l.length), (l[m]'hm).2.2 = d := ⟨(l[m]'(by omega)).2.2, fun _ => rfl⟩
  have hat := txr_at l base m (by omega) (txE_parts h1).2.2
  rw [hd, hS] at hat
  have Hat := Lib.hid hat.2
  have HDd := Lib.hid hd
  have HS := Lib.hid hS
  have hn64 : (n : Int) ≤ 64 := by have := (txE_parts h1).2.1; omega
  have hk1 : (1 : Int) ≤ (k : Int) := by omega
  have hkn : (k : Int) ≤ (n : Int) := by omega
  have hkm : (k : Int) - 1 = (m : Int) := by omega
  have hm0 : (0 : Int) ≤ (m : Int) := by omega
  have hmn : (m : Int) < (n : Int) := by omega
  have Hkn := Lib.hid h3
  clear h1 h2 hn hS hd hat h3
  have h5 := h4 (by have := Hn.out; have := Hkn.out; have := H2.out; omega)
  rw [HDd.out, HS.out] at h5
  obtain ⟨E, hE⟩ : ∃ E, mtE (turnL d S) (l.drop k) = E := ⟨_, rfl⟩
  rw [hE] at h5
  have HE := Lib.hid hE
  have H5 := Lib.hid h5
  have hne : (E != 0) = true := by simpa using h5
  clear h4 h5 hE
  go_enter Try.func12, Try.ntmps12
  go_wp2_with fail
  have hrq := RdP.builtS w #[.int .i64 3, .int .i64 2, .string ⟨#[]⟩] [(3, 2, emp)] 1 rfl rfl (by decide) (by decide)
  have hbw1 := hbw0.alloc hbw0.size (.cells #[.int .i64 3, .int .i64 2, .string ⟨#[]⟩] 56)
  have Hl1 := Lib.hid (RdR.stepA Hl.out (.cells #[.int .i64 3, .int .i64 2, .string ⟨#[]⟩] 56))
  clear Hl
  have Hl := Hl1
  clear Hl1
  have Hq := Lib.hid hrq
  clear hrq
  have hrh : RdR ((w.alloc (.cells #[.int .i64 3, .int .i64 2, .string ⟨#[]⟩] 56)).alloc (.cells #[.int .i64 0, .int .i64 1, .slice (some ⟨w.heap.size, 0, none⟩) 1 1] 66)) ((w.alloc (.cells #[.int .i64 3, .int .i64 2, .string ⟨#[]⟩] 56)).alloc (.cells #[.int .i64 0, .int .i64 1, .slice (some ⟨w.heap.size, 0, none⟩) 1 1] 66)).heap.size (some ⟨w.heap.size + 1, 0, none⟩) 1 1 [(0, 1, [(3, 2, emp)])] := by
    have q := RdR.built1 (w.alloc (.cells #[.int .i64 3, .int .i64 2, .string ⟨#[]⟩] 56)) 0 1 (some ⟨w.heap.size, 0, none⟩) 1 1 [(3, 2, emp)] Hq.out
    simpa only [World.size_alloc] using q
  have hbw2 := hbw1.alloc hbw1.size (.cells #[.int .i64 0, .int .i64 1, .slice (some ⟨w.heap.size, 0, none⟩) 1 1] 66)
  have Hl2 := Lib.hid (RdR.stepA Hl.out (.cells #[.int .i64 0, .int .i64 1, .slice (some ⟨w.heap.size, 0, none⟩) 1 1] 66))
  clear Hl
  have Hl := Hl2
  clear Hl2
  have Hq2 := Lib.hid (RdP.stepA Hq.out (.cells #[.int .i64 0, .int .i64 1, .slice (some ⟨w.heap.size, 0, none⟩) 1 1] 66))
  clear Hq
  have Hq := Hq2
  clear Hq2
  have Hh := Lib.hid hrh
  clear hrh
  have hc := undo_good (⟨#[97, 98]⟩) [(0, 1, [(3, 2, emp)])] (some ⟨w.heap.size + 1, 0, none⟩) 1 1 _ 1 0 ((w.alloc (.cells #[.int .i64 3, .int .i64 2, .string ⟨#[]⟩] 56)).alloc (.cells #[.int .i64 0, .int .i64 1, .slice (some ⟨w.heap.size, 0, none⟩) 1 1] 66)) Hh.out (Nat.le_refl _) (by decide) rfl (by decide) _ (fun _ => rfl) [(2, 0, ⟨#[97, 98]⟩)] (by decide) 0 [(2, 0, ⟨#[97, 98]⟩)] ⟨rfl, fun _ => rfl⟩ (fun h => absurd rfl h)
  refine (hc).mono ?_
  rintro e w3 ⟨Ad0, nd0, cd0, rfl, hrd0, hb3⟩
  have hbw3 := hbw2.trans (hb3.mono hbw2.size)
  have Hl3 := Lib.hid (RdR.step Hl.out hb3)
  clear Hl
  have Hl := Hl3
  clear Hl3
  have Hq3 := Lib.hid (RdP.step Hq.out hb3)
  clear Hq
  have Hq := Hq3
  clear Hq3
  have Hh3 := Lib.hid (RdR.step Hh.out hb3)
  clear Hh
  have Hh := Hh3
  clear Hh3
  clear hb3
  clear hc
  have Hd0 := Lib.hid hrd0
  clear hrd0
  go_wp2_with fail
  clear Hh
  clear Hq
  have hc := put_any ⟨#[97, 98]⟩ (by decide) w3
  refine (hc).mono ?_
  rintro e w4 ⟨Aq, rfl, hrq, hb4⟩
  have hbw4 := hbw3.trans (hb4.mono hbw3.size)
  have Hl4 := Lib.hid (RdR.step Hl.out hb4)
  clear Hl
  have Hl := Hl4
  clear Hl4
  have Hd04 := Lib.hid (RdP.step Hd0.out hb4)
  clear Hd0
  have Hd0 := Hd04
  clear Hd04
  clear hb4
  clear hc
  have Hq := Lib.hid hrq
  clear hrq
  go_wp2_with fail
  refine (same_true [(2, 0, ⟨#[97, 98]⟩)] [(2, 0, ⟨#[97, 98]⟩)] Ad0 Aq _ _ cd0 1 _ _ _ Hd0.out Hq.out rfl).mono ?_
  rintro e w5 ⟨rfl, hb5⟩
  have hbw5 := hbw4.trans (hb5.mono hbw4.size)
  have Hl5 := Lib.hid (RdR.step Hl.out hb5)
  clear Hl
  have Hl := Hl5
  clear Hl5
  have Hd05 := Lib.hid (RdP.step Hd0.out hb5)
  clear Hd0
  have Hd0 := Hd05
  clear Hd05
  have Hq5 := Lib.hid (RdP.step Hq.out hb5)
  clear Hq
  have Hq := Hq5
  clear Hq5
  clear hb5
  go_wp2_with fail
  clear Hd0
  clear Hq
  have hc := undo_good base l A n c _ k m w5 Hl.out (Nat.le_refl _) H1.out H2.out Hkn.out d HDd.out (turnL d S) (by rw [HS.out]) E [] ⟨HE.out, fun h => absurd h H5.out⟩ (fun _ => rfl)
  refine (hc).mono ?_
  rintro e w6 ⟨Ax, nx, cx, rfl, hrx, hb6⟩
  have hbw6 := hbw5.trans (hb6.mono hbw5.size)
  have Hl6 := Lib.hid (RdR.step Hl.out hb6)
  clear Hl
  have Hl := Hl6
  clear Hl6
  clear hb6
  clear hc
  have Hx := Lib.hid hrx
  clear hrx
  obtain rfl : nx = 0 := Hx.out.1
  go_wp2_with fail
  go_ret
  exact ⟨rfl, hbw6⟩
theorem undoPuts_ok (base : ByteArray) (l : List Rv) (A : Option Addr) (n c : Nat) (k m : Nat) (hs : base.size ≤ 140737488351232) (w : World) (h : RdR w w.heap.size A n c l) (h1 : txE base l = 0) (h2 : k = m + 1) (h3 : k ≤ n) (h4 : ∀ (hm : m < l.length), mtE (turnL (l[m]).2.2 (txt base l m)) (l.drop k) = 0) :
    Calls Try.prog 12 #[.string base, .slice A n c, .int .i64 k] w fun e w' => e = .returned (.bool true) ∧ Below w.heap.size w w' := by
  have hbw0 : Below w.heap.size w w := Below.refl _ _
  have Hl := Lib.hid h
  clear h
  have hn : n = l.length := Hl.out.1
  have Hn := Lib.hid hn
  have H2 := Lib.hid h2
  have H1 := Lib.hid h1
  obtain ⟨S, hS⟩ : ∃ S, txt base l m = S := ⟨_, rfl⟩
  obtain ⟨d, hd⟩ : ∃ d, ∀ (hm : m < l.length), (l[m]'hm).2.2 = d := ⟨(l[m]'(by omega)).2.2, fun _ => rfl⟩
  have hat := txr_at l base m (by omega) (txE_parts h1).2.2
  rw [hd, hS] at hat
  have Hat := Lib.hid hat.2
  have HDd := Lib.hid hd
  have HS := Lib.hid hS
  have hn64 : (n : Int) ≤ 64 := by have := (txE_parts h1).2.1; omega
  have hk1 : (1 : Int) ≤ (k : Int) := by omega
  have hkn : (k : Int) ≤ (n : Int) := by omega
  have hkm : (k : Int) - 1 = (m : Int) := by omega
  have hm0 : (0 : Int) ≤ (m : Int) := by omega
  have hmn : (m : Int) < (n : Int) := by omega
  have Hkn := Lib.hid h3
  clear h1 h2 hn hS hd hat h3
  have h5 := h4 (by have := Hn.out; have := Hkn.out; have := H2.out; omega)
  rw [HDd.out, HS.out] at h5
  have hT := turn_ok Hat.out.1
  have hg := mt_good (l.drop k) (turnL d S) hT.2.1 h5
  have hsum := undo_puts Hat.out.1 (l.drop k) h5
  have hcd := chk_parts (do_chk Hat.out.1).1
  obtain ⟨R, hR⟩ : ∃ R, mtL (turnL d S) (l.drop k) = R := ⟨_, rfl⟩
  rw [hR] at hg hsum
  have H5 := Lib.hid h5
  have HR := Lib.hid hR
  have HF := Lib.hid (chk_parts hg.1).2.2.2.2.2
  have hR16 := (chk_parts hg.1).1
  have Hsum := Lib.hid hsum
  have HFd := Lib.hid hcd.2.2.2.2.2
  have HFs := Lib.hid hcd.2.2.1
  have hd16 := hcd.1
  clear h4 h5 hR hg hsum hT hcd
  go_enter Try.func12, Try.ntmps12
  go_wp2_with fail
  have hrq := RdP.builtS w #[.int .i64 3, .int .i64 2, .string ⟨#[]⟩] [(3, 2, emp)] 1 rfl rfl (by decide) (by decide)
  have hbw1 := hbw0.alloc hbw0.size (.cells #[.int .i64 3, .int .i64 2, .string ⟨#[]⟩] 56)
  have Hl1 := Lib.hid (RdR.stepA Hl.out (.cells #[.int .i64 3, .int .i64 2, .string ⟨#[]⟩] 56))
  clear Hl
  have Hl := Hl1
  clear Hl1
  have Hq := Lib.hid hrq
  clear hrq
  have hrh : RdR ((w.alloc (.cells #[.int .i64 3, .int .i64 2, .string ⟨#[]⟩] 56)).alloc (.cells #[.int .i64 0, .int .i64 1, .slice (some ⟨w.heap.size, 0, none⟩) 1 1] 66)) ((w.alloc (.cells #[.int .i64 3, .int .i64 2, .string ⟨#[]⟩] 56)).alloc (.cells #[.int .i64 0, .int .i64 1, .slice (some ⟨w.heap.size, 0, none⟩) 1 1] 66)).heap.size (some ⟨w.heap.size + 1, 0, none⟩) 1 1 [(0, 1, [(3, 2, emp)])] := by
    have q := RdR.built1 (w.alloc (.cells #[.int .i64 3, .int .i64 2, .string ⟨#[]⟩] 56)) 0 1 (some ⟨w.heap.size, 0, none⟩) 1 1 [(3, 2, emp)] Hq.out
    simpa only [World.size_alloc] using q
  have hbw2 := hbw1.alloc hbw1.size (.cells #[.int .i64 0, .int .i64 1, .slice (some ⟨w.heap.size, 0, none⟩) 1 1] 66)
  have Hl2 := Lib.hid (RdR.stepA Hl.out (.cells #[.int .i64 0, .int .i64 1, .slice (some ⟨w.heap.size, 0, none⟩) 1 1] 66))
  clear Hl
  have Hl := Hl2
  clear Hl2
  have Hq2 := Lib.hid (RdP.stepA Hq.out (.cells #[.int .i64 0, .int .i64 1, .slice (some ⟨w.heap.size, 0, none⟩) 1 1] 66))
  clear Hq
  have Hq := Hq2
  clear Hq2
  have Hh := Lib.hid hrh
  clear hrh
  have hc := undo_good (⟨#[97, 98]⟩) [(0, 1, [(3, 2, emp)])] (some ⟨w.heap.size + 1, 0, none⟩) 1 1 _ 1 0 ((w.alloc (.cells #[.int .i64 3, .int .i64 2, .string ⟨#[]⟩] 56)).alloc (.cells #[.int .i64 0, .int .i64 1, .slice (some ⟨w.heap.size, 0, none⟩) 1 1] 66)) Hh.out (Nat.le_refl _) (by decide) rfl (by decide) _ (fun _ => rfl) [(2, 0, ⟨#[97, 98]⟩)] (by decide) 0 [(2, 0, ⟨#[97, 98]⟩)] ⟨rfl, fun _ => rfl⟩ (fun h => absurd rfl h)
  refine (hc).mono ?_
  rintro e w3 ⟨Ad0, nd0, cd0, rfl, hrd0, hb3⟩
  have hbw3 := hbw2.trans (hb3.mono hbw2.size)
  have Hl3 := Lib.hid (RdR.step Hl.out hb3)
  clear Hl
  have Hl := Hl3
  clear Hl3
  have Hq3 := Lib.hid (RdP.step Hq.out hb3)
  clear Hq
  have Hq := Hq3
  clear Hq3
  have Hh3 := Lib.hid (RdR.step Hh.out hb3)
  clear Hh
  have Hh := Hh3
  clear Hh3
  clear hb3
  clear hc
  have Hd0 := Lib.hid hrd0
  clear hrd0
  go_wp2_with fail
  clear Hh
  clear Hq
  have hc := put_any ⟨#[97, 98]⟩ (by decide) w3
  refine (hc).mono ?_
  rintro e w4 ⟨Aq, rfl, hrq, hb4⟩
  have hbw4 := hbw3.trans (hb4.mono hbw3.size)
  have Hl4 := Lib.hid (RdR.step Hl.out hb4)
  clear Hl
  have Hl := Hl4
  clear Hl4
  have Hd04 := Lib.hid (RdP.step Hd0.out hb4)
  clear Hd0
  have Hd0 := Hd04
  clear Hd04
  clear hb4
  clear hc
  have Hq := Lib.hid hrq
  clear hrq
  go_wp2_with fail
  refine (same_true [(2, 0, ⟨#[97, 98]⟩)] [(2, 0, ⟨#[97, 98]⟩)] Ad0 Aq _ _ cd0 1 _ _ _ Hd0.out Hq.out rfl).mono ?_
  rintro e w5 ⟨rfl, hb5⟩
  have hbw5 := hbw4.trans (hb5.mono hbw4.size)
  have Hl5 := Lib.hid (RdR.step Hl.out hb5)
  clear Hl
  have Hl := Hl5
  clear Hl5
  have Hd05 := Lib.hid (RdP.step Hd0.out hb5)
  clear Hd0
  have Hd0 := Hd05
  clear Hd05
  have Hq5 := Lib.hid (RdP.step Hq.out hb5)
  clear Hq
  have Hq := Hq5
  clear Hq5
  clear hb5
  go_wp2_with fail
  clear Hd0
  clear Hq
  have hc := undo_good base l A n c _ k m w5 Hl.out (Nat.le_refl _) H1.out H2.out Hkn.out d HDd.out (turnL d S) (by rw [HS.out]) 0 R ⟨H5.out, fun _ => HR.out⟩ (fun h => absurd rfl h)
  refine (hc).mono ?_
  rintro e w6 ⟨Ar, nr, cr, rfl, hrr, hb6⟩
  have hbw6 := hbw5.trans (hb6.mono hbw5.size)
  have Hl6 := Lib.hid (RdR.step Hl.out hb6)
  clear Hl
  have Hl := Hl6
  clear Hl6
  clear hb6
  clear hc
  have Hr := Lib.hid hrr
  clear hrr
  go_wp2_with fail
  have hnr : (nr : Int) ≤ 1600 := by have := Hr.out.1; omega
  go_loopw [11, 13, 54] (fun x q i wr => ∃ (j : Nat) (a : Int), j ≤ nr ∧ i = .int .i64 j ∧ x = .int .i64 a ∧ Hid (a = szP (R.take j)) ∧ 0 ≤ a ∧ a ≤ 500 * j ∧ Below w6.heap.size w6 wr) (fun _ _ i _ => nr - (intOf i).toNat)
  case atStart => exact ⟨0, 0, by omega, rfl, rfl, Lib.hid rfl, by omega, by omega, Below.refl _ _⟩
  case round =>
    obtain ⟨j, a, hj, rfl, rfl, ha, ha0, ha1, hbw⟩ := hrel
    by_cases hlt : j < nr
    · have hkl : j < R.length := by have := Hr.out.1; omega
      obtain ⟨g, o, rfl, hg, c0, c1, c2⟩ := (Hr.out.below hbw).at_ j hlt
      have hbd := ((fitE_zero _).1 (HF.out R[j] (List.getElem_mem hkl))).2.2
      have hts : Hid (R.take (j + 1) = R.take j ++ [R[j]]) := Lib.hid (by rw [List.take_succ_eq_append_getElem hkl])
      obtain ⟨p, hp⟩ : ∃ p, p = R[j] := ⟨_, rfl⟩
      rw [← hp] at hbd hts c0 c1 c2
      clear hp
      obtain ⟨kd, m2, t⟩ := p
      simp only at hbd c0 c1 c2
      have hj0 : (0 : Int) ≤ (j : Int) := by omega
      have hjn : (j : Int) < (nr : Int) := by omega
      have hgl : g < wr.heap.size := by have := hbw.size; omega
      go_wp2_with fail
      go_roundw
      case rel => exact ⟨j + 1, a + t.size, by omega, by go_num, rfl, Lib.hid (by rw [hts.out, szP_snoc_, ← ha.out]), by omega, by omega, hbw.alloc hbw.size _⟩
      case measure => simp [intOf]; omega
    · have hka : Hid (a = szC d) := Lib.hid (by rw [ha.out, List.take_of_length_le (by have := Hr.out.1; omega)]; exact Hsum.out)
      have hjn : decide (j < nr) = false := by simpa using hlt
      have hwr := hbw6.trans (hbw.mono hbw6.size)
      have ha2 : a ≤ 800000 := by omega
      obtain ⟨b3, o3, A3, n3, c3, rfl, hb3, d0, d1, d2, hrd⟩ := (Hl.out.below hbw).at_ m (by have := Hkn.out; have := H2.out; omega)
      rw [HDd.out] at hrd
      have Hrd := Lib.hid hrd
      have hbws := hbw.size
      have hn3 : (n3 : Int) ≤ 1600 := by have := hrd.1; omega
      clear ha d0 d1 hrd hbw
      go_wp2_with fail
      go_loopw [11, 15, 71] (fun x q i wr2 => ∃ (j : Nat) (b : Int), j ≤ n3 ∧ i = .int .i64 j ∧ x = .int .i64 (a - b) ∧ Hid (b = szC (d.take j)) ∧ 0 ≤ b ∧ b ≤ 500 * j ∧ Below wr.heap.size wr wr2) (fun _ _ i _ => n3 - (intOf i).toNat)
      case atStart => exact ⟨0, 0, by omega, rfl, by simp, Lib.hid rfl, by omega, by omega, Below.refl _ _⟩
      case round =>
        obtain ⟨j, b, hj, rfl, rfl, hb, hb0, hb1, hbw⟩ := hrel
        by_cases hlt : j < n3
        · have hkl : j < d.length := by have := Hrd.out.1; omega
          obtain ⟨g, o, rfl, hg, c0, c1, c2⟩ := (Hrd.out.below (hbw.mono (by have := hbw.size; omega))).at_ j hlt
          have hbd := ((fitE_zero _).1 (HFd.out d[j] (List.getElem_mem hkl)))
          have hts : Hid (d.take (j + 1) = d.take j ++ [d[j]]) := Lib.hid (by rw [List.take_succ_eq_append_getElem hkl])
          obtain ⟨p, hp⟩ : ∃ p, p = d[j] := ⟨_, rfl⟩
          rw [← hp] at hbd hts c0 c1 c2
          clear hp
          obtain ⟨kd, m2, t⟩ := p
          simp only at hbd c0 c1 c2
          have hm2 : 0 ≤ m2 ∧ m2 ≤ 500 := by
            obtain ⟨q1, q2, q3⟩ := hbd
            rcases q1 with ⟨q4, q5, q6⟩ | ⟨q4, q5, q6⟩
            · simp only at q5 q2; omega
            · simp only at q5; omega
          obtain ⟨hm20, hm21⟩ := hm2
          have hj0 : (0 : Int) ≤ (j : Int) := by omega
          have hjn : (j : Int) < (n3 : Int) := by omega
          have hgl : g < wr.heap.size := by have := hbw.size; omega
          clear hbd
          by_cases hkd : kd = 3
          · have hkd' : (kd == 3) = true := by simpa using hkd
            have hsz : Hid (b + m2 = szC (d.take (j + 1))) := Lib.hid (by rw [hts.out, szC_snoc, ← hb.out]; simp [hkd])
            subst hkd
            clear hkd'
            go_wp2_with fail
            go_roundw
            case rel => exact ⟨j + 1, b + m2, by omega, by go_num, by congr 1; omega, hsz, by omega, by omega, hbw.alloc hbw.size _⟩
            case measure => simp [intOf]; omega
          · have hkd' : (kd == 3) = false := by simpa using hkd
            have hsz : Hid (b = szC (d.take (j + 1))) := Lib.hid (by rw [hts.out, szC_snoc, ← hb.out]; simp [hkd])
            clear hkd
            go_wp2_with fail
            go_roundw
            case rel => exact ⟨j + 1, b, by omega, by go_num, rfl, hsz, by omega, by omega, hbw.alloc hbw.size _⟩
            case measure => simp [intOf]; omega
        · have hjn : decide (j < n3) = false := by simpa using hlt
          have hba : b = szC d := by rw [hb.out, List.take_of_length_le (by have := Hrd.out.1; omega)]
          have hab : a - b = 0 := by rw [hka.out, hba]; omega
          have hwr2 := hwr.trans (hbw.mono hwr.size)
          rw [hab]
          clear hb hba hab
          go_wp2_with fail
          go_ret
          exact ⟨rfl, hwr2⟩
theorem walk_UndoPuts (base : ByteArray) (hs : base.size ≤ 140737488351232) (v : Value) (l : List Rv) (k : Int) (wk : (Lit.int .i64 k).wf = true) (w : World) (hx : IsRevs w v l) :
    Calls Try.prog 12 #[.string base, v, .int .i64 k] w fun e w' => e = .returned (.bool true) ∧ Below w.heap.size w w' := by
  obtain ⟨A, n, c, rfl, h⟩ := hx
  by_cases h1 : txE base l = 0
  · by_cases h2 : k < 1 ∨ (n : Int) < k
    · exact undoPuts_arg base l A n c k hs w h h1 h2
    · obtain ⟨q, rfl⟩ : ∃ q : Nat, k = (q : Int) := ⟨k.toNat, by omega⟩
      have hn : n = l.length := h.1
      by_cases h4 : mtE (turnL (l[q - 1]'(by omega)).2.2 (txt base l (q - 1))) (l.drop q) = 0
      · exact undoPuts_ok base l A n c q (q - 1) hs w h h1 (by omega) (by omega) fun _ => h4
      · exact undoPuts_no base l A n c q (q - 1) hs w h h1 (by omega) (by omega) fun _ => h4
  · exact undoPuts_err base l A n c k hs w h h1
end Go.Proofs.Ytcclcgapcnjcdaa
