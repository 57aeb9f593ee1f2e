/- UndoIdle: the walk. To take back what does nothing does nothing. -/
import Derived.Test.YtcclcgapcnjcdaaUndo
import Derived.Test.YtcclcgapcnjcdaaCloneR
import Derived.Test.YtcclcgapcnjcdaaOpenRevs
namespace Go.Proofs.Ytcclcgapcnjcdaa
open Go.ChangeShapes Go.WideShapes Go.RowKit
set_option linter.unusedVariables false
set_option linter.unusedSimpArgs false
set_option maxRecDepth 100000
set_option maxHeartbeats 4000000


theorem turn_all {s : ByteArray} (h : s.size ≤ 500) : turnL (allL s.size) s = allL s.size := by
  have hd := do_all h
  have ht := turn_ok hd.1
  have hk := do_chk hd.1
  have h2 := grp_cz_good hk.1
  have e : s.data.toList.length = s.size := rfl
  rw [ht.1, all_units, ← e, tn_keeps, e, ← all_units]
  exact h2
theorem txr_app : ∀ (l : List Rv) (s : ByteArray) (r : Rv), txr s l = 0 → oneE r = 0 → doE r.2.2 (txt s l l.length) = 0 → txr s (l ++ [r]) = 0
  | [], s, r, _, h1, h2 => by
    simp only [List.nil_append, txr]
    rw [if_neg (by omega), if_neg (by simp [txt] at h2; omega)]
  | q :: l, s, r, h, h1, h2 => by
    simp only [txr] at h
    split at h
    · omega
    · split at h
      · omega
      · rename_i q1 q2
        simp only [List.cons_append, txr]
        rw [if_neg q1, if_neg q2]
        exact txr_app l (doS q.2.2 s) r h h1 (by simpa [txt] using h2)
theorem txt_app : ∀ (l l' : List Rv) (s : ByteArray) (k : Nat), k ≤ l.length → txt s (l ++ l') k = txt s l k
  | [], l', s, k, h => by
    obtain rfl : k = 0 := by simpa using h
    cases l' <;> rfl
  | r :: l, l', s, 0, _ => rfl
  | r :: l, l', s, k + 1, h => by simp only [List.cons_append, txt]; exact txt_app l l' _ k (by simpa using h)
theorem idle_facts {base : ByteArray} {l : List Rv} (h : txE base l = 0) (hn : l.length < 64) :
    txE base (l ++ [(7, 0, allL (txt base l l.length).size)]) = 0 ∧ txt base (l ++ [(7, 0, allL (txt base l l.length).size)]) l.length = txt base l l.length := by
  have hp := txE_parts h
  have h5 := txt_size l base l.length hp.1
  refine ⟨txE_zero hp.1 (by simp; omega) (txr_app l base _ hp.2.2 ?_ (do_all h5).1), txt_app l _ base l.length (Nat.le_refl _)⟩
  unfold oneE
  rw [if_neg (by simp)]
  exact all_chk _ h5

theorem undoIdle_err (base : ByteArray) (l : List Rv) (A : Option Addr) (n c : Nat) (hs : base.size ≤ 140737488351232) (w : World) (h : RdR w w.heap.size A n c l) (h1 : txE base l ≠ 0) :
    Calls Try.prog 13 #[.string base, .slice A n c] w fun e w' => e = .returned (.bool true) ∧ Below w.heap.size w w' := by
  have hbw0 : Below w.heap.size w w := Below.refl _ _
  have Hl := Lib.hid h
  clear h
  have hne : (txE base l != 0) = true := by simpa using h1
  have hne2 : (txE base l == 0) = false := by simpa using h1
  have H1 := Lib.hid h1
  clear h1
  go_enter Try.func13, Try.ntmps13
  go_wp2_with fail
  refine (first_any ⟨#[97]⟩ (by decide) w).mono ?_
  rintro e w1 ⟨Af, rfl, hrf, hb1⟩
  have hbw1 := hbw0.trans (hb1.mono hbw0.size)
  have Hl1 := Lib.hid (RdR.step Hl.out hb1)
  clear Hl
  have Hl := Hl1
  clear Hl1
  clear hb1
  have Hf := Lib.hid hrf
  clear hrf
  go_wp2_with fail
  have hc := all_any 1 w1
  refine (hc).mono ?_
  rintro e w2 ⟨Ag, cg, rfl, hrg, hb2⟩
  have hbw2 := hbw1.trans (hb2.mono hbw1.size)
  have Hl2 := Lib.hid (RdR.step Hl.out hb2)
  clear Hl
  have Hl := Hl2
  clear Hl2
  have Hf2 := Lib.hid (RdP.step Hf.out hb2)
  clear Hf
  have Hf := Hf2
  clear Hf2
  clear hb2
  clear hc
  have Hg := Lib.hid hrg
  clear hrg
  go_wp2_with fail
  have hrh : RdR (w2.alloc (.cells #[.int .i64 1, .int .i64 1, .slice Af 1 1, .int .i64 0, .int .i64 1, .slice Ag (allL 1).length cg] 66)) (w2.alloc (.cells #[.int .i64 1, .int .i64 1, .slice Af 1 1, .int .i64 0, .int .i64 1, .slice Ag (allL 1).length cg] 66)).heap.size (some ⟨w2.heap.size, 0, none⟩) 2 2 [(1, 1, [(2, 0, ⟨#[97]⟩)]), (0, 1, allL 1)] := by
    have q := RdR.built2 w2 1 1 0 1 Af Ag 1 1 (allL 1).length cg [(2, 0, ⟨#[97]⟩)] (allL 1) Hf.out Hg.out
    simpa only [World.size_alloc] using q
  have hbw3 := hbw2.alloc hbw2.size (.cells #[.int .i64 1, .int .i64 1, .slice Af 1 1, .int .i64 0, .int .i64 1, .slice Ag (allL 1).length cg] 66)
  have Hl3 := Lib.hid (RdR.stepA Hl.out (.cells #[.int .i64 1, .int .i64 1, .slice Af 1 1, .int .i64 0, .int .i64 1, .slice Ag (allL 1).length cg] 66))
  clear Hl
  have Hl := Hl3
  clear Hl3
  have Hf3 := Lib.hid (RdP.stepA Hf.out (.cells #[.int .i64 1, .int .i64 1, .slice Af 1 1, .int .i64 0, .int .i64 1, .slice Ag (allL 1).length cg] 66))
  clear Hf
  have Hf := Hf3
  clear Hf3
  have Hg3 := Lib.hid (RdP.stepA Hg.out (.cells #[.int .i64 1, .int .i64 1, .slice Af 1 1, .int .i64 0, .int .i64 1, .slice Ag (allL 1).length cg] 66))
  clear Hg
  have Hg := Hg3
  clear Hg3
  have Hh := Lib.hid hrh
  clear hrh
  clear Hf
  clear Hg
  go_wp2_with fail
  have hc := undo_good ⟨#[]⟩ [(1, 1, [(2, 0, ⟨#[97]⟩)]), (0, 1, allL 1)] (some ⟨w2.heap.size, 0, none⟩) 2 2 _ 2 1 (w2.alloc (.cells #[.int .i64 1, .int .i64 1, .slice Af 1 1, .int .i64 0, .int .i64 1, .slice Ag (allL 1).length cg] 66)) Hh.out (Nat.le_refl _) (by decide) rfl (by decide) _ (fun _ => rfl) [(1, 1, emp)] (by decide) 0 [(1, 1, emp)] ⟨by decide, fun _ => by decide⟩ (fun h => absurd rfl h)
  refine (hc).mono ?_
  rintro e w4 ⟨Ad0, nd0, cd0, rfl, hrd0, hb4⟩
  have hbw4 := hbw3.trans (hb4.mono hbw3.size)
  have Hl4 := Lib.hid (RdR.step Hl.out hb4)
  clear Hl
  have Hl := Hl4
  clear Hl4
  have Hh4 := Lib.hid (RdR.step Hh.out hb4)
  clear Hh
  have Hh := Hh4
  clear Hh4
  clear hb4
  clear hc
  have Hd0 := Lib.hid hrd0
  clear hrd0
  go_wp2_with fail
  clear Hh
  have hc := all_any 1 w4
  refine (hc).mono ?_
  rintro e w5 ⟨Aq, cq, rfl, hrq, hb5⟩
  have hbw5 := hbw4.trans (hb5.mono hbw4.size)
  have Hl5 := Lib.hid (RdR.step Hl.out hb5)
  clear Hl
  have Hl := Hl5
  clear Hl5
  have Hd05 := Lib.hid (RdP.step Hd0.out hb5)
  clear Hd0
  have Hd0 := Hd05
  clear Hd05
  clear hb5
  clear hc
  have Hq := Lib.hid hrq
  clear hrq
  go_wp2_with fail
  refine (same_true [(1, 1, emp)] (allL 1) Ad0 Aq _ _ cd0 cq _ _ _ Hd0.out Hq.out (by decide)).mono ?_
  rintro e w6 ⟨rfl, hb6⟩
  have hbw6 := hbw5.trans (hb6.mono hbw5.size)
  have Hl6 := Lib.hid (RdR.step Hl.out hb6)
  clear Hl
  have Hl := Hl6
  clear Hl6
  have Hd06 := Lib.hid (RdP.step Hd0.out hb6)
  clear Hd0
  have Hd0 := Hd06
  clear Hd06
  have Hq6 := Lib.hid (RdP.step Hq.out hb6)
  clear Hq
  have Hq := Hq6
  clear Hq6
  clear hb6
  go_wp2_with fail
  clear Hd0
  clear Hq
  refine (rtext_err base l A n c _ n _ Hl.out (Nat.le_refl _) (by omega) H1.out).mono ?_
  rintro e w7 ⟨rfl, hb7⟩
  have hbw7 := hbw6.trans (hb7.mono hbw6.size)
  have Hl7 := Lib.hid (RdR.step Hl.out hb7)
  clear Hl
  have Hl := Hl7
  clear Hl7
  clear hb7
  go_wp2_with fail
  go_ret
  exact ⟨rfl, hbw7⟩
theorem undoIdle_many (base : ByteArray) (l : List Rv) (A : Option Addr) (n c : Nat) (hs : base.size ≤ 140737488351232) (w : World) (h : RdR w w.heap.size A n c l) (h1 : txE base l = 0) (h2 : 64 ≤ n) :
    Calls Try.prog 13 #[.string base, .slice A n c] w fun e w' => e = .returned (.bool true) ∧ Below w.heap.size w w' := by
  have hbw0 : Below w.heap.size w w := Below.refl _ _
  have Hl := Lib.hid h
  clear h
  have hn := Hl.out.1
  have Hn := Lib.hid hn
  have H1 := Lib.hid h1
  have h2i : (64 : Int) ≤ (n : Int) := by omega
  clear h1 h2 hn
  go_enter Try.func13, Try.ntmps13
  go_wp2_with fail
  refine (first_any ⟨#[97]⟩ (by decide) w).mono ?_
  rintro e w1 ⟨Af, rfl, hrf, hb1⟩
  have hbw1 := hbw0.trans (hb1.mono hbw0.size)
  have Hl1 := Lib.hid (RdR.step Hl.out hb1)
  clear Hl
  have Hl := Hl1
  clear Hl1
  clear hb1
  have Hf := Lib.hid hrf
  clear hrf
  go_wp2_with fail
  have hc := all_any 1 w1
  refine (hc).mono ?_
  rintro e w2 ⟨Ag, cg, rfl, hrg, hb2⟩
  have hbw2 := hbw1.trans (hb2.mono hbw1.size)
  have Hl2 := Lib.hid (RdR.step Hl.out hb2)
  clear Hl
  have Hl := Hl2
  clear Hl2
  have Hf2 := Lib.hid (RdP.step Hf.out hb2)
  clear Hf
  have Hf := Hf2
  clear Hf2
  clear hb2
  clear hc
  have Hg := Lib.hid hrg
  clear hrg
  go_wp2_with fail
  have hrh : RdR (w2.alloc (.cells #[.int .i64 1, .int .i64 1, .slice Af 1 1, .int .i64 0, .int .i64 1, .slice Ag (allL 1).length cg] 66)) (w2.alloc (.cells #[.int .i64 1, .int .i64 1, .slice Af 1 1, .int .i64 0, .int .i64 1, .slice Ag (allL 1).length cg] 66)).heap.size (some ⟨w2.heap.size, 0, none⟩) 2 2 [(1, 1, [(2, 0, ⟨#[97]⟩)]), (0, 1, allL 1)] := by
    have q := RdR.built2 w2 1 1 0 1 Af Ag 1 1 (allL 1).length cg [(2, 0, ⟨#[97]⟩)] (allL 1) Hf.out Hg.out
    simpa only [World.size_alloc] using q
  have hbw3 := hbw2.alloc hbw2.size (.cells #[.int .i64 1, .int .i64 1, .slice Af 1 1, .int .i64 0, .int .i64 1, .slice Ag (allL 1).length cg] 66)
  have Hl3 := Lib.hid (RdR.stepA Hl.out (.cells #[.int .i64 1, .int .i64 1, .slice Af 1 1, .int .i64 0, .int .i64 1, .slice Ag (allL 1).length cg] 66))
  clear Hl
  have Hl := Hl3
  clear Hl3
  have Hf3 := Lib.hid (RdP.stepA Hf.out (.cells #[.int .i64 1, .int .i64 1, .slice Af 1 1, .int .i64 0, .int .i64 1, .slice Ag (allL 1).length cg] 66))
  clear Hf
  have Hf := Hf3
  clear Hf3
  have Hg3 := Lib.hid (RdP.stepA Hg.out (.cells #[.int .i64 1, .int .i64 1, .slice Af 1 1, .int .i64 0, .int .i64 1, .slice Ag (allL 1).length cg] 66))
  clear Hg
  have Hg := Hg3
  clear Hg3
  have Hh := Lib.hid hrh
  clear hrh
  clear Hf
  clear Hg
  go_wp2_with fail
  have hc := undo_good ⟨#[]⟩ [(1, 1, [(2, 0, ⟨#[97]⟩)]), (0, 1, allL 1)] (some ⟨w2.heap.size, 0, none⟩) 2 2 _ 2 1 (w2.alloc (.cells #[.int .i64 1, .int .i64 1, .slice Af 1 1, .int .i64 0, .int .i64 1, .slice Ag (allL 1).length cg] 66)) Hh.out (Nat.le_refl _) (by decide) rfl (by decide) _ (fun _ => rfl) [(1, 1, emp)] (by decide) 0 [(1, 1, emp)] ⟨by decide, fun _ => by decide⟩ (fun h => absurd rfl h)
  refine (hc).mono ?_
  rintro e w4 ⟨Ad0, nd0, cd0, rfl, hrd0, hb4⟩
  have hbw4 := hbw3.trans (hb4.mono hbw3.size)
  have Hl4 := Lib.hid (RdR.step Hl.out hb4)
  clear Hl
  have Hl := Hl4
  clear Hl4
  have Hh4 := Lib.hid (RdR.step Hh.out hb4)
  clear Hh
  have Hh := Hh4
  clear Hh4
  clear hb4
  clear hc
  have Hd0 := Lib.hid hrd0
  clear hrd0
  go_wp2_with fail
  clear Hh
  have hc := all_any 1 w4
  refine (hc).mono ?_
  rintro e w5 ⟨Aq, cq, rfl, hrq, hb5⟩
  have hbw5 := hbw4.trans (hb5.mono hbw4.size)
  have Hl5 := Lib.hid (RdR.step Hl.out hb5)
  clear Hl
  have Hl := Hl5
  clear Hl5
  have Hd05 := Lib.hid (RdP.step Hd0.out hb5)
  clear Hd0
  have Hd0 := Hd05
  clear Hd05
  clear hb5
  clear hc
  have Hq := Lib.hid hrq
  clear hrq
  go_wp2_with fail
  refine (same_true [(1, 1, emp)] (allL 1) Ad0 Aq _ _ cd0 cq _ _ _ Hd0.out Hq.out (by decide)).mono ?_
  rintro e w6 ⟨rfl, hb6⟩
  have hbw6 := hbw5.trans (hb6.mono hbw5.size)
  have Hl6 := Lib.hid (RdR.step Hl.out hb6)
  clear Hl
  have Hl := Hl6
  clear Hl6
  have Hd06 := Lib.hid (RdP.step Hd0.out hb6)
  clear Hd0
  have Hd0 := Hd06
  clear Hd06
  have Hq6 := Lib.hid (RdP.step Hq.out hb6)
  clear Hq
  have Hq := Hq6
  clear Hq6
  clear hb6
  go_wp2_with fail
  clear Hd0
  clear Hq
  have hc := rtext_good base l A n c _ n w6 Hl.out (Nat.le_refl _) H1.out (by have := Hn.out; omega)
  refine (hc).mono ?_
  rintro e w7 ⟨rfl, hb7⟩
  have hbw7 := hbw6.trans (hb7.mono hbw6.size)
  have Hl7 := Lib.hid (RdR.step Hl.out hb7)
  clear Hl
  have Hl := Hl7
  clear Hl7
  clear hb7
  clear hc
  go_wp2_with fail
  go_ret
  exact ⟨rfl, hbw7⟩
theorem undoIdle_ok (base : ByteArray) (l : List Rv) (A : Option Addr) (n c : Nat) (hs : base.size ≤ 140737488351232) (w : World) (h : RdR w w.heap.size A n c l) (h1 : txE base l = 0) (h2 : n < 64) :
    Calls Try.prog 13 #[.string base, .slice A n c] w fun e w' => e = .returned (.bool true) ∧ Below w.heap.size w w' := by
  have hbw0 : Below w.heap.size w w := Below.refl _ _
  have Hl := Lib.hid h
  clear h
  have hn := Hl.out.1
  have Hf := Lib.hid (idle_facts h1 (by omega))
  have hS5 := txt_size l base n (txE_parts h1).1
  have hts : turnL (allL (txt base l n).size) (txt base l n) = allL (txt base l n).size := turn_all hS5
  obtain ⟨S, hS⟩ : ∃ S, txt base l n = S := ⟨_, rfl⟩
  rw [← hn, hS] at Hf
  rw [hS] at hS5 hts
  obtain ⟨L, hL⟩ : ∃ L, allL (S.size : Int) = L := ⟨_, rfl⟩
  rw [hL] at Hf hts
  obtain ⟨nL, hnL⟩ : ∃ nL, L.length = nL := ⟨_, rfl⟩
  have Hts := Lib.hid hts
  have HS := Lib.hid hS
  have HL := Lib.hid hL
  have HnL := Lib.hid hnL
  have Hn := Lib.hid hn
  have H1 := Lib.hid h1
  have h2i : (n : Int) < 64 := by omega
  have hn1 : (n : Int) + 1 = ((n + 1 : Nat) : Int) := by omega
  have Hn1 := Lib.hid hn1
  clear h1 h2 hn hS hL hnL hts hn1
  go_enter Try.func13, Try.ntmps13
  go_wp2_with fail
  refine (first_any ⟨#[97]⟩ (by decide) w).mono ?_
  rintro e w1 ⟨Af, rfl, hrf, hb1⟩
  have hbw1 := hbw0.trans (hb1.mono hbw0.size)
  have Hl1 := Lib.hid (RdR.step Hl.out hb1)
  clear Hl
  have Hl := Hl1
  clear Hl1
  clear hb1
  have Hf := Lib.hid hrf
  clear hrf
  go_wp2_with fail
  have hc := all_any 1 w1
  refine (hc).mono ?_
  rintro e w2 ⟨Ag, cg, rfl, hrg, hb2⟩
  have hbw2 := hbw1.trans (hb2.mono hbw1.size)
  have Hl2 := Lib.hid (RdR.step Hl.out hb2)
  clear Hl
  have Hl := Hl2
  clear Hl2
  have Hf2 := Lib.hid (RdP.step Hf.out hb2)
  clear Hf
  have Hf := Hf2
  clear Hf2
  clear hb2
  clear hc
  have Hg := Lib.hid hrg
  clear hrg
  go_wp2_with fail
  have hrh : RdR (w2.alloc (.cells #[.int .i64 1, .int .i64 1, .slice Af 1 1, .int .i64 0, .int .i64 1, .slice Ag (allL 1).length cg] 66)) (w2.alloc (.cells #[.int .i64 1, .int .i64 1, .slice Af 1 1, .int .i64 0, .int .i64 1, .slice Ag (allL 1).length cg] 66)).heap.size (some ⟨w2.heap.size, 0, none⟩) 2 2 [(1, 1, [(2, 0, ⟨#[97]⟩)]), (0, 1, allL 1)] := by
    have q := RdR.built2 w2 1 1 0 1 Af Ag 1 1 (allL 1).length cg [(2, 0, ⟨#[97]⟩)] (allL 1) Hf.out Hg.out
    simpa only [World.size_alloc] using q
  have hbw3 := hbw2.alloc hbw2.size (.cells #[.int .i64 1, .int .i64 1, .slice Af 1 1, .int .i64 0, .int .i64 1, .slice Ag (allL 1).length cg] 66)
  have Hl3 := Lib.hid (RdR.stepA Hl.out (.cells #[.int .i64 1, .int .i64 1, .slice Af 1 1, .int .i64 0, .int .i64 1, .slice Ag (allL 1).length cg] 66))
  clear Hl
  have Hl := Hl3
  clear Hl3
  have Hf3 := Lib.hid (RdP.stepA Hf.out (.cells #[.int .i64 1, .int .i64 1, .slice Af 1 1, .int .i64 0, .int .i64 1, .slice Ag (allL 1).length cg] 66))
  clear Hf
  have Hf := Hf3
  clear Hf3
  have Hg3 := Lib.hid (RdP.stepA Hg.out (.cells #[.int .i64 1, .int .i64 1, .slice Af 1 1, .int .i64 0, .int .i64 1, .slice Ag (allL 1).length cg] 66))
  clear Hg
  have Hg := Hg3
  clear Hg3
  have Hh := Lib.hid hrh
  clear hrh
  clear Hf
  clear Hg
  go_wp2_with fail
  have hc := undo_good ⟨#[]⟩ [(1, 1, [(2, 0, ⟨#[97]⟩)]), (0, 1, allL 1)] (some ⟨w2.heap.size, 0, none⟩) 2 2 _ 2 1 (w2.alloc (.cells #[.int .i64 1, .int .i64 1, .slice Af 1 1, .int .i64 0, .int .i64 1, .slice Ag (allL 1).length cg] 66)) Hh.out (Nat.le_refl _) (by decide) rfl (by decide) _ (fun _ => rfl) [(1, 1, emp)] (by decide) 0 [(1, 1, emp)] ⟨by decide, fun _ => by decide⟩ (fun h => absurd rfl h)
  refine (hc).mono ?_
  rintro e w4 ⟨Ad0, nd0, cd0, rfl, hrd0, hb4⟩
  have hbw4 := hbw3.trans (hb4.mono hbw3.size)
  have Hl4 := Lib.hid (RdR.step Hl.out hb4)
  clear Hl
  have Hl := Hl4
  clear Hl4
  have Hh4 := Lib.hid (RdR.step Hh.out hb4)
  clear Hh
  have Hh := Hh4
  clear Hh4
  clear hb4
  clear hc
  have Hd0 := Lib.hid hrd0
  clear hrd0
  go_wp2_with fail
  clear Hh
  have hc := all_any 1 w4
  refine (hc).mono ?_
  rintro e w5 ⟨Aq, cq, rfl, hrq, hb5⟩
  have hbw5 := hbw4.trans (hb5.mono hbw4.size)
  have Hl5 := Lib.hid (RdR.step Hl.out hb5)
  clear Hl
  have Hl := Hl5
  clear Hl5
  have Hd05 := Lib.hid (RdP.step Hd0.out hb5)
  clear Hd0
  have Hd0 := Hd05
  clear Hd05
  clear hb5
  clear hc
  have Hq := Lib.hid hrq
  clear hrq
  go_wp2_with fail
  refine (same_true [(1, 1, emp)] (allL 1) Ad0 Aq _ _ cd0 cq _ _ _ Hd0.out Hq.out (by decide)).mono ?_
  rintro e w6 ⟨rfl, hb6⟩
  have hbw6 := hbw5.trans (hb6.mono hbw5.size)
  have Hl6 := Lib.hid (RdR.step Hl.out hb6)
  clear Hl
  have Hl := Hl6
  clear Hl6
  have Hd06 := Lib.hid (RdP.step Hd0.out hb6)
  clear Hd0
  have Hd0 := Hd06
  clear Hd06
  have Hq6 := Lib.hid (RdP.step Hq.out hb6)
  clear Hq
  have Hq := Hq6
  clear Hq6
  clear hb6
  go_wp2_with fail
  clear Hd0
  clear Hq
  have hc := rtext_good base l A n c _ n w6 Hl.out (Nat.le_refl _) H1.out (by have := Hn.out; omega)
  rw [HS.out] at hc
  refine (hc).mono ?_
  rintro e w7 ⟨rfl, hb7⟩
  have hbw7 := hbw6.trans (hb7.mono hbw6.size)
  have Hl7 := Lib.hid (RdR.step Hl.out hb7)
  clear Hl
  have Hl := Hl7
  clear Hl7
  clear hb7
  clear hc
  go_wp2_with fail
  have hgB := Nat.le_refl w7.heap.size
  refine (cloneR_any l A n c _ Hl.out (by omega)).mono ?_
  rintro e w8 ⟨vc, rfl, hoc, hb8⟩
  have hsC := hb8.size
  have hbw8 := hbw7.trans (hb8.mono hbw7.size)
  have Hl8 := Lib.hid (RdR.step Hl.out hb8)
  clear Hl
  have Hl := Hl8
  clear Hl8
  clear hb8
  have Hoc := Lib.hid hoc
  clear hoc
  go_wp2_with fail
  have hc := allge (S.size : Int) w8
  rw [HL.out, HnL.out] at hc
  refine hc.mono ?_
  rintro e w9 ⟨Aa, ca, rfl, hra, hb9, hge⟩
  have hoc2 := Hoc.out.below hsC hb9
  have Hoc2 := Lib.hid hoc2
  have Hge := Lib.hid hge
  have hszA := hb9.size
  have hbw9 := hbw8.trans (hb9.mono hbw8.size)
  have Hl9 := Lib.hid (RdR.step Hl.out hb9)
  clear Hl
  have Hl := Hl9
  clear Hl9
  clear hb9
  clear hc hge hoc2
  have Ha := Lib.hid hra
  clear hra
  have hA1 : ∀ b o s, Aa = some ⟨b, o, s⟩ → vc.ownBlock ≠ some b := fun b o s e he => by
    obtain ⟨ss, hss, q1, q2⟩ := Hoc.out
    have := own_lt q1 b he
    have := (Hge.out b o s e).1
    omega
  have hA2 : ∀ b o s, Aa = some ⟨b, o, s⟩ → s = none := fun b o s e => (Hge.out b o s e).2
  have HA1 := Lib.hid hA1
  have HA2 := Lib.hid hA2
  have hln : l.length ≤ 100000000 := by have := Hn.out; omega
  have hBB : w7.heap.size ≤ w9.heap.size := by omega
  clear hA1 hA2
  go_wp2_with (first | (at_builtin; go_loud (refine wpList_app_rev _ rfl (.tmp 50) (.tmp 55) rfl w7.heap.size vc l rfl Hoc2.out 7 0 Aa nL ca 1 L rfl Ha.out HA1.out HA2.out hln hBB ?_; intro Az cz wz hz1 hz2)))
  have hbz := hbw9.trans (hz2.mono hbw7.size)
  rw [← Hn.out] at hz1 ⊢
  have Hz1 := Lib.hid hz1
  have hd0 : ∀ (hm : n < (l ++ [((7 : Int), (0 : Int), L)]).length), ((l ++ [((7 : Int), (0 : Int), L)])[n]'hm).2.2 = L := fun hm => by
    have e := Hn.out
    subst e
    simp
  have hdn : (l ++ [((7 : Int), (0 : Int), L)]).drop (n + 1) = [] := List.drop_eq_nil_of_le (by have := Hn.out; simp; omega)
  have Hd0 := Lib.hid hd0
  have Hdn := Lib.hid hdn
  clear hz1 hz2 hd0 hdn
  have hc := undo_good base (l ++ [((7 : Int), (0 : Int), L)]) Az (n + 1) cz _ (n + 1) n wz Hz1.out (Nat.le_refl _) Hf.out.1 rfl (Nat.le_refl _) L Hd0.out L (by rw [Hf.out.2]; exact Hts.out) 0 L ⟨by rw [Hdn.out]; rfl, fun _ => by rw [Hdn.out]; rfl⟩ (fun h => absurd rfl h)
  rw [← Hn1.out] at hc
  go_wp2_with fail
  refine hc.mono ?_
  rintro e wu ⟨Au, nu, cu, rfl, hru, hbu⟩
  have hbu2 := hbz.trans (hbu.mono hbz.size)
  have Hu := Lib.hid hru
  clear hc hru hbu
  go_wp2_with fail
  have hc := all_any (S.size : Int) wu
  rw [HL.out, HnL.out] at hc
  refine hc.mono ?_
  rintro e wv ⟨Av, cv, rfl, hrv, hbv⟩
  have hbv2 := hbu2.trans (hbv.mono hbu2.size)
  have Hu2 := Lib.hid (Hu.out.step hbv)
  have Hv := Lib.hid hrv
  clear hc hrv hbv Hu
  go_wp2_with fail
  refine (same_true L L Au Av _ _ cu cv _ _ _ Hu2.out Hv.out rfl).mono ?_
  rintro e wx ⟨rfl, hbx⟩
  have hbx2 := hbv2.trans (hbx.mono hbv2.size)
  go_wp2_with fail
  go_ret
  exact ⟨rfl, hbx2⟩
theorem walk_UndoIdle (base : ByteArray) (hs : base.size ≤ 140737488351232) (v : Value) (l : List Rv) (w : World) (hx : IsRevs w v l) :
    Calls Try.prog 13 #[.string base, v] w fun e w' => e = .returned (.bool true) ∧ Below w.heap.size w w' := by
  obtain ⟨A, n, c, rfl, h⟩ := hx
  by_cases h1 : txE base l = 0
  · by_cases h2 : n < 64
    · exact undoIdle_ok base l A n c hs w h h1 h2
    · exact undoIdle_many base l A n c hs w h h1 (by omega)
  · exact undoIdle_err base l A n c hs w h h1
end Go.Proofs.Ytcclcgapcnjcdaa
