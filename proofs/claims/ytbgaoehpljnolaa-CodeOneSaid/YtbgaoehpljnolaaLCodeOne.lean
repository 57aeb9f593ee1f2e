/- CodeOne: the walk. A text that is read is what is written of what was read. -/
import Derived.Test.YtbgaoehpljnolaaCodeRd
import Derived.Test.YtbgaoehpljnolaaCode
import Derived.Test.YtbgaoehpljnolaaSame
import Derived.Test.YtbgaoehpljnolaaRefIn
namespace Go.Proofs.Ytbgaoehpljnolaa
open Go.ChangeShapes Go.WideShapes Go.RowKit
set_option linter.unusedVariables false
set_option linter.unusedSimpArgs false
set_option maxRecDepth 100000
set_option maxHeartbeats 4000000


theorem one_five : readE [1, 5] = 0 ∧ readL [1, 5] = allL 1 := by
  have h : wrL (allL 1) = [1, 5] := by
    show vi 1 ++ (vi 5 ++ []) = [1, 5]
    rw [vi_lt 1 (by decide), vi_lt 5 (by decide)]; rfl
  have := read_back (l := allL 1) (by decide)
  rw [h] at this
  exact this
theorem codeOne_err (s : ByteArray) (hs : s.size ≤ 140737488351232) (w : World) (h1 : readE s.data.toList = 3) :
    Calls Try.prog 14 #[.string s] w fun e w' => e = .returned (.bool true) ∧ Below w.heap.size w w' := by
  have hbw0 : Below w.heap.size w w := Below.refl _ _
  have h2 : readL s.data.toList = [] := by unfold readL; rw [h1, if_neg (by decide)]
  have H1 := Lib.hid h1
  have H2 := Lib.hid h2
  clear h1 h2
  obtain ⟨L1, hL1⟩ : ∃ L, allL 1 = L := ⟨_, rfl⟩
  have ho := one_five
  rw [hL1] at ho
  have HL1 := Lib.hid hL1
  have Ho1 := Lib.hid ho.1
  have Ho2 := Lib.hid ho.2
  clear hL1 ho
  go_enter Try.func14, Try.ntmps14
  go_wp2_with fail
  have e15 : (⟨#[1, 5]⟩ : ByteArray).data.toList = [1, 5] := rfl
  have hc := cread_rd (⟨#[1, 5]⟩) w (by decide)
  rw [e15] at hc
  rw [Ho1.out] at hc
  rw [Ho2.out] at hc
  refine (hc).mono ?_
  rintro e w1 ⟨Ax, cx, rfl, hrx, hb1⟩
  have hbw1 := hbw0.trans (hb1.mono hbw0.size)
  clear hb1
  clear hc
  have Hx := Lib.hid hrx
  clear hrx
  go_wp2_with fail
  have hc := all_any 1 w1
  rw [HL1.out] at hc
  refine (hc).mono ?_
  rintro e w2 ⟨Ay, cy, rfl, hry, hb2⟩
  have hbw2 := hbw1.trans (hb2.mono hbw1.size)
  have Hx2 := Lib.hid (RdP.step Hx.out hb2)
  clear Hx
  have Hx := Hx2
  clear Hx2
  clear hb2
  clear hc
  have Hy := Lib.hid hry
  clear hry
  go_wp2_with fail
  refine (same_true L1 L1 Ax Ay _ _ cx cy _ _ _ Hx.out Hy.out rfl).mono ?_
  rintro e w3 ⟨rfl, hb3⟩
  have hbw3 := hbw2.trans (hb3.mono hbw2.size)
  have Hx3 := Lib.hid (RdP.step Hx.out hb3)
  clear Hx
  have Hx := Hx3
  clear Hx3
  have Hy3 := Lib.hid (RdP.step Hy.out hb3)
  clear Hy
  have Hy := Hy3
  clear Hy3
  clear hb3
  go_wp2_with fail
  have hc := cread_rd s w3 hs
  rw [H1.out] at hc
  rw [H2.out] at hc
  refine (hc).mono ?_
  rintro e w4 ⟨Ad, cd, rfl, hrd, hb4⟩
  have hbw4 := hbw3.trans (hb4.mono hbw3.size)
  have Hx4 := Lib.hid (RdP.step Hx.out hb4)
  clear Hx
  have Hx := Hx4
  clear Hx4
  have Hy4 := Lib.hid (RdP.step Hy.out hb4)
  clear Hy
  have Hy := Hy4
  clear Hy4
  clear hb4
  clear hc
  have Hd := Lib.hid hrd
  clear hrd
  go_wp2_with fail
  go_ret
  exact ⟨rfl, hbw4⟩
theorem codeOne_ok (s : ByteArray) (hs : s.size ≤ 140737488351232) (w : World) (h1 : readE s.data.toList = 0) :
    Calls Try.prog 14 #[.string s] w fun e w' => e = .returned (.bool true) ∧ Below w.heap.size w w' := by
  have hbw0 : Below w.heap.size w w := Below.refl _ _
  have h2 := read_one h1
  obtain ⟨l, hl⟩ : ∃ l, readL s.data.toList = l := ⟨_, rfl⟩
  rw [hl] at h2
  have H1 := Lib.hid h1
  have H2 := Lib.hid h2
  have Hl := Lib.hid hl
  clear h1 h2 hl
  obtain ⟨L1, hL1⟩ : ∃ L, allL 1 = L := ⟨_, rfl⟩
  have ho := one_five
  rw [hL1] at ho
  have HL1 := Lib.hid hL1
  have Ho1 := Lib.hid ho.1
  have Ho2 := Lib.hid ho.2
  clear hL1 ho
  go_enter Try.func14, Try.ntmps14
  go_wp2_with fail
  have e15 : (⟨#[1, 5]⟩ : ByteArray).data.toList = [1, 5] := rfl
  have hc := cread_rd (⟨#[1, 5]⟩) w (by decide)
  rw [e15] at hc
  rw [Ho1.out] at hc
  rw [Ho2.out] at hc
  refine (hc).mono ?_
  rintro e w1 ⟨Ax, cx, rfl, hrx, hb1⟩
  have hbw1 := hbw0.trans (hb1.mono hbw0.size)
  clear hb1
  clear hc
  have Hx := Lib.hid hrx
  clear hrx
  go_wp2_with fail
  have hc := all_any 1 w1
  rw [HL1.out] at hc
  refine (hc).mono ?_
  rintro e w2 ⟨Ay, cy, rfl, hry, hb2⟩
  have hbw2 := hbw1.trans (hb2.mono hbw1.size)
  have Hx2 := Lib.hid (RdP.step Hx.out hb2)
  clear Hx
  have Hx := Hx2
  clear Hx2
  clear hb2
  clear hc
  have Hy := Lib.hid hry
  clear hry
  go_wp2_with fail
  refine (same_true L1 L1 Ax Ay _ _ cx cy _ _ _ Hx.out Hy.out rfl).mono ?_
  rintro e w3 ⟨rfl, hb3⟩
  have hbw3 := hbw2.trans (hb3.mono hbw2.size)
  have Hx3 := Lib.hid (RdP.step Hx.out hb3)
  clear Hx
  have Hx := Hx3
  clear Hx3
  have Hy3 := Lib.hid (RdP.step Hy.out hb3)
  clear Hy
  have Hy := Hy3
  clear Hy3
  clear hb3
  go_wp2_with fail
  have hc := cread_rd s w3 hs
  rw [H1.out] at hc
  rw [Hl.out] at hc
  refine (hc).mono ?_
  rintro e w4 ⟨Ad, cd, rfl, hrd, hb4⟩
  have hbw4 := hbw3.trans (hb4.mono hbw3.size)
  have Hx4 := Lib.hid (RdP.step Hx.out hb4)
  clear Hx
  have Hx := Hx4
  clear Hx4
  have Hy4 := Lib.hid (RdP.step Hy.out hb4)
  clear Hy
  have Hy := Hy4
  clear Hy4
  clear hb4
  clear hc
  have Hd := Lib.hid hrd
  clear hrd
  go_wp2_with fail
  refine (cwrite_good l Ad (l).length cd _ _ s Hd.out (Nat.le_refl _) H2.out.1 H2.out.2.symm).mono ?_
  rintro e w5 ⟨rfl, hb5⟩
  have hbw5 := hbw4.trans (hb5.mono hbw4.size)
  have Hx5 := Lib.hid (RdP.step Hx.out hb5)
  clear Hx
  have Hx := Hx5
  clear Hx5
  have Hy5 := Lib.hid (RdP.step Hy.out hb5)
  clear Hy
  have Hy := Hy5
  clear Hy5
  have Hd5 := Lib.hid (RdP.step Hd.out hb5)
  clear Hd
  have Hd := Hd5
  clear Hd5
  clear hb5
  go_wp2_with fail
  go_ret
  exact ⟨rfl, hbw5⟩
theorem walk_CodeOne (s : ByteArray) (hs : s.size ≤ 140737488351232) (w : World) :
    Calls Try.prog 14 #[.string s] w fun e w' => e = .returned (.bool true) ∧ Below w.heap.size w w' := by
  rcases read_cases s.data.toList with h | h
  · exact codeOne_ok s hs w h
  · exact codeOne_err s hs w h
end Go.Proofs.Ytbgaoehpljnolaa
