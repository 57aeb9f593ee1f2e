/- DiffBest: the walk. No delta that makes the one of the other costs less. -/
import Derived.Test.YtcclcgapcnjcdaaCost
import Derived.Test.YtcclcgapcnjcdaaOpenParts
namespace Go.Proofs.Ytcclcgapcnjcdaa
open Go.ChangeShapes Go.WideShapes Go.RowKit
set_option linter.unusedVariables false
set_option linter.unusedSimpArgs false
set_option maxRecDepth 100000
set_option maxHeartbeats 4000000


theorem diffBest_err (d : List Pt) (A : Option Addr) (n c : Nat) (s : ByteArray) (hs : s.size ≤ 140737488351232) (w : World) (ha : RdP w w.heap.size A n c d) (h1 : doE d s ≠ 0) :
    Calls Try.prog 10 #[.slice A n c, .string s] w fun e w' => e = .returned (.bool true) ∧ Below w.heap.size w w' := by
  have hbw0 : Below w.heap.size w w := Below.refl _ _
  have Hd := Lib.hid ha
  clear ha
  have hne : (doE d s != 0) = true := by simpa using h1
  have H1 := Lib.hid h1
  clear h1
  go_enter Try.func10, Try.ntmps10
  go_wp2_with fail
  refine (cost_any ⟨#[]⟩ ⟨#[97, 98]⟩ (by decide) (by decide) w 2 (by unfold dst; rw [lcs_nil_left]; rfl)).mono ?_
  rintro e w1 ⟨rfl, hb1⟩
  have hbw1 := hbw0.trans (hb1.mono hbw0.size)
  have Hd1 := Lib.hid (RdP.step Hd.out hb1)
  clear Hd
  have Hd := Hd1
  clear Hd1
  clear hb1
  go_wp2_with fail
  have hc := do_any d A n c _ s _ Hd.out (Nat.le_refl _) (by omega)
  rw [do_err H1.out] at hc
  refine (hc).mono ?_
  rintro e w2 ⟨rfl, hb2⟩
  have hbw2 := hbw1.trans (hb2.mono hbw1.size)
  have Hd2 := Lib.hid (RdP.step Hd.out hb2)
  clear Hd
  have Hd := Hd2
  clear Hd2
  clear hb2
  clear hc
  go_wp2_with fail
  go_ret
  exact ⟨rfl, hbw2⟩
theorem diffBest_ok (d : List Pt) (A : Option Addr) (n c : Nat) (s : ByteArray) (hs : s.size ≤ 140737488351232) (w : World) (ha : RdP w w.heap.size A n c d) (h1 : doE d s = 0) :
    Calls Try.prog 10 #[.slice A n c, .string s] w fun e w' => e = .returned (.bool true) ∧ Below w.heap.size w w' := by
  have hbw0 : Below w.heap.size w w := Below.refl _ _
  have Hd := Lib.hid ha
  clear ha
  have hk := do_chk h1
  have hle := do_le h1
  have hsz : (s.size : Int) ≤ 500 := by omega
  obtain ⟨t, ht⟩ : ∃ t, doS d s = t := ⟨_, rfl⟩
  have hls := dst_least (units d) s.data.toList hk.2.1
  rw [← do_list h1, ht] at hls
  rw [ht] at hle
  obtain ⟨C, hC⟩ : ∃ C, dst s.data.toList t.data.toList = C := ⟨_, rfl⟩
  obtain ⟨Z, hZ⟩ : ∃ Z, szK d = Z := ⟨_, rfl⟩
  have hCZ : (C : Int) ≤ Z := by rw [← hZ, szK_chk hk.1, ← hC]; omega
  have Hk := Lib.hid hk.1
  have Ht := Lib.hid ht
  have HC := Lib.hid hC
  have HZ := Lib.hid hZ
  clear hk hls ht hC hZ
  have H1 := Lib.hid h1
  clear h1
  go_enter Try.func10, Try.ntmps10
  go_wp2_with fail
  refine (cost_any ⟨#[]⟩ ⟨#[97, 98]⟩ (by decide) (by decide) w 2 (by unfold dst; rw [lcs_nil_left]; rfl)).mono ?_
  rintro e w1 ⟨rfl, hb1⟩
  have hbw1 := hbw0.trans (hb1.mono hbw0.size)
  have Hd1 := Lib.hid (RdP.step Hd.out hb1)
  clear Hd
  have Hd := Hd1
  clear Hd1
  clear hb1
  go_wp2_with fail
  have hc := do_any d A n c _ s _ Hd.out (Nat.le_refl _) (by omega)
  rw [H1.out] at hc
  rw [Ht.out] at hc
  refine (hc).mono ?_
  rintro e w2 ⟨rfl, hb2⟩
  have hbw2 := hbw1.trans (hb2.mono hbw1.size)
  have Hd2 := Lib.hid (RdP.step Hd.out hb2)
  clear Hd
  have Hd := Hd2
  clear Hd2
  clear hb2
  clear hc
  go_wp2_with fail
  refine (cost_any s t hsz (by omega) w2 C HC.out).mono ?_
  rintro e w3 ⟨rfl, hb3⟩
  have hbw3 := hbw2.trans (hb3.mono hbw2.size)
  have Hd3 := Lib.hid (RdP.step Hd.out hb3)
  clear Hd
  have Hd := Hd3
  clear Hd3
  clear hb3
  go_wp2_with fail
  refine (rcost_any d A n c _ w3 Hd.out (Nat.le_refl _) Hk.out Z HZ.out).mono ?_
  rintro e w4 ⟨rfl, hb4⟩
  have hbw4 := hbw3.trans (hb4.mono hbw3.size)
  have Hd4 := Lib.hid (RdP.step Hd.out hb4)
  clear Hd
  have Hd := Hd4
  clear Hd4
  clear hb4
  go_wp2_with fail
  go_ret
  exact ⟨rfl, hbw4⟩
theorem walk_DiffBest (v : Value) (d : List Pt) (s : ByteArray) (hs : s.size ≤ 140737488351232) (w : World) (hx : IsParts w v d) :
    Calls Try.prog 10 #[v, .string s] w fun e w' => e = .returned (.bool true) ∧ Below w.heap.size w w' := by
  obtain ⟨A, n, c, rfl, h⟩ := hx
  by_cases h1 : doE d s = 0
  · exact diffBest_ok d A n c s hs w h h1
  · exact diffBest_err d A n c s hs w h h1
end Go.Proofs.Ytcclcgapcnjcdaa
