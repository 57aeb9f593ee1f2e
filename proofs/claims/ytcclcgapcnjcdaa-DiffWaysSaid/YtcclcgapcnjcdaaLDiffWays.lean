/- DiffWays: the walk. To itself it costs nothing; there and back the same; over a third text no less. -/
import Derived.Test.YtcclcgapcnjcdaaCost
import Derived.Test.YtcclcgapcnjcdaaOpenParts
namespace Go.Proofs.Ytcclcgapcnjcdaa
open Go.ChangeShapes Go.WideShapes Go.RowKit
set_option linter.unusedVariables false
set_option linter.unusedSimpArgs false
set_option maxRecDepth 100000
set_option maxHeartbeats 4000000


theorem guard_one : dst (⟨#[97, 98, 99]⟩ : ByteArray).data.toList (⟨#[97, 99]⟩ : ByteArray).data.toList = 1 := by
  show dst [97, 98, 99] [97, 99] = 1
  unfold dst
  rw [lcs_eq, lcs_ne (by decide), lcs_eq, lcs_nil_left, lcs_nil_right]
  rfl

theorem diffWays_far (s t u a b : ByteArray) (hs : s.size ≤ 140737488351232) (ht : t.size ≤ 140737488351232) (hu : u.size ≤ 140737488351232) (ha : a.size ≤ 140737488351232) (hb : b.size ≤ 140737488351232) (w : World) (M : Int) (hM : max (s.size : Int) (t.size : Int) = M) (h1 : 500 < M + a.size + b.size ∨ (500 : Int) < u.size) :
    Calls Try.prog 9 #[.string s, .string t, .string u, .string a, .string b] w fun e w' => e = .returned (.bool true) ∧ Below w.heap.size w w' := by
  have hbw0 : Below w.heap.size w w := Below.refl _ _
  have hM0 : 0 ≤ M := by omega
  have hM1 : M ≤ 140737488351232 := by omega
  have HM := Lib.hid hM
  clear hM
  rcases (show 500 < M + a.size + b.size ∨ (M + a.size + b.size ≤ 500 ∧ (500 : Int) < u.size) by omega) with h2 | ⟨h2, h3⟩
  all_goals
    clear h1
    go_enter Try.func9, Try.ntmps9
    go_wp2_with fail
    refine (cost_any ⟨#[97, 98, 99]⟩ ⟨#[97, 99]⟩ (by decide) (by decide) w 1 guard_one).mono ?_
    rintro e w1 ⟨rfl, hb1⟩
    have hbw1 := hbw0.trans (hb1.mono hbw0.size)
    clear hb1
    go_wp2_with (first | (refine wpList_max2 rfl (.tmp 36) (.tmp 38) _ rfl _ _ _ rfl rfl HM.out ?_))
    go_ret
    exact ⟨rfl, hbw1⟩
theorem diffWays_ok (s t u a b : ByteArray) (hs : s.size ≤ 140737488351232) (ht : t.size ≤ 140737488351232) (hu : u.size ≤ 140737488351232) (ha : a.size ≤ 140737488351232) (hb : b.size ≤ 140737488351232) (w : World) (M : Int) (hM : max (s.size : Int) (t.size : Int) = M) (h1 : M + a.size + b.size ≤ 500) (h2 : (u.size : Int) ≤ 500) :
    Calls Try.prog 9 #[.string s, .string t, .string u, .string a, .string b] w fun e w' => e = .returned (.bool true) ∧ Below w.heap.size w w' := by
  have hbw0 : Below w.heap.size w w := Below.refl _ _
  have hM0 : 0 ≤ M := by omega
  have hs5 : (s.size : Int) ≤ 500 := by omega
  have ht5 : (t.size : Int) ≤ 500 := by omega
  have ha5 : (a.size : Int) ≤ 500 := by omega
  have hb5 : (b.size : Int) ≤ 500 := by omega
  obtain ⟨X1, hX1⟩ : ∃ X, a ++ s = X := ⟨_, rfl⟩
  obtain ⟨X2, hX2⟩ : ∃ X, X1 ++ b = X := ⟨_, rfl⟩
  obtain ⟨Y1, hY1⟩ : ∃ X, a ++ t = X := ⟨_, rfl⟩
  obtain ⟨Y2, hY2⟩ : ∃ X, Y1 ++ b = X := ⟨_, rfl⟩
  have sX1 : X1.size = a.size + s.size := by rw [← hX1, ByteArray.size_append]
  have sX2 : (X2.size : Int) ≤ 500 := by rw [← hX2, ByteArray.size_append]; omega
  have sY1 : Y1.size = a.size + t.size := by rw [← hY1, ByteArray.size_append]
  have sY2 : (Y2.size : Int) ≤ 500 := by rw [← hY2, ByteArray.size_append]; omega
  have dX : X2.data.toList = a.data.toList ++ s.data.toList ++ b.data.toList := by rw [← hX2, bs_append, ← hX1, bs_append]
  have dY : Y2.data.toList = a.data.toList ++ t.data.toList ++ b.data.toList := by rw [← hY2, bs_append, ← hY1, bs_append]
  have hin := dst_in a.data.toList b.data.toList s.data.toList t.data.toList
  rw [← dX, ← dY] at hin
  have hcm := dst_comm t.data.toList s.data.toList
  have htr := dst_tri s.data.toList t.data.toList u.data.toList
  have hse := dst_self s.data.toList
  have hze := @dst_zero s.data.toList t.data.toList
  obtain ⟨c1, hc1⟩ : ∃ C, dst s.data.toList t.data.toList = C := ⟨_, rfl⟩
  obtain ⟨c2, hc2⟩ : ∃ C, dst t.data.toList u.data.toList = C := ⟨_, rfl⟩
  obtain ⟨c3, hc3⟩ : ∃ C, dst s.data.toList u.data.toList = C := ⟨_, rfl⟩
  rw [hc1] at hin hcm htr hze
  rw [hc2, hc3] at htr
  have htri : (c3 : Int) ≤ (c1 : Int) + (c2 : Int) := by omega
  have hcl : (c1 : Int) ≤ 1000 := by have := dst_is s.data.toList t.data.toList; have e1 : s.data.toList.length = s.size := rfl; have e2 : t.data.toList.length = t.size := rfl; omega
  have hcl2 : (c2 : Int) ≤ 1000 := by have := dst_is t.data.toList u.data.toList; have e1 : u.data.toList.length = u.size := rfl; have e2 : t.data.toList.length = t.size := rfl; omega
  have heq : ((c1 : Int) == 0) = (s.toList == t.toList) := by
    by_cases h0 : c1 = 0
    · have e := hze h0
      have e2 : s.toList = t.toList := by rw [ByteArray.toList_eq, ByteArray.toList_eq, e]
      rw [e2]; simp [h0]
    · have e2 : s.toList ≠ t.toList := fun h => by
        rw [ByteArray.toList_eq, ByteArray.toList_eq] at h
        rw [h, dst_self] at hc1
        exact h0 hc1.symm
      have e3 : (s.toList == t.toList) = false := by simpa using e2
      have e4 : ((c1 : Int) == 0) = false := by simp; omega
      rw [e3, e4]
  have Hin := Lib.hid hin
  have Hcm := Lib.hid hcm
  have Hse := Lib.hid hse
  have Hc1 := Lib.hid hc1
  have Hc2 := Lib.hid hc2
  have Hc3 := Lib.hid hc3
  have HM := Lib.hid hM
  obtain ⟨bb, hbb⟩ : ∃ bb, (s.toList == t.toList) = bb := ⟨_, rfl⟩
  rw [hbb] at heq
  have g1 : (9223372036854775807 < a.size + s.size) = False := by simp; omega
  have g2 : (9223372036854775807 < X1.size + b.size) = False := by simp; omega
  have g3 : (9223372036854775807 < a.size + t.size) = False := by simp; omega
  have g4 : (9223372036854775807 < Y1.size + b.size) = False := by simp; omega
  clear hin hcm htr hse hze hc1 hc2 hc3 hM dX dY sX1 sY1
  go_enter Try.func9, Try.ntmps9
  go_wp2_with fail
  refine (cost_any ⟨#[97, 98, 99]⟩ ⟨#[97, 99]⟩ (by decide) (by decide) w 1 guard_one).mono ?_
  rintro e w1 ⟨rfl, hb1⟩
  have hbw1 := hbw0.trans (hb1.mono hbw0.size)
  clear hb1
  go_wp2_with (first | (refine wpList_max2 rfl (.tmp 36) (.tmp 38) _ rfl _ _ _ rfl rfl HM.out ?_))
  refine (cost_any s t hs5 ht5 w1 c1 Hc1.out).mono ?_
  rintro e w2 ⟨rfl, hb2⟩
  have hbw2 := hbw1.trans (hb2.mono hbw1.size)
  clear hb2
  go_wp2_with fail
  refine (cost_any t s ht5 hs5 w2 c1 Hcm.out).mono ?_
  rintro e w3 ⟨rfl, hb3⟩
  have hbw3 := hbw2.trans (hb3.mono hbw2.size)
  clear hb3
  go_wp2_with fail
  refine (cost_any t u ht5 h2 w3 c2 Hc2.out).mono ?_
  rintro e w4 ⟨rfl, hb4⟩
  have hbw4 := hbw3.trans (hb4.mono hbw3.size)
  clear hb4
  go_wp2_with fail
  refine (cost_any s u hs5 h2 w4 c3 Hc3.out).mono ?_
  rintro e w5 ⟨rfl, hb5⟩
  have hbw5 := hbw4.trans (hb5.mono hbw4.size)
  clear hb5
  go_wp2_with fail
  refine (cost_any s s hs5 hs5 w5 0 Hse.out).mono ?_
  rintro e w6 ⟨rfl, hb6⟩
  have hbw6 := hbw5.trans (hb6.mono hbw5.size)
  clear hb6
  go_wp2_with fail
  refine (cost_any X2 Y2 sX2 sY2 w6 c1 Hin.out).mono ?_
  rintro e w7 ⟨rfl, hb7⟩
  have hbw7 := hbw6.trans (hb7.mono hbw6.size)
  clear hb7
  cases bb
  all_goals
    go_wp2_with fail
    go_ret
    exact ⟨rfl, hbw7⟩
theorem walk_DiffWays (s : ByteArray) (hs : s.size ≤ 140737488351232) (t : ByteArray) (ht : t.size ≤ 140737488351232) (u : ByteArray) (hu : u.size ≤ 140737488351232) (a : ByteArray) (ha : a.size ≤ 140737488351232) (b : ByteArray) (hb : b.size ≤ 140737488351232) (w : World) :
    Calls Try.prog 9 #[.string s, .string t, .string u, .string a, .string b] w fun e w' => e = .returned (.bool true) ∧ Below w.heap.size w w' := by
  by_cases h1 : 500 < max (s.size : Int) (t.size : Int) + a.size + b.size ∨ (500 : Int) < u.size
  · exact diffWays_far s t u a b hs ht hu ha hb w _ rfl h1
  · exact diffWays_ok s t u a b hs ht hu ha hb w _ rfl (by omega) (by omega)
end Go.Proofs.Ytcclcgapcnjcdaa
