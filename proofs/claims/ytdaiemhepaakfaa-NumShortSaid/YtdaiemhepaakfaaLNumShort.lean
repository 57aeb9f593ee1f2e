/- NumShort: the walk. A number has just as many bytes as it must, and the lesser of two no more. -/
import Derived.Test.YtdaiemhepaakfaaNum
namespace Go.Proofs.Ytdaiemhepaakfaa
open Go.ChangeShapes Go.WideShapes Go.RowKit
set_option linter.unusedVariables false
set_option linter.unusedSimpArgs false

theorem vi_mono (n : Nat) : ∀ m, n ≤ m → (vi n).length ≤ (vi m).length := by
  induction n using Nat.strongRecOn with
  | ind n ih =>
    intro m h
    by_cases h1 : n < 128
    · rw [vi_lt n h1]; have := vi_pos m; simp; omega
    · have := ih (n / 128) (by omega) (m / 128) (by omega)
      rw [vi_ge n (by omega), vi_ge m (by omega)]
      simp; omega
theorem ofNat_inj {x y : Nat} (hx : x < 256) (hy : y < 256) (h : UInt8.ofNat x = UInt8.ofNat y) : x = y := by
  have := congrArg UInt8.toNat h
  simp [UInt8.toNat_ofNat'] at this
  omega
theorem vi_inj (n : Nat) : ∀ m, vi n = vi m → n = m := by
  induction n using Nat.strongRecOn with
  | ind n ih =>
    intro m h
    by_cases h1 : n < 128
    · rw [vi_lt n h1] at h
      by_cases h2 : m < 128
      · rw [vi_lt m h2] at h
        exact ofNat_inj (by omega) (by omega) (by simpa using h)
      · rw [vi_ge m (by omega)] at h
        have h3 := congrArg List.length h
        have h4 := vi_pos (m / 128)
        simp only [List.length_cons, List.length_nil] at h3; omega
    · rw [vi_ge n (by omega)] at h
      by_cases h2 : m < 128
      · rw [vi_lt m h2] at h
        have h3 := congrArg List.length h
        have h4 := vi_pos (n / 128)
        simp only [List.length_cons, List.length_nil] at h3; omega
      · rw [vi_ge m (by omega)] at h
        obtain ⟨e1, e2⟩ := List.cons.inj h
        have e3 := ih (n / 128) (by omega) _ e2
        have e4 := ofNat_inj (by omega) (by omega) e1
        omega

theorem walk_NumShort (a : Int) (wa : (Lit.int .i64 a).wf = true) (b : Int) (wb : (Lit.int .i64 b).wf = true) (w : World) :
    Calls Try.prog 3 #[.int .i64 a, .int .i64 b] w fun e w' => e = .returned (.bool true) ∧ Below w.heap.size w w' := by
  have v300 : Hid (vi 300 = [172, 2]) := by
    rw [vi_ge 300 (by omega), vi_lt _ (by omega)]; exact Lib.hid rfl
  clear wa wb
  by_cases ha : a < 0 ∨ 2147483647 < a
  · go_enter Try.func3, Try.ntmps3
    go_wp2_with fail
    refine (put_good 300 _ (by omega)).mono ?_
    rintro e w1 ⟨rfl, hb1⟩
    rw [v300.out]
    go_wp2_with fail
    refine (put_bad a _ ha).mono ?_
    rintro e w1 ⟨rfl, rfl⟩
    go_wp2_with fail
    by_cases hb : b < 0 ∨ 2147483647 < b
    · refine (put_bad b _ hb).mono ?_
      rintro e w1 ⟨rfl, rfl⟩
      go_wp2_with fail
      go_ret
      exact ⟨rfl, hb1⟩
    · obtain ⟨n, rfl⟩ := Int.eq_ofNat_of_zero_le (show 0 ≤ b by omega)
      refine (put_good n _ (by omega)).mono ?_
      rintro e w1 ⟨rfl, hb2⟩
      go_wp2_with fail
      go_ret
      exact ⟨rfl, hb1.trans (hb2.mono hb1.size)⟩
  · obtain ⟨n, rfl⟩ := Int.eq_ofNat_of_zero_le (show 0 ≤ a by omega)
    go_enter Try.func3, Try.ntmps3
    go_wp2_with fail
    refine (put_good 300 _ (by omega)).mono ?_
    rintro e w1 ⟨rfl, hb1⟩
    rw [v300.out]
    go_wp2_with fail
    refine (put_good n _ (by omega)).mono ?_
    rintro e w2 ⟨rfl, hb2⟩
    have hb12 := hb1.trans (hb2.mono hb1.size)
    go_wp2_with fail
    by_cases hb : b < 0 ∨ 2147483647 < b
    · refine (put_bad b _ hb).mono ?_
      rintro e w1 ⟨rfl, rfl⟩
      go_wp2_with fail
      go_ret
      exact ⟨rfl, hb12⟩
    · obtain ⟨m, rfl⟩ := Int.eq_ofNat_of_zero_le (show 0 ≤ b by omega)
      refine (put_good m _ (by omega)).mono ?_
      rintro e w3 ⟨rfl, hb3⟩
      have hb123 := hb12.trans (hb3.mono hb12.size)
      clear hb1 hb2 hb3 hb12
      have hs : Hid ((vi n = vi m) ↔ n = m) := ⟨vi_inj n m, fun h => by rw [h]⟩
      have hle : Hid (n ≤ m → (vi n).length ≤ (vi m).length) := vi_mono n m
      generalize hx : vi n = x at *
      generalize hy : vi m = y at *
      have Hx := Lib.hid hx
      have Hy := Lib.hid hy
      clear hx hy v300
      have hxl : 0 < x.length := by rw [← Hx.out]; exact vi_pos n
      have hx5 : x.length ≤ 5 := by rw [← Hx.out]; exact vi_len 5 n (by omega) (by omega)
      go_wp2_with fail
      go_loop [11, 12] (fun l k => ∃ (c p : Nat), l = .int .i64 c ∧ k = .int .i64 p ∧ (p : Int) ≤ 2147483647 ∧ Hid (c + (vi p).length = x.length + 1)) (fun _ k => (intOf k).toNat)
      case atStart => exact ⟨1, n, rfl, rfl, by omega, by rw [Hx.out]; exact Lib.hid (by omega)⟩
      case round =>
        obtain ⟨c, p, rfl, rfl, hp, hc⟩ := hrel
        have hcb : c ≤ 5 := by have := hc.out; have := vi_pos p; omega
        by_cases hlt : (127 : Int) < p
        · go_wp2
          go_round
          case rel => exact ⟨c + 1, p / 128, by go_num, by go_num, by omega, by
            have := hc.out
            rw [vi_ge p (by omega)] at this
            exact Lib.hid (by simp at this; omega)⟩
          case measure => simp [intOf]; omega
        · obtain rfl : c = x.length := by
            have := hc.out
            rw [vi_lt p (by omega)] at this
            simpa using this
          clear hc
          go_wp2_with fail
          all_goals go_ret
          all_goals refine ⟨?_, hb123⟩
          · have e1 : (x == y) = ((n : Int) == (m : Int)) := by
              rw [Bool.eq_iff_iff]
              simp only [beq_iff_eq, hs.out]
              omega
            have e2 : x.length ≤ y.length := hle.out (by omega)
            simp [e1, e2]
          · have := hle.out (by omega); omega
          · have e1 : (x == y) = ((n : Int) == (m : Int)) := by
              rw [Bool.eq_iff_iff]
              simp only [beq_iff_eq, hs.out]
              omega
            simp [e1]
end Go.Proofs.Ytdaiemhepaakfaa
