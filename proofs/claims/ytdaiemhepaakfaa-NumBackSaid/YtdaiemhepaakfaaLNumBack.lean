/- NumBack: the walk. A number is read as it was, whatever stands behind; cut short it is none. -/
import Derived.Test.YtdaiemhepaakfaaNumGet
import Derived.Test.YtdaiemhepaakfaaWithin
namespace Go.Proofs.Ytdaiemhepaakfaa
open Go.ChangeShapes Go.WideShapes Go.RowKit
set_option linter.unusedVariables false
set_option linter.unusedSimpArgs false
set_option maxRecDepth 100000
set_option maxHeartbeats 4000000

theorem vi_head (n : Nat) (r : List UInt8) (h : 128 ≤ n) : vi n ++ r = UInt8.ofNat (n % 128 + 128) :: (vi (n / 128) ++ r) := by
  rw [vi_ge n h]; rfl
theorem toNat_ofNat (x : Nat) (h : x < 256) : (UInt8.ofNat x).toNat = x := by
  simp [UInt8.toNat_ofNat']; omega

/-- what was written is read, whatever stands behind -/
theorem gn_vi (j : Nat) : ∀ (i n m : Nat) (r : List UInt8), i + j = 4 → n < 128 ^ (j + 1) → (0 < i → 0 < n) → m + n * 2 ^ (7 * i) ≤ 2147483647 →
    gn (vi n ++ r) i m = (m + n * 2 ^ (7 * i), i + (vi n).length, 0) := by
  induction j with
  | zero =>
    intro i n m r hi hn h0 hb
    have hn' : n < 128 := by simpa using hn
    rw [vi_lt n hn', List.singleton_append, gn_cons _ _ _ _ (m + n * 2 ^ (7 * i)) (by rw [toNat_ofNat n (by omega), Nat.mod_eq_of_lt hn'])]
    rw [toNat_ofNat n (by omega), if_pos hn', if_neg (by omega)]
    rfl
  | succ j ih =>
    intro i n m r hi hn h0 hb
    by_cases hn' : n < 128
    · rw [vi_lt n hn', List.singleton_append, gn_cons _ _ _ _ (m + n * 2 ^ (7 * i)) (by rw [toNat_ofNat n (by omega), Nat.mod_eq_of_lt hn'])]
      rw [toNat_ofNat n (by omega), if_pos hn', if_neg (by omega)]
      rfl
    · have e7 : 2 ^ (7 * (i + 1)) = 128 * 2 ^ (7 * i) := by rw [Nat.mul_add, Nat.pow_add]; omega
      have e8 : n * 2 ^ (7 * i) = n % 128 * 2 ^ (7 * i) + n / 128 * 2 ^ (7 * (i + 1)) := by
        rw [e7, ← Nat.mul_assoc, ← Nat.add_mul]; congr 1; omega
      rw [vi_head n r (by omega), gn_cons _ _ _ _ (m + n % 128 * 2 ^ (7 * i)) (by rw [toNat_ofNat _ (by omega)]; congr 2; omega)]
      rw [toNat_ofNat _ (by omega), if_neg (by omega), if_neg (by omega)]
      rw [ih (i + 1) (n / 128) _ r (by omega) (by rw [Nat.pow_succ] at hn; omega) (by omega) (by omega)]
      rw [vi_ge n (by omega), e8]
      simp
      omega
/-- cut short it is none -/
theorem gn_cut (j : Nat) : ∀ (i n m k : Nat), i + j = 4 → n < 128 ^ (j + 1) → k < (vi n).length → gn ((vi n).take k) i m = (0, 0, 5) := by
  induction j with
  | zero =>
    intro i n m k hi hn hk
    rw [vi_lt n (by simpa using hn)] at hk ⊢
    obtain rfl : k = 0 := by simpa using hk
    rfl
  | succ j ih =>
    intro i n m k hi hn hk
    by_cases h1 : n < 128
    · rw [vi_lt n h1] at hk ⊢
      obtain rfl : k = 0 := by simpa using hk
      rfl
    · rw [vi_ge n (by omega)] at hk ⊢
      rcases k with _ | k
      · rfl
      · rw [List.take_succ_cons, gn_cons _ _ _ _ _ rfl, toNat_ofNat _ (by omega), if_neg (by omega), if_neg (by omega)]
        exact ih (i + 1) _ _ k (by omega) (by rw [Nat.pow_succ] at hn; omega) (by simpa using hk)

theorem walk_NumBack (n : Int) (wn : (Lit.int .i64 n).wf = true) (more : ByteArray) (hmore : more.size ≤ 140737488351232) (k : Int) (wk : (Lit.int .i64 k).wf = true) (w : World) :
    Calls Try.prog 7 #[.int .i64 n, .string more, .int .i64 k] w fun e w' => e = .returned (.bool true) ∧ Below w.heap.size w w' := by
  clear wn wk
  by_cases hn : n < 0 ∨ 2147483647 < n
  · go_enter Try.func7, Try.ntmps7
    go_wp2_with fail
    refine (put_bad n _ hn).mono ?_
    rintro e w1 ⟨rfl, rfl⟩
    go_wp2_with fail
    all_goals (go_ret; refine ⟨?_, Below.refl _ _⟩)
    · have : decide (2147483647 < n) = true := by simp; omega
      simp [this]
    · simp
  · obtain ⟨n, rfl⟩ := Int.eq_ofNat_of_zero_le (show 0 ≤ n by omega)
    have hl := vi_len 5 n (by omega) (by omega)
    have hp := vi_pos n
    have hg := gn_vi 4 0 n 0 more.data.toList rfl (by omega) (by omega) (by omega)
    have hcut := fun j (hj : j < (vi n).length) => gn_cut 4 0 n 0 j rfl (by omega) hj
    simp only [Nat.mul_zero, Nat.pow_zero, Nat.mul_one, Nat.zero_add] at hg
    have Hg := Lib.hid hg
    have Hcut := Lib.hid hcut
    clear hg hcut
    go_enter Try.func7, Try.ntmps7
    go_wp2_with fail
    refine (put_good n _ (by omega)).mono ?_
    rintro e w1 ⟨rfl, hb1⟩
    generalize hx : vi n = x at *
    clear hx
    go_wp2_with fail
    refine (get_val _ _ ?_ (a := n) (b := x.length) (c := 0) ?_).mono ?_
    · rw [ByteArray.size_append, bs_size]; omega
    · simpa using Hg.out
    rintro e w2 ⟨rfl, rfl⟩
    go_wp2_with fail
    refine (within_any k x.length _ hp (by omega)).mono ?_
    rintro e w2 ⟨rfl, rfl⟩
    have hwi := wi_lt k x.length hp
    generalize wi k x.length = j at *
    go_wp2_with fail
    refine (get_val _ _ ?_ (a := 0) (b := 0) (c := 5) ?_).mono ?_
    · rw [← bs_len, bs_take, List.length_take]; omega
    · rw [bs_take]; exact Hcut.out j hwi
    rintro e w2 ⟨rfl, rfl⟩
    go_wp2_with fail
    go_ret
    exact ⟨by simp [bs_size], hb1⟩
end Go.Proofs.Ytdaiemhepaakfaa
