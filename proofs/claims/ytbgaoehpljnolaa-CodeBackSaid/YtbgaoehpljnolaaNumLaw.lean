/- Numbers written and read; what is read is written as it was. -/
import Derived.Test.YtbgaoehpljnolaaNumGet
namespace Go.Proofs.Ytbgaoehpljnolaa
open Go.ChangeShapes Go.WideShapes Go.RowKit
set_option linter.unusedVariables false
set_option linter.unusedSimpArgs false
set_option maxRecDepth 100000

theorem vi_head (n : Nat) (r : List UInt8) (h : 128 ≤ n) : vi n ++ r = UInt8.ofNat (n % 128 + 128) :: (vi (n / 128) ++ r) := by
  rw [vi_ge n h]; rfl
theorem toNat_ofNat (x : Nat) (h : x < 256) : (UInt8.ofNat x).toNat = x := by
  simp [UInt8.toNat_ofNat']; omega

/-- what was written is read, whatever stands behind -/
theorem gn_vi (j : Nat) : ∀ (i n m : Nat) (r : List UInt8), i + j = 4 → n < 128 ^ (j + 1) → (0 < i → 0 < n) → m + n * 2 ^ (7 * i) ≤ 2147483647 →
    gn (vi n ++ r) i m = (m + n * 2 ^ (7 * i), i + (vi n).length, 0) := by
  induction j with
  | zero =>
    intro i n m r hi hn h0 hb
    have hn' : n < 128 := by simpa using hn
    rw [vi_lt n hn', List.singleton_append, gn_cons _ _ _ _ (m + n * 2 ^ (7 * i)) (by rw [toNat_ofNat n (by omega), Nat.mod_eq_of_lt hn'])]
    rw [toNat_ofNat n (by omega), if_pos hn', if_neg (by omega)]
    rfl
  | succ j ih =>
    intro i n m r hi hn h0 hb
    by_cases hn' : n < 128
    · rw [vi_lt n hn', List.singleton_append, gn_cons _ _ _ _ (m + n * 2 ^ (7 * i)) (by rw [toNat_ofNat n (by omega), Nat.mod_eq_of_lt hn'])]
      rw [toNat_ofNat n (by omega), if_pos hn', if_neg (by omega)]
      rfl
    · have e7 : 2 ^ (7 * (i + 1)) = 128 * 2 ^ (7 * i) := by rw [Nat.mul_add, Nat.pow_add]; omega
      have e8 : n * 2 ^ (7 * i) = n % 128 * 2 ^ (7 * i) + n / 128 * 2 ^ (7 * (i + 1)) := by
        rw [e7, ← Nat.mul_assoc, ← Nat.add_mul]; congr 1; omega
      rw [vi_head n r (by omega), gn_cons _ _ _ _ (m + n % 128 * 2 ^ (7 * i)) (by rw [toNat_ofNat _ (by omega)]; congr 2; omega)]
      rw [toNat_ofNat _ (by omega), if_neg (by omega), if_neg (by omega)]
      rw [ih (i + 1) (n / 128) _ r (by omega) (by rw [Nat.pow_succ] at hn; omega) (by omega) (by omega)]
      rw [vi_ge n (by omega), e8]
      simp
      omega
/-- cut short it is none -/
theorem gn_cut (j : Nat) : ∀ (i n m k : Nat), i + j = 4 → n < 128 ^ (j + 1) → k < (vi n).length → gn ((vi n).take k) i m = (0, 0, 5) := by
  induction j with
  | zero =>
    intro i n m k hi hn hk
    rw [vi_lt n (by simpa using hn)] at hk ⊢
    obtain rfl : k = 0 := by simpa using hk
    rfl
  | succ j ih =>
    intro i n m k hi hn hk
    by_cases h1 : n < 128
    · rw [vi_lt n h1] at hk ⊢
      obtain rfl : k = 0 := by simpa using hk
      rfl
    · rw [vi_ge n (by omega)] at hk ⊢
      rcases k with _ | k
      · rfl
      · rw [List.take_succ_cons, gn_cons _ _ _ _ _ rfl, toNat_ofNat _ (by omega), if_neg (by omega), if_neg (by omega)]
        exact ih (i + 1) _ _ k (by omega) (by rw [Nat.pow_succ] at hn; omega) (by simpa using hk)

/-- what is read is written as it was -/
theorem gn_inv : ∀ (s : List UInt8) (i n a j : Nat), gn s i n = (a, j, 0) → ∃ x, a = n + x * 2 ^ (7 * i) ∧ vi x = s.take (j - i) ∧ i < j ∧ j - i ≤ s.length ∧ (0 < i → 0 < x) ∧ a ≤ 2147483647
  | [], i, n, a, j, h => by simp [gn] at h
  | c :: r, i, n, a, j, h => by
    rw [gn_cons c r i n _ rfl] at h
    split at h
    · rename_i hc
      split at h
      · simp at h
      · rename_i hz
        simp only [Prod.mk.injEq, and_true] at h
        obtain ⟨rfl, rfl⟩ := h
        have hm : c.toNat % 128 = c.toNat := Nat.mod_eq_of_lt hc
        refine ⟨c.toNat, by rw [hm], ?_, by omega, by simp only [List.length_cons]; omega, by omega, by omega⟩
        rw [vi_lt _ hc, show i + 1 - i = 1 by omega]
        simp
    · rename_i hc
      split at h
      · simp at h
      · obtain ⟨x, h1, h2, h3, h4, h5, h6⟩ := gn_inv r (i + 1) _ a j h
        have e7 : 2 ^ (7 * (i + 1)) = 128 * 2 ^ (7 * i) := by rw [Nat.mul_add, Nat.pow_add]; omega
        have hx := h5 (by omega)
        have hc2 : c.toNat < 256 := c.toNat_lt
        refine ⟨c.toNat % 128 + 128 * x, ?_, ?_, by omega, by simp only [List.length_cons]; omega, by omega, h6⟩
        · rw [h1, e7, Nat.add_mul, Nat.mul_assoc, Nat.mul_left_comm 128 x]
          rw [← Nat.mul_assoc x 128]
          rw [Nat.mul_comm x 128, Nat.mul_assoc]
          omega
        · rw [vi_ge _ (by omega), show (c.toNat % 128 + 128 * x) / 128 = x by omega, h2, show j - i = (j - (i + 1)) + 1 by omega, List.take_succ_cons]
          congr 1
          have : (c.toNat % 128 + 128 * x) % 128 + 128 = c.toNat := by omega
          rw [this]
          simp
end Go.Proofs.Ytbgaoehpljnolaa
