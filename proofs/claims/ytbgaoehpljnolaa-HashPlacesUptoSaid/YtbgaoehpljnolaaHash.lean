/- Contracts of hash.Of, hash.power, hash.Join, and what they make. -/
import Derived.Test.YtbgaoehpljnolaaBase
namespace Go.Proofs.Ytbgaoehpljnolaa
open Go.ChangeShapes Go.WideShapes Go.RowKit
set_option linter.unusedVariables false
set_option linter.unusedSimpArgs false
set_option maxRecDepth 100000
set_option maxHeartbeats 4000000

def hstep (h : Nat) (c : UInt8) : Nat := (h * 257 + c.toNat + 1) % 2147483647
def hashL (l : List UInt8) : Nat := l.foldl hstep 0
def hpoly (l : List UInt8) : Nat := l.foldl (fun h c => h * 257 + c.toNat + 1) 0
theorem hstep_lt (h : Nat) (c : UInt8) : hstep h c < 2147483647 := Nat.mod_lt _ (by decide)
theorem fold_lt (l : List UInt8) : ∀ h, h < 2147483647 → l.foldl hstep h < 2147483647 := by
  induction l with
  | nil => intro h hh; exact hh
  | cons c r ih => intro h _; exact ih _ (hstep_lt h c)
theorem hashL_lt (l : List UInt8) : hashL l < 2147483647 := fold_lt l 0 (by decide)
theorem hpoly_fold (l : List UInt8) : ∀ h, l.foldl (fun h c => h * 257 + c.toNat + 1) h = h * 257 ^ l.length + hpoly l := by
  induction l with
  | nil => intro h; simp [hpoly]
  | cons c r ih =>
    intro h
    unfold hpoly
    simp only [List.foldl_cons, List.length_cons]
    rw [ih, ih (0 * 257 + c.toNat + 1), Nat.pow_succ]
    have : (h * 257 + c.toNat + 1) * 257 ^ r.length = h * (257 ^ r.length * 257) + (c.toNat + 1) * 257 ^ r.length := by
      rw [Nat.add_assoc, Nat.add_mul, Nat.mul_assoc, Nat.mul_comm 257]
    rw [this, show 0 * 257 + c.toNat + 1 = c.toNat + 1 by omega]
    omega
theorem fold_mod (l : List UInt8) : ∀ h, l.foldl hstep h % 2147483647 = (l.foldl (fun h c => h * 257 + c.toNat + 1) h) % 2147483647 := by
  suffices H : ∀ h k, h % 2147483647 = k % 2147483647 → l.foldl hstep h % 2147483647 = (l.foldl (fun h c => h * 257 + c.toNat + 1) k) % 2147483647 from fun h => H h h rfl
  induction l with
  | nil => intro h k e; exact e
  | cons c r ih =>
    intro h k e
    simp only [List.foldl_cons]
    refine ih _ _ ?_
    unfold hstep
    omega
theorem hashL_eq (l : List UInt8) : hashL l = hpoly l % 2147483647 := by
  have h := fold_mod l 0
  have h2 := hashL_lt l
  unfold hashL at h2 ⊢
  rw [Nat.mod_eq_of_lt h2] at h
  exact h
/-- RABIN, KARP -/
theorem hashL_append (s t : List UInt8) : hashL (s ++ t) = (hashL s * (257 ^ t.length % 2147483647) + hashL t) % 2147483647 := by
  rw [hashL_eq (s ++ t), show hpoly (s ++ t) = t.foldl (fun h c => h * 257 + c.toNat + 1) (hpoly s) by simp [hpoly], hpoly_fold, hashL_eq s, hashL_eq t]
  conv => rhs; rw [Nat.add_mod, Nat.mul_mod]
  conv => lhs; rw [Nat.add_mod, Nat.mul_mod]
  simp only [Nat.mod_mod]

theorem hof_any (s : ByteArray) (w : World) (hs : s.size ≤ 9223372036854775807) :
    Calls Try.prog 44 #[.string s] w fun e w' => e = .returned (.int .i64 (hashL s.data.toList)) ∧ w = w' := by
  go_enter Try.func44, Try.ntmps44
  go_wp2_with fail
  go_loop [3, 4, 7] (fun h i0 i => ∃ k m : Nat, k ≤ s.size ∧ i = .int .i64 k ∧ h = .int .i64 m ∧ m < 2147483647 ∧ Hid ((s.data.toList.drop k).foldl hstep m = hashL s.data.toList)) (fun _ _ i => s.size - (intOf i).toNat)
  case atStart => exact ⟨0, 0, by omega, rfl, rfl, by omega, Lib.hid rfl⟩
  case round =>
    obtain ⟨k, m, hk, rfl, rfl, hm, hg⟩ := hrel
    by_cases hlt : k < s.size
    · have hc8 : (s[k].toNat : Int) < 256 := by have := s[k].toNat_lt; omega
      go_wp2_with fail
      go_round
      case rel => exact ⟨k + 1, hstep m s[k], by omega, by go_num, by unfold hstep; go_num, hstep_lt _ _, by
        rw [← hg.out]
        conv => rhs; rw [List.drop_eq_getElem_cons (show k < s.data.toList.length by rw [bs_len]; omega), List.foldl_cons]
        exact Lib.hid rfl⟩
      case measure => simp [intOf]; omega
    · have hG : Hid (m = hashL s.data.toList) := by
        rw [← hg.out, List.drop_eq_nil_of_le (by rw [bs_len]; omega)]; exact Lib.hid rfl
      go_wp2_with fail
      go_ret
      exact ⟨by rw [← hG.out]; rfl, rfl⟩

theorem wrap_mul (x y : Nat) (hx : (x : Int) ≤ 2147483646) (hy : (y : Int) ≤ 2147483646) : wrap64 ((x : Int) * y) = ((x * y : Nat) : Int) := by
  have h := Nat.mul_le_mul (show x ≤ 2147483647 by omega) (show y ≤ 2147483647 by omega)
  rw [← Int.natCast_mul]
  exact IntWalk.wrap64_in _ ⟨by omega, by omega⟩
@[irreducible] def powN (n : Nat) : Nat := 257 ^ n % 2147483647
@[irreducible] def PInv (n m x y : Nat) : Prop := x * y ^ m % 2147483647 = powN n
theorem and_one64 (m : Nat) (h : m < 9223372036854775808) : bits BinOp.and IntKind.i64 (m : Int) 1 = ((m % 2 : Nat) : Int) := by
  have h1 : BitVec.ofInt 64 (m : Int) = BitVec.ofNat 64 m := by simp
  have h2 : BitVec.ofInt 64 (1 : Int) = BitVec.ofNat 64 1 := by rfl
  show IntKind.i64.wrap _ = _
  rw [show IntKind.i64.bits = 64 from rfl, h1, h2]
  rw [BitVec.toNat_and, BitVec.toNat_ofNat, BitVec.toNat_ofNat, Nat.mod_eq_of_lt (by omega), Nat.mod_eq_of_lt (by omega), Nat.and_one_is_mod]
  exact IntWalk.i64_in _ ⟨by omega, by omega⟩
theorem powN_lt (n : Nat) : powN n < 2147483647 := by unfold powN; exact Nat.mod_lt _ (by decide)
theorem mod_pow_congr (x y : Nat) (k : Nat) : x * (y % 2147483647) ^ k % 2147483647 = x * y ^ k % 2147483647 := by
  rw [Nat.mul_mod, ← Nat.pow_mod, ← Nat.mul_mod]
theorem pinv_odd (n m x y : Nat) (ho : m % 2 = 1) (h : PInv n m x y) : PInv n (m / 2) (x * y % 2147483647) (y * y % 2147483647) := by
  unfold PInv at h ⊢
  rw [mod_pow_congr, ← h]
  conv => lhs; rw [Nat.mul_mod, Nat.mod_mod, ← Nat.mul_mod]
  congr 1
  conv => rhs; rw [show m = 2 * (m / 2) + 1 by omega, Nat.pow_succ, Nat.pow_mul]
  rw [Nat.pow_two, Nat.mul_assoc, Nat.mul_comm y]
theorem pinv_even (n m x y : Nat) (ho : m % 2 = 0) (h : PInv n m x y) : PInv n (m / 2) x (y * y % 2147483647) := by
  unfold PInv at h ⊢
  rw [mod_pow_congr, ← h]
  congr 1
  conv => rhs; rw [show m = 2 * (m / 2) by omega, Nat.pow_mul]
  rw [Nat.pow_two]
theorem power_any (n : Nat) (w : World) (hn : (n : Int) ≤ 2147483647) :
    Calls Try.prog 45 #[.int .i64 n] w fun e w' => e = .returned (.int .i64 (powN n)) ∧ w = w' := by
  go_enter Try.func45, Try.ntmps45
  go_wp2_with fail
  go_loop [0, 3, 4] (fun n' o b => ∃ m x y : Nat, n' = .int .i64 m ∧ (m : Int) ≤ 2147483647 ∧ o = .int .i64 x ∧ b = .int .i64 y ∧ (x : Int) ≤ 2147483646 ∧ (y : Int) ≤ 2147483646 ∧ PInv n m x y) (fun n' _ _ => (intOf n').toNat)
  case atStart => exact ⟨n, 1, 257, rfl, hn, rfl, rfl, by decide, by decide, by unfold PInv powN; rw [Nat.one_mul]⟩
  case round =>
    obtain ⟨m, x, y, rfl, hm, rfl, rfl, hx, hy, hg⟩ := hrel
    by_cases hlt : (0 : Int) < m
    · obtain ⟨P, hP⟩ : ∃ P, P = x * y := ⟨_, rfl⟩
      obtain ⟨R, hR⟩ : ∃ R, R = y * y := ⟨_, rfl⟩
      have hw1 : wrap64 ((x : Int) * y) = (P : Int) := by rw [hP]; exact wrap_mul x y hx hy
      have hw2 : wrap64 ((y : Int) * y) = (R : Int) := by rw [hR]; exact wrap_mul y y hy hy
      have HP := Lib.hid hP
      have HR := Lib.hid hR
      clear hP hR
      have hE : (bits BinOp.and IntKind.i64 (m : Int) 1 == 1) = (m % 2 == 1) := by
        rw [and_one64 m (by omega)]
        rw [Bool.eq_iff_iff]; simp; omega
      have hP1 : (P : Int) % 2147483647 ≤ 2147483646 := by omega
      have hR1 : (R : Int) % 2147483647 ≤ 2147483646 := by omega
      by_cases hodd : m % 2 = 1
      · have hE1 : (bits BinOp.and IntKind.i64 (m : Int) 1 == 1) = true := by rw [hE]; simpa using hodd
        clear hE
        have Hodd := Lib.hid hodd
        clear hodd
        go_wp2_with fail
        go_round
        case rel =>
          refine ⟨m / 2, P % 2147483647, R % 2147483647, by go_num, by omega, by go_num, by go_num, by omega, by omega, ?_⟩
          rw [HP.out, HR.out]
          exact pinv_odd n m x y Hodd.out hg
        case measure => simp [intOf]; omega
      · have hE1 : (bits BinOp.and IntKind.i64 (m : Int) 1 == 1) = false := by rw [hE]; simpa using hodd
        clear hE
        have Hodd := Lib.hid hodd
        clear hodd
        go_wp2_with fail
        go_round
        case rel =>
          refine ⟨m / 2, x, R % 2147483647, by go_num, by omega, rfl, by go_num, by omega, by omega, ?_⟩
          rw [HR.out]
          exact pinv_even n m x y (by have := Hodd.out; omega) hg
        case measure => simp [intOf]; omega
    · obtain rfl : m = 0 := by omega
      have h := hg
      unfold PInv at h
      rw [Nat.pow_zero, Nat.mul_one, Nat.mod_eq_of_lt (by omega)] at h
      have H := Lib.hid h
      clear h hg hx hy hn hm
      go_wp2_with fail
      go_ret
      exact ⟨by rw [← H.out]; rfl, rfl⟩

end Go.Proofs.Ytbgaoehpljnolaa
