/- Contracts of num.Put and what it makes: the bytes of a number. -/
import Derived.Test.YtbgaoehpljnolaaBase
namespace Go.Proofs.Ytbgaoehpljnolaa
open Go.ChangeShapes Go.WideShapes Go.RowKit
set_option linter.unusedVariables false
set_option linter.unusedSimpArgs false
set_option maxRecDepth 100000
set_option maxHeartbeats 4000000

/-- the bytes of a number: seven bits a byte, the lowest first -/
def vi (n : Nat) : List UInt8 :=
  if n < 128 then [UInt8.ofNat n] else UInt8.ofNat (n % 128 + 128) :: vi (n / 128)

theorem vi_lt (n : Nat) (h : n < 128) : vi n = [UInt8.ofNat n] := by rw [vi, if_pos h]
theorem vi_ge (n : Nat) (h : 128 ≤ n) : vi n = UInt8.ofNat (n % 128 + 128) :: vi (n / 128) := by rw [vi, if_neg (by omega)]
theorem vi_len (k : Nat) : ∀ n : Nat, n < 128 ^ k → 0 < k → (vi n).length ≤ k := by
  induction k with
  | zero => intro n _ h; omega
  | succ k ih =>
    intro n h _
    by_cases h1 : n < 128
    · rw [vi_lt n h1]; simp
    · rw [vi_ge n (by omega)]
      have : n / 128 < 128 ^ k := by rw [Nat.pow_succ] at h; omega
      have h2 : 0 < k := by
        rcases Nat.eq_zero_or_pos k with h0 | h0
        · subst h0; simp at this; omega
        · exact h0
      have := ih (n / 128) this h2
      simp; omega
theorem vi_pos (n : Nat) : 0 < (vi n).length := by
  by_cases h1 : n < 128
  · rw [vi_lt n h1]; simp
  · rw [vi_ge n (by omega)]; simp

theorem or128 (k : Nat) (h : k < 256) : bits BinOp.or IntKind.u8 (k : Int) 128 = ((k % 128 + 128 : Nat) : Int) := by
  have : ∀ k : Fin 256, bits BinOp.or IntKind.u8 (k.val : Int) 128 = ((k.val % 128 + 128 : Nat) : Int) := by decide +kernel
  exact this ⟨k, h⟩
theorem or128' (m : Nat) : Value.int IntKind.u8 (bits BinOp.or IntKind.u8 ((m : Int) % 256) 128) = u8v (UInt8.ofNat (m % 128 + 128)) := by
  rw [show ((m : Int) % 256) = ((m % 256 : Nat) : Int) by omega, or128 _ (by omega)]
  unfold u8v
  congr 1
  simp [UInt8.toNat_ofNat']
  omega
theorem u8v_of (m : Nat) (h : m < 256) : u8v (UInt8.ofNat m) = .int .u8 m := by
  unfold u8v
  congr 1
  simp [UInt8.toNat_ofNat']
  omega

theorem put_bad (n : Int) (w : World) (h : n < 0 ∨ 2147483647 < n) :
    Calls Try.prog 71 #[.int .i64 n] w fun e w' => e = .returned (.tuple #[.string ⟨#[]⟩, .int .i64 1]) ∧ w = w' := by
  by_cases h0 : n < 0
  · go_enter Try.func71, Try.ntmps71
    go_wp2
    go_ret2
    exact ⟨rfl, rfl⟩
  · have h1 : 2147483647 < n := by omega
    go_enter Try.func71, Try.ntmps71
    go_wp2
    go_ret2
    exact ⟨rfl, rfl⟩

theorem put_good (n : Nat) (w : World) (h : (n : Int) ≤ 2147483647) :
    Calls Try.prog 71 #[.int .i64 n] w fun e w' => e = .returned (.tuple #[.string ⟨(vi n).toArray⟩, .int .i64 0]) ∧ Below w.heap.size w w' := by
  have hl := vi_len 5 n (by omega) (by omega)
  go_enter Try.func71, Try.ntmps71
  go_wp2_with fail
  go_loopw [0, 4] (fun n' v wr => ∃ (m : Nat) (acc : List UInt8), n' = .int .i64 m ∧ (m : Int) ≤ 2147483647 ∧ Hid (acc ++ vi m = vi n) ∧ acc.length ≤ 5 ∧ OwnU8 wr w.heap.size v acc ∧ Below w.heap.size w wr)
    (fun n' _ _ => (intOf n').toNat)
  case atStart => exact ⟨n, [], rfl, h, Lib.hid rfl, by simp, OwnU8.nil _ _, Below.refl _ _⟩
  case round =>
    obtain ⟨m, acc, rfl, hm, hv, hacc, hown, hbel⟩ := hrel
    have hB := hbel.size
    by_cases hlt : (m : Int) < 128
    · go_wp2_with (first | (at_builtin; refine wpList_app_u8 _ rfl (.tmp 21) (.tmp 24) rfl w.heap.size _ acc rfl hown _ _ rfl (UInt8.ofNat m) ?_ (by omega) hB ?_; rotate_left; intro v1 w1 hown1 hb1 _ _; have hcv := run_string_own hown1))
      · go_ret2
        refine ⟨?_, hbel.trans hb1⟩
        rw [← hv.out, vi_lt m (by omega)]
        rfl
      · exact (u8v_of m (by omega)).symm
    · go_wp2_with (first | (at_builtin; refine wpList_app_u8 _ rfl (.tmp 13) (.tmp 17) rfl w.heap.size _ acc rfl hown _ _ rfl (UInt8.ofNat (m % 128 + 128)) ?_ (by omega) hB ?_; rotate_left; intro v1 w1 hown1 hb1 _ _))
      · have hc : Hid ((acc ++ [UInt8.ofNat (m % 128 + 128)]) ++ vi (m / 128) = vi n) := by
          have := hv.out
          rw [vi_ge m (by omega)] at this
          exact Lib.hid (by simpa using this)
        have hlen : (acc ++ [UInt8.ofNat (m % 128 + 128)]).length ≤ 5 := by
          have h1 := congrArg List.length hc.out
          have h2 := vi_pos (m / 128)
          simp only [List.length_append] at h1 ⊢
          omega
        go_roundw
        case rel => exact ⟨m / 128, _, by go_num, by omega, hc, hlen, hown1, hbel.trans hb1⟩
        case measure => simp [intOf]; omega
      · simpa using or128' m
end Go.Proofs.Ytbgaoehpljnolaa
