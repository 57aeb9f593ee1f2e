/- Contract of num.Get and what it makes. -/
import Derived.Test.YtbgaoehpljnolaaNum
namespace Go.Proofs.Ytbgaoehpljnolaa
open Go.ChangeShapes Go.WideShapes Go.RowKit
set_option linter.unusedVariables false
set_option linter.unusedSimpArgs false
set_option maxRecDepth 100000
set_option maxHeartbeats 4000000

/-- a number read from bytes, at place i, n read already: the number, how many bytes, what went wrong -/
def gn : List UInt8 → Nat → Nat → Nat × Nat × Nat
  | [], _, _ => (0, 0, 5)
  | c :: r, i, n =>
    let n' := n + c.toNat % 128 * 2 ^ (7 * i)
    if c.toNat < 128 then (if (c.toNat = 0 ∧ 0 < i) ∨ 2147483647 < n' then (0, 0, 3) else (n', i + 1, 0))
    else if i = 4 then (0, 0, 3) else gn r (i + 1) n'

theorem gn_cons (c : UInt8) (r : List UInt8) (i n N : Nat) (hN : N = n + c.toNat % 128 * 2 ^ (7 * i)) :
    gn (c :: r) i n = if c.toNat < 128 then (if (c.toNat = 0 ∧ 0 < i) ∨ 2147483647 < N then (0, 0, 3) else (N, i + 1, 0)) else if i = 4 then (0, 0, 3) else gn r (i + 1) N := by
  subst hN; rfl
theorem and127 (c : UInt8) : bits BinOp.and IntKind.i64 (c.toNat : Int) 127 = ((c.toNat % 128 : Nat) : Int) := by
  have : ∀ k : Fin 256, bits BinOp.and IntKind.i64 (k.val : Int) 127 = ((k.val % 128 : Nat) : Int) := by decide +kernel
  exact this ⟨c.toNat, c.toNat_lt⟩
theorem or_add (m x k : Nat) (hm : m < 2 ^ k) (hb : m + x * 2 ^ k < 9223372036854775808) : bits BinOp.or IntKind.i64 (m : Int) ((x * 2 ^ k : Nat) : Int) = ((m + x * 2 ^ k : Nat) : Int) := by
  have h1 : BitVec.ofInt 64 (m : Int) = BitVec.ofNat 64 m := by simp
  have h2 : BitVec.ofInt 64 ((x * 2 ^ k : Nat) : Int) = BitVec.ofNat 64 (x * 2 ^ k) := BitVec.ofInt_natCast ..
  have e : m ||| x * 2 ^ k = m + x * 2 ^ k := by
    rw [← Nat.shiftLeft_eq, Nat.or_comm, ← Nat.shiftLeft_add_eq_or_of_lt hm]; omega
  show IntKind.i64.wrap _ = _
  rw [show IntKind.i64.bits = 64 from rfl, h1, h2]
  rw [BitVec.toNat_or, BitVec.toNat_ofNat, BitVec.toNat_ofNat, Nat.mod_eq_of_lt (by omega), Nat.mod_eq_of_lt (by omega), e]
  exact IntWalk.i64_in _ ⟨by omega, by omega⟩
theorem get_bits (m k : Nat) (c : UInt8) (hk : k ≤ 4) (hm : m < 2 ^ (7 * k)) :
    bits BinOp.or IntKind.i64 (m : Int) (wrap64 (bits BinOp.and IntKind.i64 (c.toNat : Int) 127 * 2 ^ (7 * k))) = ((m + c.toNat % 128 * 2 ^ (7 * k) : Nat) : Int) := by
  have hp : 2 ^ (7 * k) ≤ 2 ^ 28 := Nat.pow_le_pow_right (by omega) (by omega)
  have hx : c.toNat % 128 * 2 ^ (7 * k) ≤ 127 * 2 ^ 28 := Nat.mul_le_mul (by omega) hp
  rw [and127]
  have e : ((c.toNat % 128 : Nat) : Int) * 2 ^ (7 * k) = ((c.toNat % 128 * 2 ^ (7 * k) : Nat) : Int) := by
    rw [Int.natCast_mul]; congr 1
  rw [e, IntWalk.wrap64_in _ ⟨by omega, by omega⟩, or_add _ _ _ hm (by omega)]

theorem get_any (s : ByteArray) (w : World) (hs : s.size ≤ 9223372036854775807) :
    Calls Try.prog 72 #[.string s] w fun e w' =>
      e = .returned (.tuple #[.int .i64 (gn s.data.toList 0 0).1, .int .i64 (gn s.data.toList 0 0).2.1, .int .i64 (gn s.data.toList 0 0).2.2]) ∧ w = w' := by
  go_enter Try.func72, Try.ntmps72
  go_wp2_with fail
  go_loop [5, 10] (fun n i => ∃ k m : Nat, k ≤ 4 ∧ k ≤ s.size ∧ i = .int .i64 k ∧ n = .int .i64 m ∧ m < 34359738368 ∧ Hid (m < 2 ^ (7 * k)) ∧ Hid (gn (s.data.toList.drop k) k m = gn s.data.toList 0 0)) (fun _ i => s.size - (intOf i).toNat)
  case atStart => exact ⟨0, 0, by omega, by omega, rfl, rfl, by omega, Lib.hid (by simp), Lib.hid (by simp)⟩
  case round =>
    obtain ⟨k, m, hk, hks, rfl, rfl, hm0, hm, hg⟩ := hrel
    by_cases hlt : k < s.size
    · have hE := get_bits m k s[k] hk hm.out
      have hg2 : Hid (gn s.data.toList 0 0 = gn (s[k] :: s.data.toList.drop (k + 1)) k m) := by
        rw [← hg.out, List.drop_eq_getElem_cons (by simpa using hlt)]; exact Lib.hid rfl
      clear hg
      obtain ⟨N, hN⟩ : ∃ N, N = m + s[k].toNat % 128 * 2 ^ (7 * k) := ⟨_, rfl⟩
      rw [← hN] at hE
      have HN := Lib.hid hN
      clear hN
      have hcl : (s[k].toNat : Int) < 256 := by have := s[k].toNat_lt; omega
      have hmN : N < 34359738368 := by
        have hp : 2 ^ (7 * k) ≤ 2 ^ 28 := Nat.pow_le_pow_right (by omega) (by omega)
        have hx : s[k].toNat % 128 * 2 ^ (7 * k) ≤ 127 * 2 ^ 28 := Nat.mul_le_mul (by omega) hp
        have := HN.out
        have := hm.out
        omega
      have hmN2 : Hid (N < 2 ^ (7 * (k + 1))) := by
        have hx : s[k].toNat % 128 * 2 ^ (7 * k) ≤ 127 * 2 ^ (7 * k) := Nat.mul_le_mul (by omega) (Nat.le_refl _)
        have e : 2 ^ (7 * (k + 1)) = 128 * 2 ^ (7 * k) := by rw [Nat.mul_add, Nat.pow_add]; omega
        have := HN.out
        have := hm.out
        exact Lib.hid (by rw [e]; omega)
      clear hm
      by_cases hc : (s[k].toNat : Int) < 128
      · by_cases hbad : (s[k].toNat = 0 ∧ 0 < k) ∨ 2147483647 < N
        · have HG : Hid (gn s.data.toList 0 0 = (0, 0, 3)) := by
            rw [hg2.out, gn_cons _ _ _ _ _ HN.out, if_pos (by omega), if_pos hbad]; exact Lib.hid rfl
          clear hg2 HN
          have hb2 : s[k].toNat = 0 → k = 0 → 2147483647 < N := by omega
          have hb3 : ¬ s[k].toNat = 0 → 2147483647 < N := by omega
          clear hbad
          go_wp2_with fail
          all_goals first | omega | (exfalso; have := hb2 (by assumption) (by assumption); omega) | (exfalso; have := hb3 (by assumption); omega) | (go_ret3; exact ⟨by rw [HG.out]; rfl, rfl⟩)
        · have HG : Hid (gn s.data.toList 0 0 = (N, k + 1, 0)) := by
            rw [hg2.out, gn_cons _ _ _ _ _ HN.out, if_pos (by omega), if_neg hbad]; exact Lib.hid rfl
          clear hg2 HN
          have hb1 : (N : Int) ≤ 2147483647 := by omega
          have hb2 : s[k].toNat = 0 → k = 0 := by omega
          clear hbad
          go_wp2_with fail
          all_goals first | (exfalso; have := hb2 (by assumption); omega) | (go_ret3; exact ⟨by rw [HG.out]; first | rfl | (rw [show k = 0 from by assumption]; rfl), rfl⟩)
      · by_cases h4 : (k : Int) = 4
        · have HG : Hid (gn s.data.toList 0 0 = (0, 0, 3)) := by
            rw [hg2.out, gn_cons _ _ _ _ _ HN.out, if_neg (by omega), if_pos (by omega)]; exact Lib.hid rfl
          clear hg2 HN
          have h4' : ((k : Int) == 4) = true := by simpa using h4
          clear h4
          go_wp2_with fail
          all_goals (go_ret3; exact ⟨by rw [HG.out]; rfl, rfl⟩)
        · have HG : Hid (gn (s.data.toList.drop (k + 1)) (k + 1) N = gn s.data.toList 0 0) := by
            rw [hg2.out, gn_cons _ _ _ _ _ HN.out, if_neg (by omega), if_neg (by omega)]; exact Lib.hid rfl
          clear hg2 HN
          have h4' : ((k : Int) == 4) = false := by simpa using h4
          go_wp2_with fail
          go_round
          case rel => exact ⟨k + 1, N, by omega, by omega, by go_num, rfl, hmN, hmN2, HG⟩
          case measure => simp [intOf]; omega
    · have HG : Hid (gn s.data.toList 0 0 = (0, 0, 5)) := by
        rw [← hg.out, List.drop_eq_nil_of_le (by simpa using hlt)]; exact Lib.hid rfl
      go_wp2_with fail
      go_ret3
      exact ⟨by rw [HG.out]; rfl, rfl⟩
theorem get_val (s : ByteArray) (w : World) (hs : s.size ≤ 9223372036854775807) {a b c : Nat} (h : gn s.data.toList 0 0 = (a, b, c)) :
    Calls Try.prog 72 #[.string s] w fun e w' => e = .returned (.tuple #[.int .i64 a, .int .i64 b, .int .i64 c]) ∧ w = w' := by
  refine (get_any s w hs).mono fun e w' ⟨he, hw⟩ => ⟨?_, hw⟩
  rw [he, h]
end Go.Proofs.Ytbgaoehpljnolaa
