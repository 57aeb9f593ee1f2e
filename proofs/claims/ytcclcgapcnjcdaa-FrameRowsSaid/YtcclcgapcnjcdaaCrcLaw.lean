/- The check sum, plainly: bit by bit, linear, and what is turned within 32 bits is told. -/
import Derived.Test.YtcclcgapcnjcdaaCrc
namespace Go.Proofs.Ytcclcgapcnjcdaa
set_option linter.unusedVariables false
set_option linter.unusedSimpArgs false
set_option maxRecDepth 100000

theorem stp_xor (a b : BitVec 32) : stp (a ^^^ b) = stp a ^^^ stp b := by
  unfold stp
  rw [BitVec.getLsbD_xor]
  ext i hi
  cases a.getLsbD 0 <;> cases b.getLsbD 0 <;> simp [Bool.xor_assoc, Bool.xor_comm, Bool.xor_left_comm]
theorem stp_zero : stp 0#32 = 0#32 := by decide
theorem stps_xor (n : Nat) (a b : BitVec 32) : stps n (a ^^^ b) = stps n a ^^^ stps n b := by
  induction n with
  | zero => rfl
  | succ n ih => simp only [stps, ih, stp_xor]
theorem stps_zero (n : Nat) : stps n 0#32 = 0#32 := by
  induction n with
  | zero => rfl
  | succ n ih => simp only [stps, ih, stp_zero]
theorem stps_stp (n : Nat) (x : BitVec 32) : stps n (stp x) = stp (stps n x) := by
  induction n with
  | zero => rfl
  | succ n ih => simp only [stps, ih]
theorem stp_even (x : BitVec 32) (h : x.getLsbD 0 = false) : stp x = x >>> 1 := by
  unfold stp; rw [h]; simp
theorem stp_ne (x : BitVec 32) (h : x ≠ 0#32) : stp x ≠ 0#32 := by
  intro h0
  have hb : x.getLsbD 0 = false := by
    have := congrArg (fun y : BitVec 32 => y.getLsbD 31) h0
    unfold stp at this
    cases hx : x.getLsbD 0
    · rfl
    · rw [hx] at this; simp [poly] at this
  rw [stp_even x hb] at h0
  apply h
  have h1 := congrArg BitVec.toNat h0
  rw [BitVec.toNat_ushiftRight, Nat.shiftRight_eq_div_pow] at h1
  have h2 : x.toNat % 2 = 0 := by
    have : x.toNat.testBit 0 = false := hb
    rw [Nat.testBit_zero] at this
    simpa using this
  apply BitVec.eq_of_toNat_eq
  simp at h1 ⊢
  omega
theorem stps_ne (n : Nat) (x : BitVec 32) (h : x ≠ 0#32) : stps n x ≠ 0#32 := by
  induction n with
  | zero => exact h
  | succ n ih => exact stp_ne _ ih

/-- n bits of the number D taken in, the lowest first -/
def kb (x : BitVec 32) (D : Nat) : Nat → BitVec 32
  | 0 => x
  | n + 1 => kb (stp (x ^^^ BitVec.ofNat 32 (D % 2))) (D / 2) n
theorem kb_add (m : Nat) : ∀ (x : BitVec 32) (D n : Nat), kb x D (m + n) = kb (kb x D m) (D / 2 ^ m) n := by
  induction m with
  | zero => intro x D n; simp [kb]
  | succ m ih =>
    intro x D n
    rw [show m + 1 + n = (m + n) + 1 by omega]
    simp only [kb]
    rw [ih, Nat.div_div_eq_div_mul, Nat.pow_succ, Nat.mul_comm 2]
theorem kb_mod (m : Nat) : ∀ (x : BitVec 32) (D E : Nat), D % 2 ^ m = E % 2 ^ m → kb x D m = kb x E m := by
  induction m with
  | zero => intros; rfl
  | succ m ih =>
    intro x D E h
    have h2 : D % 2 = E % 2 := by
      have : D % 2 ^ (m + 1) % 2 = E % 2 ^ (m + 1) % 2 := by rw [h]
      rwa [Nat.mod_mod_of_dvd _ (Nat.dvd_of_pow_dvd (Nat.succ_le_succ (Nat.zero_le m)) (Nat.dvd_refl _)), Nat.mod_mod_of_dvd _ (Nat.dvd_of_pow_dvd (Nat.succ_le_succ (Nat.zero_le m)) (Nat.dvd_refl _))] at this
    have h3 : D / 2 % 2 ^ m = E / 2 % 2 ^ m := by
      have : D % 2 ^ (m + 1) / 2 = E % 2 ^ (m + 1) / 2 := by rw [h]
      rwa [Nat.pow_succ, Nat.mul_comm, Nat.mod_mul_right_div_self, Nat.mod_mul_right_div_self] at this
    simp only [kb, h2]
    exact ih _ _ _ h3
theorem ofNat_xor (a b : Nat) : BitVec.ofNat 32 (a ^^^ b) = BitVec.ofNat 32 a ^^^ BitVec.ofNat 32 b := by
  apply BitVec.eq_of_getLsbD_eq
  intro i hi
  simp [BitVec.getLsbD_ofNat, hi]
theorem xor_half (a b : Nat) : (a ^^^ b) / 2 = a / 2 ^^^ b / 2 := by
  apply Nat.eq_of_testBit_eq
  intro i
  simp only [Nat.testBit_xor, Nat.testBit_div_two]
theorem xor_low (a b : Nat) : (a ^^^ b) % 2 = a % 2 ^^^ b % 2 := by
  apply Nat.eq_of_testBit_eq
  intro i
  have h (x : Nat) : (x % 2).testBit i = (decide (i < 1) && x.testBit i) := Nat.testBit_mod_two_pow x 1 i
  simp only [h, Nat.testBit_xor]
  cases decide (i < 1) <;> simp
theorem kb_xor (n : Nat) : ∀ (x y : BitVec 32) (D E : Nat), kb (x ^^^ y) (D ^^^ E) n = kb x D n ^^^ kb y E n := by
  induction n with
  | zero => intros; rfl
  | succ n ih =>
    intro x y D E
    simp only [kb]
    rw [xor_half, ← ih, ← stp_xor, xor_low, ofNat_xor]
    congr 2
    ext i hi
    simp [Bool.xor_assoc, Bool.xor_comm, Bool.xor_left_comm]
theorem kb_zero (n : Nat) (x : BitVec 32) : kb x 0 n = stps n x := by
  induction n generalizing x with
  | zero => rfl
  | succ n ih => simp only [kb]; rw [show (0 : Nat) / 2 = 0 from rfl, ih, stps, ← stps_stp]; congr 2; simp
theorem kb_word (n : Nat) : ∀ (x : BitVec 32) (w : Nat), w < 2 ^ n → n ≤ 32 → kb x w n = stps n (x ^^^ BitVec.ofNat 32 w) := by
  induction n with
  | zero =>
    intro x w h _
    obtain rfl : w = 0 := by simpa using h
    simp [kb, stps]
  | succ n ih =>
    intro x w h hn
    simp only [kb]
    rw [ih _ _ (by rw [Nat.pow_succ] at h; omega) (by omega), stps, ← stps_stp]
    congr 1
    have hp : 2 ^ (n + 1) ≤ 2 ^ 32 := Nat.pow_le_pow_right (by omega) hn
    have e1 : BitVec.ofNat 32 w = BitVec.ofNat 32 (w % 2) ^^^ BitVec.ofNat 32 (w / 2 * 2) := by
      rw [← ofNat_xor]
      congr 1
      apply Nat.eq_of_testBit_eq
      intro i
      rw [Nat.testBit_xor]
      rcases i with _ | i
      · simp only [Nat.testBit_zero]; rw [Bool.eq_iff_iff]; simp
      · simp only [Nat.testBit_succ]; rw [show w % 2 / 2 = 0 by omega, show w / 2 * 2 / 2 = w / 2 by omega]; simp
    have e2 : stp (BitVec.ofNat 32 (w / 2 * 2)) = BitVec.ofNat 32 (w / 2) := by
      rw [stp_even]
      · apply BitVec.eq_of_toNat_eq
        rw [BitVec.toNat_ushiftRight, BitVec.toNat_ofNat, BitVec.toNat_ofNat, Nat.shiftRight_eq_div_pow]
        omega
      · rw [BitVec.getLsbD_ofNat]; simp [Nat.testBit_zero]
    conv => rhs; rw [e1, ← BitVec.xor_assoc, stp_xor, e2]

theorem low_bits (z : BitVec 32) (n : Nat) (h : ∀ k, k < n → z.getLsbD k = false) : stps n z = z >>> n := by
  induction n with
  | zero => simp [stps]
  | succ n ih =>
    rw [stps, ih (fun k hk => h k (by omega)), stp_even]
    · rw [BitVec.shiftRight_add]
    · rw [BitVec.getLsbD_ushiftRight]; simpa using h n (by omega)
theorem crcF_kb (x : BitVec 32) (b : UInt8) : crcF x b = kb x b.toNat 8 := by
  have hb := b.toNat_lt
  rw [kb_word 8 x b.toNat (by omega) (by omega)]
  unfold crcF tabN
  have e1 : x ^^^ BitVec.ofNat 32 b.toNat = (x ^^^ BitVec.ofNat 32 (x.toNat % 256)) ^^^ BitVec.ofNat 32 (x.toNat % 256 ^^^ b.toNat) := by
    rw [ofNat_xor, BitVec.xor_assoc, ← BitVec.xor_assoc (BitVec.ofNat 32 (x.toNat % 256)), BitVec.xor_self, BitVec.zero_xor]
  have hm (k : Nat) : (x.toNat % 256).testBit k = (decide (k < 8) && x.getLsbD k) := Nat.testBit_mod_two_pow x.toNat 8 k
  rw [e1, stps_xor, low_bits (x ^^^ BitVec.ofNat 32 (x.toNat % 256))]
  · congr 1
    apply BitVec.eq_of_getLsbD_eq
    intro i hi
    rw [BitVec.getLsbD_ushiftRight, BitVec.getLsbD_ushiftRight, BitVec.getLsbD_xor, BitVec.getLsbD_ofNat, hm]
    rw [show decide (8 + i < 8) = false by simp]
    simp
  · intro k hk
    rw [BitVec.getLsbD_xor, BitVec.getLsbD_ofNat, hm]
    simp [hk, show k < 32 by omega]

/-- a text as a number, the lowest byte first -/
def val : List UInt8 → Nat
  | [] => 0
  | c :: r => c.toNat + 256 * val r
theorem fold_kb (l : List UInt8) : ∀ x, l.foldl crcF x = kb x (val l) (8 * l.length) := by
  induction l with
  | nil => intro x; rfl
  | cons c r ih =>
    intro x
    have hc := c.toNat_lt
    rw [List.foldl_cons, ih, crcF_kb, List.length_cons, show 8 * (r.length + 1) = 8 + 8 * r.length by omega, kb_add]
    rw [kb_mod 8 x (val (c :: r)) c.toNat (by simp only [val]; omega), show val (c :: r) / 2 ^ 8 = val r by simp only [val]; omega]
theorem crcL_kb (l : List UInt8) : crcL l = ~~~ kb (~~~ 0#32) (val l) (8 * l.length) := by rw [crcL, fold_kb]

theorem kb_shift (at_ : Nat) (T n : Nat) : kb 0#32 (T * 2 ^ at_) (at_ + n) = kb 0#32 T n := by
  rw [kb_add, Nat.mul_div_cancel _ (Nat.two_pow_pos _), kb_mod at_ _ (T * 2 ^ at_) 0 (by simp), kb_zero, stps_zero]
/-- what is turned within 32 bits in a row is told -/
theorem crc_burst (l l' : List UInt8) (at_ T m : Nat) (hlen : l'.length = l.length) (h8 : 8 * l.length = at_ + (32 + m)) (hv : val l' = val l ^^^ T * 2 ^ at_) (hT : T < 2 ^ 32) (h0 : T ≠ 0) : crcL l' ≠ crcL l := by
  intro h
  rw [crcL_kb, crcL_kb, hlen, hv] at h
  have h := BitVec.not_inj.1 h
  have h2 := kb_xor (8 * l.length) (~~~ 0#32) 0#32 (val l) (T * 2 ^ at_)
  rw [BitVec.xor_zero] at h2
  rw [h2] at h
  have h3 : kb 0#32 (T * 2 ^ at_) (8 * l.length) = 0#32 := by
    have := congrArg (kb (~~~ 0#32) (val l) (8 * l.length) ^^^ ·) h
    simp only [← BitVec.xor_assoc, BitVec.xor_self, BitVec.zero_xor] at this
    exact this
  rw [h8, kb_shift, kb_add, kb_word 32 _ T hT (by omega), Nat.div_eq_of_lt hT, kb_zero] at h3
  refine stps_ne m _ (stps_ne 32 _ ?_) h3
  rw [BitVec.zero_xor]
  intro h4
  have := congrArg BitVec.toNat h4
  simp at this
  omega
theorem val_set (l : List UInt8) : ∀ (j r : Nat) (c : UInt8) (hj : j < l.length), r < 8 → c.toNat = l[j].toNat ^^^ 2 ^ r → val (l.set j c) = val l ^^^ 2 ^ (8 * j + r) := by
  induction l with
  | nil => intro j r c hj; simp at hj
  | cons b t ih =>
    intro j r c hj hr hc
    have h256 (x y X Y : Nat) (hx : x < 256) (hy : y < 256) : (x + 256 * X) ^^^ (y + 256 * Y) = (x ^^^ y) + 256 * (X ^^^ Y) := by
      have hxy : x ^^^ y < 2 ^ 8 := Nat.xor_lt_two_pow (by omega) (by omega)
      have e (u U : Nat) (hu : u < 2 ^ 8) : u + 256 * U = 2 ^ 8 * U + u := by omega
      rw [e x X hx, e y Y hy, e _ _ hxy]
      apply Nat.eq_of_testBit_eq
      intro i
      rw [Nat.testBit_xor, Nat.testBit_two_pow_mul_add _ hx, Nat.testBit_two_pow_mul_add _ hy, Nat.testBit_two_pow_mul_add _ hxy]
      split <;> simp [Nat.testBit_xor]
    have hp : 2 ^ r ≤ 2 ^ 7 := Nat.pow_le_pow_right (by omega) (by omega)
    have hb := b.toNat_lt
    rcases j with _ | j
    · simp only [List.set_cons_zero, val, List.getElem_cons_zero] at hc ⊢
      rw [hc, Nat.mul_zero, Nat.zero_add]
      have := h256 b.toNat (2 ^ r) (val t) 0 hb (by omega)
      simpa using this.symm
    · simp only [List.set_cons_succ, val]
      rw [ih j r c (by simpa using hj) hr (by simpa using hc)]
      have := h256 b.toNat 0 (val t) (2 ^ (8 * j + r)) hb (by omega)
      rw [show 8 * (j + 1) + r = 8 + (8 * j + r) by omega, Nat.pow_add 2 8]
      simpa using this.symm
theorem bit_next (v T at_ i : Nat) : (v ^^^ T % 2 ^ i * 2 ^ at_) ^^^ (if T.testBit i then 2 ^ (at_ + i) else 0) = v ^^^ T % 2 ^ (i + 1) * 2 ^ at_ := by
  rw [Nat.xor_assoc]
  congr 1
  apply Nat.eq_of_testBit_eq
  intro k
  rw [Nat.testBit_xor, Nat.testBit_mul_two_pow, Nat.testBit_mul_two_pow, Nat.testBit_mod_two_pow, Nat.testBit_mod_two_pow]
  by_cases hT : T.testBit i
  · rw [if_pos hT, Nat.testBit_two_pow]
    by_cases h1 : at_ ≤ k
    · by_cases h2 : k - at_ = i
      · rw [h2]; simp [hT, h1, show at_ + i = k by omega]
      · simp [h1, show ¬ at_ + i = k by omega, show (k - at_ < i + 1) = (k - at_ < i) by simp; omega]
    · simp [h1, show ¬ at_ + i = k by omega]
  · rw [if_neg hT]
    by_cases h2 : k - at_ = i
    · rw [h2]; simp [hT]
    · simp [show (k - at_ < i + 1) = (k - at_ < i) by simp; omega]
end Go.Proofs.Ytcclcgapcnjcdaa
