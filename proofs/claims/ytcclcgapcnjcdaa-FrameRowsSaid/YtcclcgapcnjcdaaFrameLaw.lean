/- Frames, plainly: what is put is got, whatever stands behind; cut short it is told; what is got is put as it was; what is turned within 32 bits behind the length is told. -/
import Derived.Test.YtcclcgapcnjcdaaFrame
import Derived.Test.YtcclcgapcnjcdaaCrcLaw
namespace Go.Proofs.Ytcclcgapcnjcdaa
set_option linter.unusedVariables false
set_option linter.unusedSimpArgs false
set_option maxRecDepth 100000

theorem fourL_len (x : Nat) : (fourL x).length = 4 := rfl
theorem frH_len (k : Nat) (b : List UInt8) : (frH k b).length = b.length + 3 := by simp [frH]
theorem frL_len (k : Nat) (b : List UInt8) : (frL k b).length = b.length + 7 := by
  rw [frL, List.length_append, frH_len, fourL_len]
theorem frL_zero : frL 3 [] = [3, 0, 0, 9, 99, 74, 138] := by decide +kernel
theorem frL_z : frL 9 [122] = [9, 0, 1, 122, 219, 102, 190, 106] := by decide +kernel

theorem gf_frL (k : Nat) (b more : List UInt8) (h1 : 1 ≤ k) (h2 : k ≤ 255) (h3 : b.length ≤ 4000) : gf (frL k b ++ more) = (k, b, b.length + 7, 0) := by
  have e0 : ((frL k b ++ more).headD 0).toNat = k := by
    show (UInt8.ofNat k).toNat = k
    rw [mod_of]; omega
  have e1 : ((frL k b ++ more).getD 1 0).toNat * 256 + ((frL k b ++ more).getD 2 0).toNat = b.length := by
    show (UInt8.ofNat (b.length / 256)).toNat * 256 + (UInt8.ofNat b.length).toNat = b.length
    rw [mod_of, mod_of]; omega
  have e2 : (frL k b ++ more).take (b.length + 3) = frH k b := by
    rw [frL, List.append_assoc, ← frH_len k b, List.take_left']; rfl
  have e3 : ((frL k b ++ more).drop (b.length + 3)).take 4 = fourL (crcL (frH k b)).toNat := by
    rw [frL, List.append_assoc, ← frH_len k b, List.drop_left' rfl]; rfl
  have e4 : ((frL k b ++ more).drop 3).take b.length = b := by
    show (b ++ fourL (crcL (frH k b)).toNat ++ more).take b.length = b
    rw [List.append_assoc, List.take_left' rfl]
  have hl : (frL k b ++ more).length = b.length + 7 + more.length := by rw [List.length_append, frL_len]
  unfold gf
  rw [e1, e0, e2, e3, e4, if_neg (by omega), if_neg (by omega), if_neg (by omega), if_neg (by simp)]
theorem gf_cut (k : Nat) (b : List UInt8) (j : Nat) (h1 : 1 ≤ k) (h2 : k ≤ 255) (h3 : b.length ≤ 4000) (hj : j < (frL k b).length) : gf ((frL k b).take j) = (0, [], 0, 5) := by
  have hl : ((frL k b).take j).length = j := by rw [List.length_take]; omega
  rw [frL_len] at hj
  unfold gf
  rw [hl]
  by_cases h7 : j < 7
  · rw [if_pos h7]
  · obtain ⟨i, rfl⟩ : ∃ i, j = i + 3 := ⟨j - 3, by omega⟩
    have e0 : (((frL k b).take (i + 3)).headD 0).toNat = k := by
      show (UInt8.ofNat k).toNat = k
      rw [mod_of]; omega
    have e1 : (((frL k b).take (i + 3)).getD 1 0).toNat * 256 + (((frL k b).take (i + 3)).getD 2 0).toNat = b.length := by
      show (UInt8.ofNat (b.length / 256)).toNat * 256 + (UInt8.ofNat b.length).toNat = b.length
      rw [mod_of, mod_of]; omega
    rw [e0, e1, if_neg h7, if_neg (by omega), if_pos (by omega)]
/-- what is got: nothing of it, where something went wrong -/
theorem gf_wrong (l : List UInt8) : (gf l).2.2.2 ≠ 0 → gf l = (0, [], 0, (gf l).2.2.2) := by
  unfold gf
  (repeat' split) <;> simp
theorem gf_le (l : List UInt8) : (gf l).1 ≤ 255 ∧ (gf l).2.1.length ≤ 4000 := by
  unfold gf
  have := (l.headD 0).toNat_lt
  (repeat' split) <;> simp_all
  all_goals omega
theorem ofNat_toNat (c : UInt8) : UInt8.ofNat c.toNat = c := by simp
theorem three (l : List UInt8) (h : 3 ≤ l.length) : l = l.headD 0 :: l.getD 1 0 :: l.getD 2 0 :: l.drop 3 := by
  match l, h with
  | a :: b :: c :: r, _ => rfl
/-- what is got is put as it was -/
theorem frL_gf (l : List UInt8) (h : (gf l).2.2.2 = 0) : 1 ≤ (gf l).1 ∧ (gf l).2.2.1 ≤ l.length ∧ frL (gf l).1 (gf l).2.1 = l.take (gf l).2.2.1 := by
  unfold gf at h ⊢
  split at h
  · simp at h
  split at h
  · simp at h
  split at h
  · simp at h
  split at h
  · simp at h
  rename_i h1 h2 h3 h4
  rw [if_neg h1, if_neg h2, if_neg h3, if_neg h4]
  simp only
  obtain ⟨n, hn⟩ : ∃ n, n = (l.getD 1 0).toNat * 256 + (l.getD 2 0).toNat := ⟨_, rfl⟩
  rw [← hn] at h2 h3 h4 ⊢
  have hb : ((l.drop 3).take n).length = n := by rw [List.length_take, List.length_drop]; omega
  have hc1 := (l.getD 1 0).toNat_lt
  have hc2 := (l.getD 2 0).toNat_lt
  have e : frH (l.headD 0).toNat ((l.drop 3).take n) = l.take (n + 3) := by
    unfold frH
    rw [hb, ofNat_toNat]
    have e1 : UInt8.ofNat (n / 256) = l.getD 1 0 := by
      rw [hn, ← UInt8.toNat_inj, mod_of]; omega
    have e2 : UInt8.ofNat n = l.getD 2 0 := by
      rw [hn, ← UInt8.toNat_inj, mod_of]; omega
    rw [e1, e2]
    conv => rhs; rw [three l (by omega)]
    rfl
  refine ⟨by omega, by omega, ?_⟩
  unfold frL
  rw [e]
  simp only [ne_eq, Decidable.not_not] at h4
  rw [← h4, show n + 7 = (n + 3) + 4 by omega]
  exact (List.take_add ..).symm

theorem val_four (x : Nat) (h : x < 4294967296) : val (fourL x) = x := by
  simp only [fourL, val, mod_of]
  omega
theorem val_append (a : List UInt8) : ∀ b, val (a ++ b) = val a + 256 ^ a.length * val b := by
  induction a with
  | nil => intro b; simp [val]
  | cons c r ih =>
    intro b
    simp only [List.cons_append, val, ih, List.length_cons, Nat.pow_succ]
    rw [Nat.mul_add, Nat.add_assoc]
    congr 1
    rw [Nat.mul_comm (256 ^ r.length) 256, Nat.mul_assoc]
theorem val_lt (a : List UInt8) : val a < 256 ^ a.length := by
  induction a with
  | nil => simp [val]
  | cons c r ih =>
    have := c.toNat_lt
    simp only [val, List.length_cons, Nat.pow_succ]
    omega
/-- a text with its sum behind it comes to one and the same state -/
theorem kb_sum (H : List UInt8) : kb (~~~ 0#32) (val (H ++ fourL (crcL H).toNat)) (8 * (H.length + 4)) = stps 32 (BitVec.allOnes 32) := by
  have hp : 2 ^ (8 * H.length) = 256 ^ H.length := by rw [Nat.pow_mul]
  have hv := val_lt H
  have hpos : 0 < 256 ^ H.length := Nat.pow_pos (by omega)
  rw [show 8 * (H.length + 4) = 8 * H.length + 32 by omega, kb_add, val_append, hp, Nat.add_mul_div_left _ _ hpos, Nat.div_eq_of_lt hv, Nat.zero_add]
  rw [kb_mod (8 * H.length) _ (val H + 256 ^ H.length * val (fourL (crcL H).toNat)) (val H) (by rw [hp]; simp)]
  have hx := (crcL H).isLt
  rw [val_four _ (by omega), kb_word 32 _ _ hx (by omega)]
  congr 1
  have e : BitVec.ofNat 32 (crcL H).toNat = crcL H := by simp
  rw [e, crcL_kb]
  generalize kb (~~~ 0#32) (val H) (8 * H.length) = X
  apply BitVec.eq_of_getLsbD_eq
  intro i hi
  rw [BitVec.getLsbD_xor, BitVec.getLsbD_not, BitVec.getLsbD_allOnes]
  simp [hi]
theorem frame_burst (H l' : List UInt8) (p T m : Nat) (hlen : l'.length = H.length + 4) (h8 : 8 * (H.length + 4) = p + (32 + m)) (hv : val l' = val (H ++ fourL (crcL H).toNat) ^^^ T * 2 ^ p) (hT : T < 2 ^ 32) (h0 : T ≠ 0) :
    l'.drop H.length ≠ fourL (crcL (l'.take H.length)).toNat := by
  intro h
  have e : l' = l'.take H.length ++ fourL (crcL (l'.take H.length)).toNat := by rw [← h, List.take_append_drop]
  have hl : (l'.take H.length).length = H.length := by rw [List.length_take]; omega
  have h1 := kb_sum (l'.take H.length)
  rw [← e, hl, hv] at h1
  have h2 := kb_xor (8 * (H.length + 4)) (~~~ 0#32) 0#32 (val (H ++ fourL (crcL H).toNat)) (T * 2 ^ p)
  rw [BitVec.xor_zero, h1, kb_sum] at h2
  have h3 : kb 0#32 (T * 2 ^ p) (8 * (H.length + 4)) = 0#32 := by
    have := congrArg (stps 32 (BitVec.allOnes 32) ^^^ ·) h2
    simp only [← BitVec.xor_assoc, BitVec.xor_self, BitVec.zero_xor] at this
    exact this.symm
  rw [h8, kb_shift, kb_add, kb_word 32 _ T hT (by omega), Nat.div_eq_of_lt hT, kb_zero] at h3
  refine stps_ne m _ (stps_ne 32 _ ?_) h3
  rw [BitVec.zero_xor]
  intro h4
  have := congrArg BitVec.toNat h4
  simp at this
  omega
theorem gf_burst (k : Nat) (b l' : List UInt8) (p T m : Nat) (h1 : 1 ≤ k) (h2 : k ≤ 255) (h3 : b.length ≤ 4000) (hlen : l'.length = (frL k b).length) (h3' : l'.take 3 = (frL k b).take 3) (h8 : 8 * (b.length + 7) = p + (32 + m))
    (hv : val l' = val (frL k b) ^^^ T * 2 ^ p) (hT : T < 2 ^ 32) (h0 : T ≠ 0) : gf l' = (0, [], 0, 6) := by
  have hne := frame_burst (frH k b) l' p T m (by rw [hlen, frL_len, frH_len]) (by rw [frH_len]; omega) hv hT h0
  rw [frL_len] at hlen
  rw [frH_len] at hne
  match l', hlen, h3' with
  | x :: y :: z :: r, hlen, h3' =>
    have e3 : [x, y, z] = [UInt8.ofNat k, UInt8.ofNat (b.length / 256), UInt8.ofNat b.length] := h3'
    simp only [List.cons.injEq] at e3
    obtain ⟨rfl, rfl, rfl, _⟩ := e3
    have hr : r.length = b.length + 4 := by simpa using hlen
    have e1 : (UInt8.ofNat (b.length / 256)).toNat * 256 + (UInt8.ofNat b.length).toNat = b.length := by rw [mod_of, mod_of]; omega
    have e0 : (UInt8.ofNat k).toNat = k := by rw [mod_of]; omega
    have hd : ∀ (q : List UInt8), q.length = 4 → q.take 4 = q := fun q h => by rw [← h, List.take_length]
    unfold gf
    simp only [List.headD_cons, List.getD_cons_zero, List.getD_cons_succ]
    rw [e1, e0, if_neg (by simp [hr]), if_neg (by omega), if_neg (by simp [hr]), if_pos]
    rw [hd _ (by rw [List.length_drop]; simp [hr])]
    exact hne
end Go.Proofs.Ytcclcgapcnjcdaa
