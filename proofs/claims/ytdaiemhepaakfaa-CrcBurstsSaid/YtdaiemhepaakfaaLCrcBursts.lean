/- CrcBursts: the walk. What is turned within 32 bits in a row is told. -/
import Derived.Test.YtdaiemhepaakfaaCrcLaw
import Derived.Test.YtdaiemhepaakfaaWithin
import Derived.Test.YtdaiemhepaakfaaBytes
namespace Go.Proofs.Ytdaiemhepaakfaa
open Go.ChangeShapes Go.WideShapes Go.RowKit
set_option linter.unusedVariables false
set_option linter.unusedSimpArgs false
set_option maxRecDepth 100000
set_option maxHeartbeats 4000000

theorem crc_nil : crcL [] = 0#32 := by decide +kernel
theorem crc_a : crcL [97] = 0xc1d04330#32 := by decide +kernel
theorem crc_b : crcL [98] = 0xd280b0c4#32 := by decide +kernel

theorem bit_test (t k : Nat) : (bits BinOp.and IntKind.u32 ((t : Int) / 2 ^ k) 1 == 1) = t.testBit k := by
  have e : (t : Int) / 2 ^ k = ((t / 2 ^ k : Nat) : Int) := by
    rw [Int.natCast_ediv, Int.natCast_pow]; rfl
  rw [b_and, e, BitVec.ofInt_natCast, show BitVec.ofInt 32 1 = 1#32 from rfl, and_one, BitVec.getLsbD_ofNat]
  rw [show (t / 2 ^ k).testBit 0 = t.testBit k by rw [Nat.testBit_div_two_pow]; simp]
  cases t.testBit k <;> rfl

theorem walk_CrcBursts (s : ByteArray) (hs : s.size ≤ 140737488351232) (at_ : Int) (wat : (Lit.int .i64 at_).wf = true) (t : Int) (wt : (Lit.int .u32 t).wf = true) (w : World) :
    Calls Try.prog 4 #[.string s, .int .i64 at_, .int .u32 t] w fun e w' => e = .returned (.bool true) ∧ Below w.heap.size w w' := by
  have ht : 0 ≤ t ∧ t ≤ 4294967295 := by simpa [Lit.wf, IntKind.min, IntKind.max, IntKind.signed, IntKind.bits] using wt
  obtain ⟨t, rfl⟩ := Int.eq_ofNat_of_zero_le ht.1
  have ht2 : (t : Int) ≤ 4294967295 := ht.2
  clear wat wt ht
  go_enter Try.func4, Try.ntmps4
  go_wp2_with fail
  refine (of_any _ _ (by decide)).mono ?_
  rintro e w1 ⟨rfl, hb1⟩
  rw [show ((⟨#[]⟩ : ByteArray).data.toList) = [] from rfl, crc_nil]
  go_wp2_with fail
  refine (of_any _ _ (by decide)).mono ?_
  rintro e w2 ⟨rfl, hb2⟩
  rw [show ((⟨#[97]⟩ : ByteArray).data.toList) = [97] from rfl, crc_a]
  go_wp2_with fail
  refine (of_any _ _ (by decide)).mono ?_
  rintro e w3 ⟨rfl, hb3⟩
  rw [show ((⟨#[98]⟩ : ByteArray).data.toList) = [98] from rfl, crc_b]
  have hb13 : Below w.heap.size w w3 := (hb1.trans (hb2.mono hb1.size)).trans (hb3.mono (by have := hb1.size; have := hb2.size; omega))
  clear hb1 hb2 hb3
  by_cases h0 : (t : Int) = 0
  · have h0' : ((t : Int) == 0) = true := by simpa using h0
    clear h0
    go_wp2_with fail
    go_ret
    exact ⟨rfl, hb13⟩
  have h0' : ((t : Int) == 0) = false := by simpa using h0
  clear h0
  by_cases h4 : (s.size : Int) < 4
  · go_wp2_with fail
    go_ret
    exact ⟨rfl, hb13⟩
  go_wp2_with fail
  rw [show 8 * (s.size : Int) - 31 = ((8 * s.size - 31 : Nat) : Int) by omega]
  refine (within_any at_ _ _ (by omega) (by omega)).mono ?_
  rintro e w4 ⟨rfl, rfl⟩
  have hwi := wi_lt at_ (8 * s.size - 31) (by omega)
  generalize wi at_ (8 * s.size - 31) = p at *
  have hcv := run_bytes w3 s
  go_wp2_with fail
  have hrow0 : RowU8 ((w3.alloc (.cells (bytesRow s (grownCap w3 s.size 0 5)) 5 ((bytesRow s (grownCap w3 s.size 0 5)).size, (bytesRow s (grownCap w3 s.size 0 5)).size + 1)))) w3.heap.size s.data.toList := RowU8.new w3 s _ _ (bytesRow_ge _ _)
  have hB3 := hb13.size
  obtain ⟨g, hg⟩ : ∃ g, g = w3.heap.size := ⟨_, rfl⟩
  have hgB : w.heap.size ≤ g := by omega
  go_loopw [8, 31] (fun i0 i wr => ∃ (k : Nat) (l : List UInt8), k ≤ 32 ∧ i = .int .i64 k ∧ RowU8 wr w3.heap.size l ∧ l.length = s.size ∧ Hid (val l = val s.data.toList ^^^ t % 2 ^ k * 2 ^ p) ∧ Below w.heap.size w wr) (fun _ i _ => 32 - (intOf i).toNat)
  case atStart => exact ⟨0, s.data.toList, by omega, rfl, hrow0.drew, bs_len s, Lib.hid (by simp [Nat.mod_one]), (hb13.alloc hb13.size _).drew⟩
  case round =>
    obtain ⟨k, l, hk, rfl, hrow, hll, hv, hb⟩ := hrel
    clear hcv hrow0 hb13
    by_cases hlt : k < 32
    · have hE := bit_test t k
      by_cases hbit : t.testBit k = true
      · rw [hbit] at hE
        have HB := Lib.hid hbit
        clear hbit
        have hJl : (p + k) / 8 < l.length := by omega
        have hcell := hrow.cell _ hJl
        have hfr := hrow.frozen _ hJl
        obtain ⟨c, hc⟩ : ∃ c : UInt8, c = l[(p + k) / 8]'hJl := ⟨_, rfl⟩
        rw [← hc] at hcell
        have Hc := Lib.hid hc
        clear hc
        have hj0 : (0 : Int) ≤ (p : Int) + k := by omega
        have hj1 : ((p : Int) + k) / 8 < (s.size : Int) := by omega
        have hj2 : (0 : Int) ≤ ((p : Int) + k) / 8 := by omega
        go_wp2_with fail
        go_region
        go_wp2_with fail
        go_roundw
        case rel =>
          refine ⟨k + 1, l.set ((p + k) / 8) (c ^^^ UInt8.ofNat (2 ^ ((p + k) % 8))), by omega, by go_num, ?_, by rw [List.length_set]; exact hll, ?_, ?_⟩
          · have h7 : 2 ^ ((p + k) % 8) ≤ 2 ^ 7 := Nat.pow_le_pow_right (by omega) (by omega)
            have e1 : ((2 : Int) ^ ((p + k) % 8) % 256) = ((UInt8.ofNat (2 ^ ((p + k) % 8))).toNat : Int) := by
              rw [UInt8.toNat_ofNat', Nat.mod_eq_of_lt (show 2 ^ ((p + k) % 8) < 2 ^ 8 by omega), show (2 : Int) ^ ((p + k) % 8) = ((2 ^ ((p + k) % 8) : Nat) : Int) by rw [Int.natCast_pow]; rfl]
              generalize 2 ^ ((p + k) % 8) = X at h7 ⊢
              omega
            rw [e1, b_xor8 _ _ c.toNat_lt (UInt8.toNat_lt _), ← UInt8.toNat_xor]
            exact (hrow.stored _ hJl _).drew
          · have h2 : (c ^^^ UInt8.ofNat (2 ^ ((p + k) % 8))).toNat = (l[(p + k) / 8]'hJl).toNat ^^^ 2 ^ ((p + k) % 8) := by
              have : 2 ^ ((p + k) % 8) ≤ 2 ^ 7 := Nat.pow_le_pow_right (by omega) (by omega)
              rw [UInt8.toNat_xor, Hc.out, UInt8.toNat_ofNat', Nat.mod_eq_of_lt (show 2 ^ ((p + k) % 8) < 2 ^ 8 by omega)]
            rw [val_set l _ _ _ hJl (by omega) h2, hv.out, show 8 * ((p + k) / 8) + (p + k) % 8 = p + k by omega]
            have := bit_next (val s.data.toList) t p k
            rw [HB.out, if_pos rfl] at this
            exact Lib.hid this
          · exact (hb.setCell (p := ⟨w3.heap.size, (p + k) / 8, none⟩) hB3 _).drew
        case measure => simp [intOf]; omega
      · have hbit' : t.testBit k = false := by simpa using hbit
        rw [hbit'] at hE
        have HB := Lib.hid hbit'
        clear hbit hbit'
        go_wp2_with fail
        go_roundw
        case rel =>
          refine ⟨k + 1, l, by omega, by go_num, hrow, hll, ?_, hb⟩
          have := bit_next (val s.data.toList) t p k
          rw [HB.out, if_neg (by decide), Nat.xor_zero] at this
          rw [hv.out]
          exact Lib.hid this
        case measure => simp [intOf]; omega
    · obtain rfl : k = 32 := by omega
      rw [Nat.mod_eq_of_lt (show t < 2 ^ 32 by omega)] at hv
      have hne : crcL l ≠ crcL s.data.toList := crc_burst s.data.toList l p t (8 * s.size - 32 - p) (by rw [bs_len]; exact hll) (by rw [bs_len]; omega) hv.out (by omega) (by intro h; subst h; simp at h0')
      have hcv := hrow.string (grownCap w3 s.size 0 5)
      rw [hll] at hcv
      go_wp2_with fail
      refine (of_any _ _ (by rw [bs_size]; omega)).mono ?_
      rintro e w5 ⟨rfl, hb5⟩
      go_wp2_with fail
      refine (of_any _ _ (by omega)).mono ?_
      rintro e w6 ⟨rfl, hb6⟩
      have hne' : (((crcL l).toNat : Int) != ((crcL s.data.toList).toNat : Int)) = true := by
        rw [bne_iff_ne]
        intro h
        exact hne (BitVec.eq_of_toNat_eq (by omega))
      go_wp2_with fail
      go_ret
      exact ⟨rfl, (hb.trans (hb5.mono hb.size)).trans (hb6.mono (by have := hb.size; have := hb5.size; omega))⟩
end Go.Proofs.Ytdaiemhepaakfaa
