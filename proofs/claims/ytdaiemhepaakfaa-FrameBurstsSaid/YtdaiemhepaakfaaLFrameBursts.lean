/- FrameBursts: the walk. Of bits that are turned within 32 in a row behind the length each is told. -/
import Derived.Test.YtdaiemhepaakfaaFrameLaw
import Derived.Test.YtdaiemhepaakfaaWithin
import Derived.Test.YtdaiemhepaakfaaOpen
namespace Go.Proofs.Ytdaiemhepaakfaa
open Go.ChangeShapes Go.WideShapes Go.RowKit
set_option linter.unusedVariables false
set_option linter.unusedSimpArgs false
set_option maxRecDepth 100000
set_option maxHeartbeats 4000000

theorem bit_testF (t k : Nat) : (bits BinOp.and IntKind.u32 ((t : Int) / 2 ^ k) 1 == 1) = t.testBit k := by
  have e : (t : Int) / 2 ^ k = ((t / 2 ^ k : Nat) : Int) := by
    rw [Int.natCast_ediv, Int.natCast_pow]; rfl
  rw [b_and, e, BitVec.ofInt_natCast, show BitVec.ofInt 32 1 = 1#32 from rfl, and_one, BitVec.getLsbD_ofNat]
  rw [show (t / 2 ^ k).testBit 0 = t.testBit k by rw [Nat.testBit_div_two_pow]; simp]
  cases t.testBit k <;> rfl

theorem walk_FrameBursts (v : Value) (f : Int × ByteArray) (hf : IsFrame v f) (at_ : Int) (wat : (Lit.int .i64 at_).wf = true) (t : Int) (wt : (Lit.int .u32 t).wf = true) (w : World) :
    Calls Try.prog 10 #[v, .int .i64 at_, .int .u32 t] w fun e w' => e = .returned (.bool true) ∧ Below w.heap.size w w' := by
  obtain ⟨k, b⟩ := f
  obtain ⟨rfl, hbs⟩ := hf
  simp only at hbs ⊢
  have ht : 0 ≤ t ∧ t ≤ 4294967295 := by simpa [Lit.wf, IntKind.min, IntKind.max, IntKind.signed, IntKind.bits] using wt
  obtain ⟨t, rfl⟩ := Int.eq_ofNat_of_zero_le ht.1
  have ht2 : (t : Int) ≤ 4294967295 := ht.2
  clear wat wt ht
  go_enter Try.func10, Try.ntmps10
  go_wp2_with fail
  refine (fget_any _ _).mono ?_
  rintro e w1 ⟨rfl, hb1⟩
  rw [show gf (⟨#[3, 0, 0, 0, 0, 0, 0]⟩ : ByteArray).data.toList = (0, [], 0, 6) by decide +kernel]
  unfold frV
  have hblk1 := (Blk.new w 46 #[.int .i64 k, .string b]).below hb1 (by simp)
  have hbw1 : Below w.heap.size w w1 := ((Below.refl w.heap.size w).alloc (Nat.le_refl _) _).trans (hb1.mono (by simp))
  have hlt1 := hblk1.lt
  clear hb1
  have c0 := hblk1.cell 0
  have c1 := hblk1.cell 1
  have hbw2 := hbw1.alloc hbw1.size (.cells #[.int .i64 0, .string ⟨#[]⟩] 46)
  by_cases hbad : (k < 1 ∨ 255 < k) ∨ 4000 < (b.size : Int)
  · have hput : ∃ er : Int, (er = 1 ∨ er = 2) ∧ ∀ w, Calls Try.prog 23 #[.agg #[.int .i64 k, .string b]] w fun e w' => e = .returned (.tuple #[.string ⟨#[]⟩, .int .i64 er]) ∧ Below w.heap.size w w' := by
      by_cases hk : k < 1 ∨ 255 < k
      · exact ⟨1, .inl rfl, fun w => fput_kind k b hk w⟩
      · exact ⟨2, .inr rfl, fun w => fput_large k b (by omega) (by omega) (by omega) w⟩
    obtain ⟨er, her, hput⟩ := hput
    have he : ((er : Int) != 0) = true := by rw [bne_iff_ne]; omega
    have he2 : ((er : Int) == 0) = false := by rw [beq_eq_false_iff_ne]; omega
    have Hput := Lib.hid hput
    clear hput
    go_wp2_with fail
    refine (Hput.out _).mono ?_
    rintro e w2 ⟨rfl, hb2⟩
    have hbw3 := hbw2.trans (hb2.mono hbw2.size)
    go_wp2_with fail
    go_ret
    exact ⟨rfl, hbw3⟩
  · obtain ⟨k, rfl⟩ := Int.eq_ofNat_of_zero_le (show 0 ≤ k by omega)
    have hL := frL_len k b.data.toList
    rw [bs_len] at hL
    go_wp2_with fail
    refine (fput_good k b (by omega) (by omega) (by omega) _).mono ?_
    rintro e w3 ⟨rfl, hb2⟩
    have hbw3 := hbw2.trans (hb2.mono hbw2.size)
    clear hb2 hbw2 hbw1 c0 c1 hblk1 hlt1
    by_cases h0 : (t : Int) = 0
    · have h0' : ((t : Int) == 0) = true := by simpa using h0
      clear h0
      go_wp2_with fail
      go_ret
      exact ⟨rfl, hbw3⟩
    have h0' : ((t : Int) == 0) = false := by simpa using h0
    clear h0
    have hburst := fun l' p m => gf_burst k b.data.toList l' p t m (by omega) (by omega) (by rw [bs_len]; omega)
    rw [bs_len] at hburst
    obtain ⟨L, hLL⟩ : ∃ L, L = frL k b.data.toList := ⟨_, rfl⟩
    rw [← hLL] at hL hburst ⊢
    clear hLL
    have Hburst := Lib.hid hburst
    have hs : (⟨L.toArray⟩ : ByteArray).size = L.length := bs_size L
    have hdl : (⟨L.toArray⟩ : ByteArray).data.toList = L := by simp
    obtain ⟨s, hsL⟩ : ∃ s : ByteArray, s = ⟨L.toArray⟩ := ⟨_, rfl⟩
    rw [← hsL] at hs hdl ⊢
    clear hsL hburst
    have Hs := Lib.hid hs
    have Hdl := Lib.hid hdl
    have HL := Lib.hid hL
    have hs7 : (7 : Int) ≤ (s.size : Int) := by omega
    have hs8 : (s.size : Int) ≤ 4007 := by omega
    clear hs hdl hL
    go_wp2_with fail
    rw [show 8 * ((s.size : Int) - 3) - 31 = ((8 * (s.size - 3) - 31 : Nat) : Int) by omega]
    refine (within_any at_ _ _ (by omega) (by omega)).mono ?_
    rintro e w4 ⟨rfl, rfl⟩
    have hwi := wi_lt at_ (8 * (s.size - 3) - 31) (by omega)
    generalize wi at_ (8 * (s.size - 3) - 31) = p0 at *
    have hcv := run_bytes w3 s
    go_wp2_with fail
    rw [show (24 : Int) + (p0 : Int) = ((24 + p0 : Nat) : Int) by omega]
    obtain ⟨p, hp⟩ : ∃ p, p = 24 + p0 := ⟨_, rfl⟩
    have hp24 : 24 ≤ p := by omega
    have hp32 : p + 32 ≤ 8 * s.size := by omega
    rw [← hp]
    clear hp hwi
    have hrow0 : RowU8 ((w3.alloc (.cells (bytesRow s (grownCap w3 s.size 0 5)) 5 ((bytesRow s (grownCap w3 s.size 0 5)).size, (bytesRow s (grownCap w3 s.size 0 5)).size + 1)))) w3.heap.size s.data.toList := RowU8.new w3 s _ _ (bytesRow_ge _ _)
    have hB3 := hbw3.size
    go_loopw [13, 48] (fun i0 i wr => ∃ (k : Nat) (l : List UInt8), k ≤ 32 ∧ i = .int .i64 k ∧ RowU8 wr w3.heap.size l ∧ l.length = s.size ∧ Hid (l.take 3 = s.data.toList.take 3) ∧ Hid (val l = val s.data.toList ^^^ t % 2 ^ k * 2 ^ p) ∧ Below w.heap.size w wr) (fun _ i _ => 32 - (intOf i).toNat)
    case atStart => exact ⟨0, s.data.toList, by omega, rfl, hrow0.drew, bs_len s, Lib.hid rfl, Lib.hid (by simp [Nat.mod_one]), (hbw3.alloc hbw3.size _).drew⟩
    case round =>
      obtain ⟨i, l, hk, rfl, hrow, hll, h3, hv, hb⟩ := hrel
      clear hcv hrow0 hbw3
      by_cases hlt : i < 32
      · have hE := bit_testF t i
        by_cases hbit : t.testBit i = true
        · rw [hbit] at hE
          have HB := Lib.hid hbit
          clear hbit
          have hJl : (p + i) / 8 < l.length := by omega
          have hcell := hrow.cell _ hJl
          have hfr := hrow.frozen _ hJl
          obtain ⟨c, hc⟩ : ∃ c : UInt8, c = l[(p + i) / 8]'hJl := ⟨_, rfl⟩
          rw [← hc] at hcell
          have Hc := Lib.hid hc
          clear hc
          have hj0 : (0 : Int) ≤ (p : Int) + i := by omega
          have hj1 : ((p : Int) + i) / 8 < (s.size : Int) := by omega
          have hj2 : (0 : Int) ≤ ((p : Int) + i) / 8 := by omega
          go_wp2_with fail
          go_region
          go_wp2_with fail
          go_roundw
          case rel =>
            refine ⟨i + 1, l.set ((p + i) / 8) (c ^^^ UInt8.ofNat (2 ^ ((p + i) % 8))), by omega, by go_num, ?_, by rw [List.length_set]; exact hll, ?_, ?_, ?_⟩
            · have h7 : 2 ^ ((p + i) % 8) ≤ 2 ^ 7 := Nat.pow_le_pow_right (by omega) (by omega)
              have e1 : ((2 : Int) ^ ((p + i) % 8) % 256) = ((UInt8.ofNat (2 ^ ((p + i) % 8))).toNat : Int) := by
                rw [UInt8.toNat_ofNat', Nat.mod_eq_of_lt (show 2 ^ ((p + i) % 8) < 2 ^ 8 by omega), show (2 : Int) ^ ((p + i) % 8) = ((2 ^ ((p + i) % 8) : Nat) : Int) by rw [Int.natCast_pow]; rfl]
                generalize 2 ^ ((p + i) % 8) = X at h7 ⊢
                omega
              rw [e1, b_xor8 _ _ c.toNat_lt (UInt8.toNat_lt _), ← UInt8.toNat_xor]
              exact (hrow.stored _ hJl _).drew
            · have h8 : 3 ≤ (p + i) / 8 := by omega
              rw [← h3.out]
              exact Lib.hid (List.take_set_of_le h8)
            · have h2 : (c ^^^ UInt8.ofNat (2 ^ ((p + i) % 8))).toNat = (l[(p + i) / 8]'hJl).toNat ^^^ 2 ^ ((p + i) % 8) := by
                have : 2 ^ ((p + i) % 8) ≤ 2 ^ 7 := Nat.pow_le_pow_right (by omega) (by omega)
                rw [UInt8.toNat_xor, Hc.out, UInt8.toNat_ofNat', Nat.mod_eq_of_lt (show 2 ^ ((p + i) % 8) < 2 ^ 8 by omega)]
              rw [val_set l _ _ _ hJl (by omega) h2, hv.out, show 8 * ((p + i) / 8) + (p + i) % 8 = p + i by omega]
              have := bit_next (val s.data.toList) t p i
              rw [HB.out, if_pos rfl] at this
              exact Lib.hid this
            · exact (hb.setCell (p := ⟨w3.heap.size, (p + i) / 8, none⟩) hB3 _).drew
          case measure => simp [intOf]; omega
        · have hbit' : t.testBit i = false := by simpa using hbit
          rw [hbit'] at hE
          have HB := Lib.hid hbit'
          clear hbit hbit'
          go_wp2_with fail
          go_roundw
          case rel =>
            refine ⟨i + 1, l, by omega, by go_num, hrow, hll, h3, ?_, hb⟩
            have := bit_next (val s.data.toList) t p i
            rw [HB.out, if_neg (by decide), Nat.xor_zero] at this
            rw [hv.out]
            exact Lib.hid this
          case measure => simp [intOf]; omega
      · obtain rfl : i = 32 := by omega
        rw [Nat.mod_eq_of_lt (show t < 2 ^ 32 by omega)] at hv
        have hgf : Hid (gf l = (0, [], 0, 6)) := by
          refine Hburst.out l p (8 * s.size - 32 - p) ?_ ?_ ?_ ?_ ?_ ?_
          · rw [hll, Hs.out]
          · rw [h3.out, Hdl.out]
          · have := HL.out; have := Hs.out; omega
          · rw [hv.out, Hdl.out]
          · omega
          · intro h; subst h; simp at h0'
        have hcv := hrow.string (grownCap w3 s.size 0 5)
        rw [hll] at hcv
        go_wp2_with fail
        refine (fget_any _ _).mono ?_
        rintro e w5 ⟨rfl, hb5⟩
        rw [show (⟨l.toArray⟩ : ByteArray).data.toList = l by simp, hgf.out]
        unfold frV
        go_wp2_with fail
        go_ret
        exact ⟨rfl, hb.trans (hb5.mono hb.size)⟩
end Go.Proofs.Ytdaiemhepaakfaa
