/- CrcThree: the walk and its plain law. -/
import Derived.Test.YtdaiemhepaakfaaCrcLaw
import Derived.Test.YtdaiemhepaakfaaMinMax
namespace Go.Proofs.Ytdaiemhepaakfaa
open Go.ChangeShapes Go.WideShapes Go.RowKit
set_option linter.unusedVariables false
set_option linter.unusedSimpArgs false
set_option maxRecDepth 100000
set_option maxHeartbeats 4000000

theorem crc_nine : crcL [49, 50, 51, 52, 53, 54, 55, 56, 57] = 0xe3069283#32 := by decide +kernel

def xor3 : List UInt8 → List UInt8 → List UInt8 → List UInt8
  | a :: l, b :: m, c :: n => (a ^^^ b ^^^ c) :: xor3 l m n
  | _, _, _ => []
theorem xor3_len : ∀ (a b c : List UInt8), a.length = b.length → b.length = c.length → (xor3 a b c).length = a.length
  | [], b, c, h1, h2 => by simp [xor3]
  | a :: l, [], c, h1, h2 => by simp at h1
  | a :: l, b :: m, [], h1, h2 => by simp at h2
  | a :: l, b :: m, c :: n, h1, h2 => by simp [xor3]; exact xor3_len l m n (by simpa using h1) (by simpa using h2)
theorem xor3_fold : ∀ (a b c : List UInt8) (x y z : BitVec 32), a.length = b.length → b.length = c.length → (xor3 a b c).foldl crcF (x ^^^ y ^^^ z) = a.foldl crcF x ^^^ b.foldl crcF y ^^^ c.foldl crcF z
  | [], b, c, x, y, z, h1, h2 => by
    obtain rfl : b = [] := List.eq_nil_of_length_eq_zero h1.symm
    obtain rfl : c = [] := List.eq_nil_of_length_eq_zero h2.symm
    rfl
  | a :: l, [], c, x, y, z, h1, h2 => by simp at h1
  | a :: l, b :: m, [], x, y, z, h1, h2 => by simp at h2
  | a :: l, b :: m, c :: n, x, y, z, h1, h2 => by
    simp only [xor3, List.foldl_cons]
    rw [crcF_kb, UInt8.toNat_xor, UInt8.toNat_xor, kb_xor, kb_xor, ← crcF_kb, ← crcF_kb, ← crcF_kb]
    exact xor3_fold l m n _ _ _ (by simpa using h1) (by simpa using h2)
theorem crc_three (a b c : List UInt8) (h1 : a.length = b.length) (h2 : b.length = c.length) : crcL (xor3 a b c) = crcL a ^^^ crcL b ^^^ crcL c := by
  have h := xor3_fold a b c (~~~ 0#32) (~~~ 0#32) (~~~ 0#32) h1 h2
  rw [BitVec.xor_self, BitVec.zero_xor] at h
  unfold crcL
  rw [h]
  ext i hi
  simp only [BitVec.getElem_not, BitVec.getElem_xor]
  cases (List.foldl crcF (~~~0#32) a)[i] <;> cases (List.foldl crcF (~~~0#32) b)[i] <;> cases (List.foldl crcF (~~~0#32) c)[i] <;> rfl

theorem xor3_snoc : ∀ (a b c : List UInt8) (x y z : UInt8), a.length = b.length → b.length = c.length → xor3 (a ++ [x]) (b ++ [y]) (c ++ [z]) = xor3 a b c ++ [x ^^^ y ^^^ z]
  | [], b, c, x, y, z, h1, h2 => by
    obtain rfl : b = [] := List.eq_nil_of_length_eq_zero h1.symm
    obtain rfl : c = [] := List.eq_nil_of_length_eq_zero h2.symm
    rfl
  | a :: l, [], c, x, y, z, h1, h2 => by simp at h1
  | a :: l, b :: m, [], x, y, z, h1, h2 => by simp at h2
  | a :: l, b :: m, c :: n, x, y, z, h1, h2 => by
    simp only [List.cons_append, xor3]
    rw [xor3_snoc l m n x y z (by simpa using h1) (by simpa using h2)]
theorem take_snoc (l : List UInt8) (k : Nat) (h : k < l.length) : l.take (k + 1) = l.take k ++ [l[k]] := by
  rw [List.take_succ_eq_append_getElem h]
theorem xor3_step (a b c : List UInt8) (k n : Nat) (hk : k < n) (ha : n ≤ a.length) (hb : n ≤ b.length) (hc : n ≤ c.length) :
    (xor3 (a.take k) (b.take k) (c.take k) ++ List.replicate (n - k) 0).set k (a[k] ^^^ b[k] ^^^ c[k]) = xor3 (a.take (k + 1)) (b.take (k + 1)) (c.take (k + 1)) ++ List.replicate (n - (k + 1)) 0 := by
  have hl := xor3_len (a.take k) (b.take k) (c.take k) (by simp; omega) (by simp; omega)
  rw [List.length_take] at hl
  rw [take_snoc a k (by omega), take_snoc b k (by omega), take_snoc c k (by omega), xor3_snoc _ _ _ _ _ _ (by simp; omega) (by simp; omega)]
  rw [List.set_append_right _ _ (by omega), show k - (xor3 (a.take k) (b.take k) (c.take k)).length = 0 by omega, show n - k = (n - (k + 1)) + 1 by omega, List.replicate_succ, List.set_cons_zero, List.append_assoc]
  rfl
theorem bits_x8 (x y : UInt8) : bits BinOp.xor IntKind.u8 (x.toNat : Int) (y.toNat : Int) = ((x ^^^ y).toNat : Int) := by
  rw [b_xor8 _ _ x.toNat_lt y.toNat_lt, UInt8.toNat_xor]

theorem walk_CrcThree (a : ByteArray) (ha : a.size ≤ 140737488351232) (b : ByteArray) (hb : b.size ≤ 140737488351232) (c : ByteArray) (hc : c.size ≤ 140737488351232) (w : World) :
    Calls Try.prog 5 #[.string a, .string b, .string c] w fun e w' => e = .returned (.bool true) ∧ Below w.heap.size w w' := by
  go_enter Try.func5, Try.ntmps5
  go_wp2_with fail
  refine (of_any _ _ (by decide)).mono ?_
  rintro e w1 ⟨rfl, hb1⟩
  rw [show ((⟨#[49, 50, 51, 52, 53, 54, 55, 56, 57]⟩ : ByteArray).data.toList) = [49, 50, 51, 52, 53, 54, 55, 56, 57] from rfl, crc_nine]
  obtain ⟨n, hn⟩ : ∃ n : Nat, min (min (a.size : Int) b.size) c.size = (n : Int) := ⟨min (min a.size b.size) c.size, by omega⟩
  have hna : n ≤ a.size := by omega
  have hnb : n ≤ b.size := by omega
  have hnc : n ≤ c.size := by omega
  obtain ⟨i0, hi, hz0, hz1, hz2⟩ := info_parts Try.info_u8
  have Hn := Lib.hid hn
  clear hn
  go_wp2_with (first | (refine wpList_min3 rfl (.tmp 13) (.tmp 15) (.tmp 17) _ rfl _ _ _ _ rfl rfl rfl Hn.out ?_) | (at_make; refine wpList_make_full _ rfl _ _ 30 rfl w.heap.size 5 i0 _ 1 Try.underlying30 hi hz0 hz1 _ _ _ _ n rfl rfl rfl rfl (by rw [hz2]; omega) (by simp only [maxLen]; omega) hb1.size ?_; intro w2 hown2 hg2))
  have hb2 : Below w.heap.size w w2 := hb1.trans (below_grown hg2 hb1.size (by simp))
  have hown0 : OwnU8 w2 w.heap.size (.slice (some ⟨w1.heap.size, 0, none⟩) n n) (List.replicate n 0) := by
    have e : (madeCells (Value.int IntKind.u8 0).cells (n * 1)).toList = (List.replicate n (0 : UInt8)).map u8v := by
      apply List.ext_getElem
      · simp [madeCells]
      · intro i h1 h2
        simp [madeCells, Value.cells, u8v, Nat.mod_one]
    rw [e] at hown2
    simpa [OwnU8] using hown2
  clear hown2 hg2
  obtain ⟨g, hg⟩ : ∃ g, g = w1.heap.size := ⟨_, rfl⟩
  have hgB : w.heap.size ≤ g := by have := hb1.size; omega
  rw [← hg] at hown0
  rw [← hg]
  clear hg hb1 hi hz0 hz1 hz2
  go_loopw [9, 23] (fun i0 i wr => ∃ (k : Nat) (l : List UInt8), k ≤ n ∧ i = .int .i64 k ∧ OwnU8 wr w.heap.size (.slice (some ⟨g, 0, none⟩) n n) l ∧ Hid (l = xor3 (a.data.toList.take k) (b.data.toList.take k) (c.data.toList.take k) ++ List.replicate (n - k) 0) ∧ Below w.heap.size w wr) (fun _ i _ => n - (intOf i).toNat)
  case atStart => exact ⟨0, List.replicate n 0, by omega, rfl, hown0, Lib.hid (by simp [xor3]), hb2⟩
  case round =>
    obtain ⟨k, l, hk, rfl, hown, hl, hb⟩ := hrel
    by_cases hlt : k < n
    · have hka : k < a.size := by omega
      have hkb : k < b.size := by omega
      have hkc : k < c.size := by omega
      have h0 : (0 : Int) ≤ (k : Int) := by omega
      have hkn : (k : Int) < (n : Int) := by omega
      have hla : (k : Int) < (a.size : Int) := by omega
      have hlb : (k : Int) < (b.size : Int) := by omega
      have hlc : (k : Int) < (c.size : Int) := by omega
      have hll : l.length = n := hown.len.symm
      have hcell := hown.cell k (by omega)
      have hfr := hown.frozen k
      go_wp2_with fail
      go_region
      go_wp2_with fail
      go_roundw
      case rel =>
        refine ⟨k + 1, l.set k (a[k] ^^^ b[k] ^^^ c[k]), by omega, by go_num, ?_, ?_, ?_⟩
        · rw [bits_x8, bits_x8]
          exact (hown.stored k _).drew
        · rw [hl.out]
          exact Lib.hid (xor3_step a.data.toList b.data.toList c.data.toList k n hlt (by rw [bs_len]; omega) (by rw [bs_len]; omega) (by rw [bs_len]; omega))
        · exact (hb.setCell (p := ⟨g, k, none⟩) hgB _).drew
      case measure => simp [intOf]; omega
    · obtain rfl : k = n := by omega
      have hl' : Hid (crcL l = crcL (a.data.toList.take k) ^^^ crcL (b.data.toList.take k) ^^^ crcL (c.data.toList.take k)) := by
        rw [hl.out, Nat.sub_self, List.replicate_zero, List.append_nil]
        exact crc_three _ _ _ (by rw [List.length_take, List.length_take, bs_len, bs_len]; omega) (by rw [List.length_take, List.length_take, bs_len, bs_len]; omega)
      have hll : l.length = k := hown.len.symm
      go_wp2_with fail
      have hcv := run_string_own hown
      have hb0 := Below.refl wr.heap.size wr
      have s1 : (⟨l.toArray⟩ : ByteArray).size ≤ 9223372036854775807 := by rw [bs_size]; omega
      have s2 : (a.extract 0 k).size ≤ 9223372036854775807 := by rw [← bs_len, bs_extract, List.length_drop, List.length_take, bs_len]; omega
      have s3 : (b.extract 0 k).size ≤ 9223372036854775807 := by rw [← bs_len, bs_extract, List.length_drop, List.length_take, bs_len]; omega
      have s4 : (c.extract 0 k).size ≤ 9223372036854775807 := by rw [← bs_len, bs_extract, List.length_drop, List.length_take, bs_len]; omega
      have keepS : ∀ w', Below wr.heap.size wr w' → Below wr.heap.size wr w' ∧ (convert 30 9 (.slice (some ⟨g, 0, none⟩) k k)).run Try.prog w' = .ok (.string ⟨l.toArray⟩) w' :=
        fun w' h => ⟨h, run_string_own (hown.below h)⟩
      have KeepS := Lib.hid keepS
      clear keepS
      go_region_held3 (fun w' => Below wr.heap.size wr w' ∧ (convert 30 9 (.slice (some ⟨g, 0, none⟩) k k)).run Try.prog w' = .ok (.string ⟨l.toArray⟩) w')
        (first | exact KeepS.out _ (by assumption) | exact KeepS.out _ (Below.drew (by assumption)) | (go_split_ands; exact KeepS.out _ (Below.trans (by assumption) (Below.mono hb9 (Below.size (by assumption))))))
        ((go_at_call 16; refine (of_any _ _ (by assumption)).mono ?_; rintro e w9 ⟨rfl, hb9⟩))
      go_wp2_with fail
      go_ret
      have hbw : Below wr.heap.size wr w9 := (show Below wr.heap.size wr w9 ∧ (convert 30 9 (.slice (some ⟨g, 0, none⟩) k k)).run Try.prog w9 = .ok (.string ⟨l.toArray⟩) w9 from by assumption).1
      refine ⟨?_, hb.trans (hbw.mono hb.size)⟩
      have e1 : bits BinOp.xor IntKind.u32 (bits BinOp.xor IntKind.u32 ((crcL (List.take k a.data.toList)).toNat : Int) (crcL (List.take k b.data.toList)).toNat) (crcL (List.take k c.data.toList)).toNat = ((crcL l).toNat : Int) := by
        rw [b_xor, b_xor, ofInt_toNat, ofInt_toNat, ofInt_toNat, ofInt_toNat, hl'.out]
      show Ending.returned (.bool (_ == _)) = _
      rw [e1]
      simp
end Go.Proofs.Ytdaiemhepaakfaa
