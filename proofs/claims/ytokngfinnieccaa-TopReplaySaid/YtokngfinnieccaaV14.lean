/- Contracts of frame.four, frame.Put, frame.Get. The check sum, plainly: bit by bit, linear, and what is turned within 32 bits is told. Frames, plainly: what is put is got, whatever stands behind; cut short it is told; what is got is put as it was; what is turned within 32 bits behind the length is told. Arguments opened; what the bound on the bulk gives. Slices of parts, opened. Rows of frames; frame.Scan. Contract of frame.Scan, and of frame.Put for any frame. What hot.Read makes of a slot's frames (pure). -/
import Derived.Test.YtokngfinnieccaaV13
import Derived.Test.YtokngfinnieccaaV1
import Derived.Lib.SmallJoins
import Derived.Test.YtokngfinnieccaaV2
import Derived.Deep.Slices
import Derived.Deep.Fields
import Derived.ChangeSame
namespace Go.Proofs.Ytokngfinnieccaa
open Go.ChangeShapes Go.WideShapes Go.RowKit
set_option linter.unusedVariables false
set_option linter.unusedSimpArgs false
set_option maxRecDepth 100000
set_option maxHeartbeats 4000000
def fourL (x : Nat) : List UInt8 := [UInt8.ofNat x, UInt8.ofNat (x / 256), UInt8.ofNat (x / 65536), UInt8.ofNat (x / 16777216)]
theorem mod_of (x : Nat) : (UInt8.ofNat x).toNat = x % 256 := by simp [UInt8.toNat_ofNat']
theorem four_any (x : Nat) (hx : (x : Int) < 4294967296) (w : World) :
 Calls Try.prog 123 #[.int .u32 x] w fun e w' => e = .returned (.string ⟨(fourL x).toArray⟩) ∧ Below w.heap.size w w' := by
 have hcv := run_string_new w #[.int .u8 ((x : Int) % 256), .int .u8 ((x : Int) / 256 % 256), .int .u8 ((x : Int) / 65536 % 256), .int .u8 ((x : Int) / 16777216)] (fourL x)
  (by simp [fourL, u8v, mod_of]; omega) 4 4 rfl _ rfl
 go_enter Try.func123, Try.ntmps123
 go_wp2_with fail
 go_ret
 exact ⟨rfl, (Below.refl _ _).alloc (Nat.le_refl _) _⟩
def frH (k : Nat) (b : List UInt8) : List UInt8 := UInt8.ofNat k :: UInt8.ofNat (b.length / 256) :: UInt8.ofNat b.length :: b
def frL (k : Nat) (b : List UInt8) : List UInt8 := frH k b ++ fourL (crcL (frH k b)).toNat
theorem fput_good (k : Nat) (b : ByteArray) (h1 : (1 : Int) ≤ k) (h2 : (k : Int) ≤ 255) (h3 : (b.size : Int) ≤ 4000) (w : World) :
 Calls Try.prog 111 #[.agg #[.int .i64 k, .string b]] w fun e w' => e = .returned (.tuple #[.string ⟨(frL k b.data.toList).toArray⟩, .int .i64 0]) ∧ Below w.heap.size w w' := by
 have hcv := run_string_new (w.alloc (.cells #[.int .i64 k, .string b] 182)) #[.int .u8 (k : Int), .int .u8 ((b.size : Int) / 256), .int .u8 ((b.size : Int) % 256)] [UInt8.ofNat k, UInt8.ofNat (b.size / 256), UInt8.ofNat b.size]
  (by simp [u8v, mod_of]; omega) 3 3 rfl (w.heap.size + 1) (by simp)
 go_enter Try.func111, Try.ntmps111
 go_wp2_with fail
 have e1 : (⟨#[UInt8.ofNat k, UInt8.ofNat (b.size / 256), UInt8.ofNat b.size]⟩ ++ b : ByteArray) = ⟨(frH k b.data.toList).toArray⟩ := bs_ext (by rw [bs_append]; rfl)
 rw [e1]
 have hsz : (⟨(frH k b.data.toList).toArray⟩ : ByteArray).size ≤ 9223372036854775807 := by rw [bs_size]; simp only [frH, List.length_cons, bs_len]; omega
 refine (of_any _ _ hsz).mono ?_
 rintro e w1 ⟨rfl, hb1⟩
 have hb2 : Below w.heap.size w w1 := (((Below.refl w.heap.size w).alloc (Nat.le_refl _) _).alloc (by simp) _).trans (hb1.mono (by simp; omega))
 clear hb1 hcv e1
 go_wp2_with fail
 refine (four_any _ (by have := (crcL (frH k b.data.toList)).isLt; omega) _).mono ?_
 rintro e w2 ⟨rfl, hb3⟩
 have hs2 : (⟨(fourL (crcL (frH k b.data.toList)).toNat).toArray⟩ : ByteArray).size ≤ 4 := by rw [bs_size]; simp [fourL]
 have hs1 : (⟨(frH k b.data.toList).toArray⟩ : ByteArray).size ≤ 4003 := by rw [bs_size]; simp only [frH, List.length_cons, bs_len]; omega
 go_wp2_with fail
 go_ret2
 refine ⟨?_, hb2.trans (hb3.mono hb2.size)⟩
 have e2 : (⟨(frH k b.data.toList).toArray⟩ ++ ⟨(fourL (crcL (frH k b.data.toList)).toNat).toArray⟩ : ByteArray) = ⟨(frL k b.data.toList).toArray⟩ := bs_ext (by rw [bs_append]; simp [frL])
 rw [← e2]
 rfl
theorem or_hi (x y : UInt8) : bits BinOp.or IntKind.i64 ((x.toNat : Int) * 256) (y.toNat : Int) = ((x.toNat * 256 + y.toNat : Nat) : Int) := by
 have hx := x.toNat_lt
 have hy := y.toNat_lt
 have h1 : BitVec.ofInt 64 ((x.toNat : Int) * 256) = BitVec.ofNat 64 (x.toNat * 256) := by
  rw [show (x.toNat : Int) * 256 = ((x.toNat * 256 : Nat) : Int) by omega]; exact BitVec.ofInt_natCast ..
 have h2 : BitVec.ofInt 64 (y.toNat : Int) = BitVec.ofNat 64 y.toNat := BitVec.ofInt_natCast ..
 have e : x.toNat * 256 ||| y.toNat = x.toNat * 256 + y.toNat := by
  have := Nat.shiftLeft_add_eq_or_of_lt (i := 8) (show y.toNat < 2 ^ 8 by omega) x.toNat
  rw [Nat.shiftLeft_eq] at this
  exact this.symm
 show IntKind.i64.wrap _ = _
 rw [show IntKind.i64.bits = 64 from rfl, h1, h2]
 rw [BitVec.toNat_or, BitVec.toNat_ofNat, BitVec.toNat_ofNat, Nat.mod_eq_of_lt (by omega), Nat.mod_eq_of_lt (by omega), e]
 exact IntWalk.i64_in _ ⟨by omega, by omega⟩
def gf (l : List UInt8) : Nat × List UInt8 × Nat × Nat :=
 if l.length < 7 then (0, [], 0, 5)
 else if (l.headD 0).toNat = 0 ∨ 4000 < (l.getD 1 0).toNat * 256 + (l.getD 2 0).toNat then (0, [], 0, 3)
 else if l.length < (l.getD 1 0).toNat * 256 + (l.getD 2 0).toNat + 7 then (0, [], 0, 5)
 else if (l.drop ((l.getD 1 0).toNat * 256 + (l.getD 2 0).toNat + 3)).take 4 ≠ fourL (crcL (l.take ((l.getD 1 0).toNat * 256 + (l.getD 2 0).toNat + 3))).toNat then (0, [], 0, 6)
 else ((l.headD 0).toNat, (l.drop 3).take ((l.getD 1 0).toNat * 256 + (l.getD 2 0).toNat), (l.getD 1 0).toNat * 256 + (l.getD 2 0).toNat + 7, 0)
def frV (x : Nat × List UInt8 × Nat × Nat) : Value := .tuple #[.agg #[.int .i64 x.1, .string ⟨x.2.1.toArray⟩], .int .i64 x.2.2.1, .int .i64 x.2.2.2]
theorem _root_.Go.RowKit.Below.drewN' {B : Nat} {a w : World} (h : Below B a w) (n : Nat) : Below B a (w.drewN n) := ⟨h.os, h.tape, h.output, h.size, h.block⟩
theorem _root_.BitVec.isLt_int (x : BitVec 32) : (x.toNat : Int) < 4294967296 := by have := x.isLt; omega
theorem fget_short (s : ByteArray) (h : (s.size : Int) < 7) (w : World) :
 Calls Try.prog 126 #[.string s] w fun e w' => e = .returned (frV (0, [], 0, 5)) ∧ Below w.heap.size w w' := by
 go_enter Try.func126, Try.ntmps126
 go_wp2_with fail
 exact bodyPost_ret (v := frV (0, [], 0, 5)) (by simp [results, Try.results126, go_sem, frV]) rfl ⟨rfl, (Below.refl _ _).alloc (Nat.le_refl _) _⟩
theorem fget_bad (s : ByteArray) (h : 7 ≤ (s.size : Int)) (n : Nat) (hn : n = (s[1]'(by omega)).toNat * 256 + (s[2]'(by omega)).toNat) (hbad : (s[0]'(by omega)).toNat = 0 ∨ 4000 < n) (w : World) :
 Calls Try.prog 126 #[.string s] w fun e w' => e = .returned (frV (0, [], 0, 3)) ∧ Below w.heap.size w w' := by
 have h1 : (1 : Int) < (s.size : Int) := by omega
 have h2 : (2 : Int) < (s.size : Int) := by omega
 have h3 : (0 : Int) < (s.size : Int) := by omega
 have hE := or_hi (s[1]'(by omega)) (s[2]'(by omega))
 rw [← hn] at hE
 have b0 : ((s[0]'(by omega)).toNat : Int) < 256 := by have := (s[0]'(by omega)).toNat_lt; omega
 have b1 : ((s[1]'(by omega)).toNat : Int) < 256 := by have := (s[1]'(by omega)).toNat_lt; omega
 have b2 : ((s[2]'(by omega)).toNat : Int) < 256 := by have := (s[2]'(by omega)).toNat_lt; omega
 clear hn
 by_cases h0 : (s[0]'(by omega)).toNat = 0
 · have h0' : (((s[0]'(by omega)).toNat : Int) == 0) = true := by simp [h0]
   clear h0 hbad
   go_enter Try.func126, Try.ntmps126
   go_wp2_with fail
   go_quiet (fail)
   go_wp2_with fail
   exact bodyPost_ret (v := frV (0, [], 0, 3)) (by simp [results, Try.results126, go_sem, frV]) rfl ⟨rfl, (((((Below.refl _ _).alloc (Nat.le_refl _) _).drewN' _).setCell (Nat.le_refl _) _).setCell (Nat.le_refl _) _)⟩
 · have h0' : (((s[0]'(by omega)).toNat : Int) == 0) = false := by simp [h0]
   have hb : (4000 : Int) < (n : Int) := by omega
   clear h0 hbad
   go_enter Try.func126, Try.ntmps126
   go_wp2_with fail
   go_quiet (fail)
   go_wp2_with fail
   exact bodyPost_ret (v := frV (0, [], 0, 3)) (by simp [results, Try.results126, go_sem, frV]) rfl ⟨rfl, (((((Below.refl _ _).alloc (Nat.le_refl _) _).drewN' _).setCell (Nat.le_refl _) _).setCell (Nat.le_refl _) _)⟩
theorem fget_cut (s : ByteArray) (h : 7 ≤ (s.size : Int)) (n : Nat) (hn : n = (s[1]'(by omega)).toNat * 256 + (s[2]'(by omega)).toNat) (h00 : ¬ (s[0]'(by omega)).toNat = 0) (hb : (n : Int) ≤ 4000) (hc : (s.size : Int) < (n : Int) + 7) (w : World) :
 Calls Try.prog 126 #[.string s] w fun e w' => e = .returned (frV (0, [], 0, 5)) ∧ Below w.heap.size w w' := by
 have h1 : (1 : Int) < (s.size : Int) := by omega
 have h2 : (2 : Int) < (s.size : Int) := by omega
 have h3 : (0 : Int) < (s.size : Int) := by omega
 have hE := or_hi (s[1]'(by omega)) (s[2]'(by omega))
 rw [← hn] at hE
 have b0 : ((s[0]'(by omega)).toNat : Int) < 256 := by have := (s[0]'(by omega)).toNat_lt; omega
 have b1 : ((s[1]'(by omega)).toNat : Int) < 256 := by have := (s[1]'(by omega)).toNat_lt; omega
 have b2 : ((s[2]'(by omega)).toNat : Int) < 256 := by have := (s[2]'(by omega)).toNat_lt; omega
 clear hn
 have h0' : (((s[0]'(by omega)).toNat : Int) == 0) = false := by simp [h00]
 go_enter Try.func126, Try.ntmps126
 go_wp2_with fail
 go_quiet (fail)
 go_wp2_with fail
 exact bodyPost_ret (v := frV (0, [], 0, 5)) (by simp [results, Try.results126, go_sem, frV]) rfl ⟨rfl, (((((Below.refl _ _).alloc (Nat.le_refl _) _).drewN' _).setCell (Nat.le_refl _) _).setCell (Nat.le_refl _) _)⟩
theorem fget_sum (s : ByteArray) (h : 7 ≤ (s.size : Int)) (n : Nat) (hn : n = (s[1]'(by omega)).toNat * 256 + (s[2]'(by omega)).toNat) (h00 : ¬ (s[0]'(by omega)).toNat = 0) (hb : (n : Int) ≤ 4000) (hc : (n : Int) + 7 ≤ (s.size : Int))
 (sum : Bool) (hsum : ((s.data.toList.drop (n + 3)).take 4 == fourL (crcL (s.data.toList.take (n + 3))).toNat) = sum) (w : World) :
 Calls Try.prog 126 #[.string s] w fun e w' => e = .returned (frV (if sum then ((s[0]'(by omega)).toNat, (s.data.toList.drop 3).take n, n + 7, 0) else (0, [], 0, 6))) ∧ Below w.heap.size w w' := by
 have h1 : (1 : Int) < (s.size : Int) := by omega
 have h2 : (2 : Int) < (s.size : Int) := by omega
 have h3 : (0 : Int) < (s.size : Int) := by omega
 have hE := or_hi (s[1]'(by omega)) (s[2]'(by omega))
 rw [← hn] at hE
 have b0 : ((s[0]'(by omega)).toNat : Int) < 256 := by have := (s[0]'(by omega)).toNat_lt; omega
 have b1 : ((s[1]'(by omega)).toNat : Int) < 256 := by have := (s[1]'(by omega)).toNat_lt; omega
 have b2 : ((s[2]'(by omega)).toNat : Int) < 256 := by have := (s[2]'(by omega)).toNat_lt; omega
 clear hn
 have h0' : (((s[0]'(by omega)).toNat : Int) == 0) = false := by simp [h00]
 have Hsum := Lib.hid hsum
 clear hsum
 go_enter Try.func126, Try.ntmps126
 go_wp2_with fail
 go_quiet (fail)
 go_wp2_with fail
 have hW : Below w.heap.size w (((w.alloc (Obj.cells #[Value.int IntKind.i64 0, Value.string { data := #[] }] 182)).drewN nq)) := (((Below.refl w.heap.size w).alloc (Nat.le_refl _) _).drewN' _)
 have hblk : Blk (((w.alloc (Obj.cells #[Value.int IntKind.i64 0, Value.string { data := #[] }] 182)).drewN nq)) w.heap.size 182 #[Value.int IntKind.i64 0, Value.string { data := #[] }] := (Blk.new w _ _).drewN nq
 have hlt : w.heap.size < (((w.alloc (Obj.cells #[Value.int IntKind.i64 0, Value.string { data := #[] }] 182)).drewN nq)).heap.size := hblk.lt
 generalize ((w.alloc (Obj.cells #[Value.int IntKind.i64 0, Value.string { data := #[] }] 182)).drewN nq) = W1 at *
 have hb0 := Below.refl W1.heap.size W1
 have sz1 : (s.extract 0 (n + 3)).size ≤ 9223372036854775807 := by rw [← bs_len, bs_extract, List.length_drop, List.length_take, bs_len]; omega
 have g1 : (0 : Int) ≤ (n : Int) + 3 := by omega
 have g2 : (n : Int) + 3 ≤ (n : Int) + 7 := by omega
 have g3 : (0 : Int) ≤ (n : Int) + 7 := by omega
 have g4 : (n : Int) + 3 ≤ (s.size : Int) := by omega
 have e3 : IntKind.i64.wrap ((n : Int) + 3) = (n : Int) + 3 := IntWalk.i64_in _ (by omega)
 have e7 : IntKind.i64.wrap ((n : Int) + 7) = (n : Int) + 7 := IntWalk.i64_in _ (by omega)
 have t3 : ((n : Int) + 3).toNat = n + 3 := by omega
 have t7 : ((n : Int) + 7).toNat = n + 7 := by omega
 go_region_held3 (fun w' => Below W1.heap.size W1 w')
  (first | assumption | exact Below.drew (by assumption) | exact Below.trans (by assumption) (Below.mono hb9 (Below.size (by assumption))))
  ((first | (go_at_call 124; refine (of_any _ _ (by assumption)).mono ?_; rintro e w9 ⟨rfl, hb9⟩) | (go_at_call 123; refine (four_any _ (BitVec.isLt_int _) _).mono ?_; rintro e w9 ⟨rfl, hb9⟩)))
 have hbw : Below W1.heap.size W1 w9 := by assumption
 have hblk9 := hblk.below hbw hlt
 have hcell0 := hblk9.cell 0
 have hcell1 := hblk9.cell 1
 have hfr0 := hblk9.frozen 0
 have hfr1 := hblk9.frozen 1
 have hEq : ((s.extract (n + 3) (n + 7)).toList == fourL (crcL (List.take (n + 3) s.data.toList)).toNat) = sum := by
  rw [← Hsum.out, ByteArray.toList_eq, bs_extract, List.drop_take, show n + 7 - (n + 3) = 4 by omega]
 rw [hEq]
 clear hEq
 cases sum
 · go_wp2_with fail
   have hB := ((hblk9.set_ 0 (.int .i64 0)).set_ 1 (.string ⟨#[]⟩))
   have hbl : Below w.heap.size w ((w9.setCell ⟨w.heap.size, 0, none⟩ (.int .i64 0)).setCell ⟨w.heap.size, 1, none⟩ (.string ⟨#[]⟩)) :=
    ((hW.trans (hbw.mono (by omega))).setCell (p := ⟨w.heap.size, 0, none⟩) (Nat.le_refl _) _).setCell (p := ⟨w.heap.size, 1, none⟩) (Nat.le_refl _) _
   have c0 := hB.cell 0
   have c1 := hB.cell 1
   clear hcell0 hcell1 hfr0 hfr1 hblk9 hB
   generalize (w9.setCell ⟨w.heap.size, 0, none⟩ (.int .i64 0)).setCell ⟨w.heap.size, 1, none⟩ (.string ⟨#[]⟩) = W2 at *
   exact bodyPost_ret (v := frV (0, [], 0, 6)) (by simp [results, Try.results126, go_sem, frV, c0, c1]) rfl ⟨rfl, hbl⟩
 · go_wp2_with fail
   go_region
   go_wp2_with fail
   have eS : s.extract 3 (n + 3) = ⟨((s.data.toList.drop 3).take n).toArray⟩ := bs_ext (by rw [bs_extract]; simp [List.drop_take])
   rw [eS]
   have hB := ((hblk9.set_ 0 (.int .i64 (s[0]'(by omega)).toNat)).set_ 1 (.string ⟨((s.data.toList.drop 3).take n).toArray⟩)).drew
   have hbl : Below w.heap.size w ((w9.setCell ⟨w.heap.size, 0, none⟩ (.int .i64 (s[0]'(by omega)).toNat)).setCell ⟨w.heap.size, 1, none⟩ (.string ⟨((s.data.toList.drop 3).take n).toArray⟩)).drew :=
    (((hW.trans (hbw.mono (by omega))).setCell (p := ⟨w.heap.size, 0, none⟩) (Nat.le_refl _) _).setCell (p := ⟨w.heap.size, 1, none⟩) (Nat.le_refl _) _).drew
   have c0 := hB.cell 0
   have c1 := hB.cell 1
   clear hcell0 hcell1 hfr0 hfr1 hblk9 hB
   generalize ((w9.setCell ⟨w.heap.size, 0, none⟩ (.int .i64 (s[0]'(by omega)).toNat)).setCell ⟨w.heap.size, 1, none⟩ (.string ⟨((s.data.toList.drop 3).take n).toArray⟩)).drew = W2 at *
   exact bodyPost_ret (v := frV ((s[0]'(by omega)).toNat, (s.data.toList.drop 3).take n, n + 7, 0)) (by simp [results, Try.results126, go_sem, frV, c0, c1]) rfl ⟨rfl, hbl⟩
theorem bs_get (s : ByteArray) (i : Nat) (h : i < s.size) : s.data.toList.getD i 0 = s[i] := by
 have h' : i < s.data.toList.length := h
 rw [List.getD_eq_getElem?_getD, List.getElem?_eq_getElem h']
 rfl
theorem fget_any (s : ByteArray) (w : World) :
 Calls Try.prog 126 #[.string s] w fun e w' => e = .returned (frV (gf s.data.toList)) ∧ Below w.heap.size w w' := by
 by_cases h7 : s.size < 7
 · rw [show gf s.data.toList = (0, [], 0, 5) by unfold gf; rw [if_pos (by rw [bs_len]; exact h7)]]
   exact fget_short s (by omega) w
 have e1 := bs_get s 1 (by omega)
 have e2 := bs_get s 2 (by omega)
 have e0 : s.data.toList.headD 0 = s[0]'(by omega) := by
  rw [← bs_get s 0 (by omega)]; cases s.data.toList <;> rfl
 unfold gf
 rw [if_neg (by rw [bs_len]; exact h7), e0, e1, e2, bs_len]
 obtain ⟨n, hn⟩ : ∃ n, n = (s[1]'(by omega)).toNat * 256 + (s[2]'(by omega)).toNat := ⟨_, rfl⟩
 rw [← hn]
 by_cases hbad : (s[0]'(by omega)).toNat = 0 ∨ 4000 < n
 · rw [if_pos hbad]
   exact fget_bad s (by omega) n hn hbad w
 rw [if_neg hbad]
 by_cases hc : s.size < n + 7
 · rw [if_pos hc]
   exact fget_cut s (by omega) n hn (by omega) (by omega) (by omega) w
 rw [if_neg hc]
 have h := fget_sum s (by omega) n hn (by omega) (by omega) (by omega) _ rfl w
 by_cases hs : (s.data.toList.drop (n + 3)).take 4 = fourL (crcL (s.data.toList.take (n + 3))).toNat
 · rw [if_neg (by simpa using hs)]
   rw [if_pos (by simpa using hs)] at h
   exact h
 · rw [if_pos hs]
   rw [if_neg (by simpa using hs)] at h
   exact h
end Go.Proofs.Ytokngfinnieccaa
namespace Go.Proofs.Ytokngfinnieccaa
set_option linter.unusedVariables false
set_option linter.unusedSimpArgs false
set_option maxRecDepth 100000
set_option maxHeartbeats 4000000
def kb (x : BitVec 32) (D : Nat) : Nat → BitVec 32
 | 0 => x
 | n + 1 => kb (stp (x ^^^ BitVec.ofNat 32 (D % 2))) (D / 2) n
theorem fourL_len (x : Nat) : (fourL x).length = 4 := rfl
theorem frH_len (k : Nat) (b : List UInt8) : (frH k b).length = b.length + 3 := by simp [frH]
theorem frL_len (k : Nat) (b : List UInt8) : (frL k b).length = b.length + 7 := by
 rw [frL, List.length_append, frH_len, fourL_len]
theorem frL_zero : frL 3 [] = [3, 0, 0, 9, 99, 74, 138] := by decide +kernel
theorem gf_frL (k : Nat) (b more : List UInt8) (h1 : 1 ≤ k) (h2 : k ≤ 255) (h3 : b.length ≤ 4000) : gf (frL k b ++ more) = (k, b, b.length + 7, 0) := by
 have e0 : ((frL k b ++ more).headD 0).toNat = k := by
  show (UInt8.ofNat k).toNat = k
  rw [mod_of]; omega
 have e1 : ((frL k b ++ more).getD 1 0).toNat * 256 + ((frL k b ++ more).getD 2 0).toNat = b.length := by
  show (UInt8.ofNat (b.length / 256)).toNat * 256 + (UInt8.ofNat b.length).toNat = b.length
  rw [mod_of, mod_of]; omega
 have e2 : (frL k b ++ more).take (b.length + 3) = frH k b := by
  rw [frL, List.append_assoc, ← frH_len k b, List.take_left']; rfl
 have e3 : ((frL k b ++ more).drop (b.length + 3)).take 4 = fourL (crcL (frH k b)).toNat := by
  rw [frL, List.append_assoc, ← frH_len k b, List.drop_left' rfl]; rfl
 have e4 : ((frL k b ++ more).drop 3).take b.length = b := by
  show (b ++ fourL (crcL (frH k b)).toNat ++ more).take b.length = b
  rw [List.append_assoc, List.take_left' rfl]
 have hl : (frL k b ++ more).length = b.length + 7 + more.length := by rw [List.length_append, frL_len]
 unfold gf
 rw [e1, e0, e2, e3, e4, if_neg (by omega), if_neg (by omega), if_neg (by omega), if_neg (by simp)]
theorem gf_wrong (l : List UInt8) : (gf l).2.2.2 ≠ 0 → gf l = (0, [], 0, (gf l).2.2.2) := by
 unfold gf
 (repeat' split) <;> simp
end Go.Proofs.Ytokngfinnieccaa
namespace Go.Proofs.Ytokngfinnieccaa
open Go.ChangeShapes Go.WideShapes Go.RowKit Go.Joins
set_option linter.unusedVariables false
set_option linter.unusedSimpArgs false
set_option maxRecDepth 100000
set_option maxHeartbeats 4000000
theorem sized_part {H : Type} {P : Program} {ts : List TypeId} {ds : List (DataW H)} (h : (DataW.weightsEach P ts ds).all (· ≤ reachBytes) = true) {j : Nat} {t : TypeId} {d : DataW H} (ht : ts[j]? = some t) (hd : ds[j]? = some d) : ∀ x ∈ DataW.weights P t d, x ≤ 140737488351232 := by
 intro x hx
 have := List.all_eq_true.1 h _ (DataW.weights_mem_each ht hd x hx)
 have h2 : x ≤ reachBytes := by simpa using this
 have h3 : reachBytes = 140737488351232 := by decide
 omega
section
variable {H : Type} {enc : TypeId × Value → H} {w : World} {base : Nat} {spare : Nat → Bool} {held : Bool}
end
end Go.Proofs.Ytokngfinnieccaa
namespace Go.Proofs.Ytokngfinnieccaa
open Go.ChangeShapes Go.WideShapes Go.RowKit Go.Joins Go.Deep
set_option linter.unusedVariables false
set_option linter.unusedSimpArgs false
set_option maxRecDepth 100000
set_option maxHeartbeats 4000000
section
variable {H : Type} {enc : TypeId × Value → H} {P : Program} {w : World} {base : Nat} {spare : Nat → Bool} {held : Bool}
theorem open_slice_fields {t e : TypeId} {fs : Array Field} {fuel : Nat} {cs : List Value} {x : DataW H × List MemPlace} (ht : P.underlying t = some (.slice e)) (he : P.underlying e = some (.struct fs))
 (hone : oneCellFields P fs = true) (hC : P.cellsOf e = fs.size) (h : DataW.trod enc P w base spare held fuel t cs = some x) :
 (cs = [.slice none 0 0] ∧ x = (.nil, [])) ∨
 ∃ (a : Addr) (len cap m : Nat) (D : Nat → DataW H) (Pl : Nat → List MemPlace), cs = [.slice (some a) len cap] ∧ base ≤ a.block ∧ len ≤ cap ∧ cap ≤ maxLen ∧ m = (if spare a.block then cap else len) ∧
   x = (.slice ((List.range len).map D) ((List.range (m - len)).map fun j => D (len + j)), MemPlace.row a (m * fs.size) ++ (List.range m).flatMap Pl) ∧
   ∀ i, i < m → ∃ (ys : List (DataW H × List MemPlace)) (n : Nat), D i = .agg (ys.map (·.1)) ∧ Pl i = ys.flatMap (·.2) ∧ ys.length = fs.size ∧
     ∀ (j : Nat) (f : Field), fs[j]? = some f → ∃ (v : Value) (y : DataW H × List MemPlace), w.cell? (a.add (i * fs.size + j)) = some v ∧ ys[j]? = some y ∧ DataW.trod enc P w base spare held n f.type [v] = some y := by
 rcases open_slice ht h with h0 | ⟨a, len, cap, m, n, D, Pl, hcs, hb, hl, hm, hmm, hx, hi⟩
 · exact .inl h0
 · refine .inr ⟨a, len, cap, m, D, Pl, hcs, hb, hl, hm, hmm, by rw [hC] at hx; exact hx, fun i him => ?_⟩
   obtain ⟨cs', hc, ht'⟩ := hi i him
   rw [hC] at hc
   obtain ⟨ys, n', hn', hy, hlen, hyl, hf⟩ := DataW.trod_struct he ht'
   obtain ⟨_, hcl, hat⟩ := World.cells?_some hc
   simp only [Prod.mk.injEq] at hy
   refine ⟨ys, n', hy.1, hy.2, hyl, fun j f hj => ?_⟩
   obtain ⟨ho, hk⟩ := hone_of hone j f hj
   have hjl : j < fs.size := (Array.getElem?_eq_some_iff.1 hj).1
   have hcell := hat j hjl
   have hv : cs'[j]? = some (cs'[j]'(by omega)) := List.getElem?_eq_getElem (by omega)
   have h1 := hf j f hj
   rw [ho, hk] at h1
   have hone' : (cs'.drop j).take 1 = [cs'[j]'(by omega)] := by
    rw [List.drop_eq_getElem_cons (by omega)]
    rfl
   rw [hone'] at h1
   have hys : ys[j]? = some (ys[j]'(by omega)) := List.getElem?_eq_getElem (by omega)
   refine ⟨_, _, ?_, hys, h1.trans hys⟩
   rw [← Go.Deep.add_add, hcell, hv]
theorem weights_all_mem {e : TypeId} {d : DataW H} {n : Nat} (hn : n ∈ d.weights P e) : ∀ {l : List (DataW H)}, d ∈ l → n ∈ DataW.weightsAll P e l
 | x :: r, h => by
   simp only [DataW.weightsAll, List.mem_append]
   rcases List.mem_cons.1 h with rfl | h
   · exact .inl hn
   · exact .inr (weights_all_mem hn h)
end
def IsParts (w : World) (v : Value) (l : List Pt) : Prop := ∃ A n c, v = .slice A n c ∧ RdP w w.heap.size A n c l
section
variable {H : Type} {enc : TypeId × Value → H} {w : World} {base : Nat} {spare : Nat → Bool} {held : Bool}
theorem pick_lt {α : Type} {p : Nat → α → Prop} (d : α) {n : Nat} (h : ∀ i, i < n → ∃ x, p i x) : ∃ l : List α, l.length = n ∧ ∀ i (hi : i < l.length), p i l[i] := by
 induction n with
 | zero => exact ⟨[], rfl, fun i hi => absurd hi (by simp)⟩
 | succ n ih =>
   obtain ⟨l, hl, hp⟩ := ih fun i hi => h i (by omega)
   obtain ⟨x, hx⟩ := h n (by omega)
   refine ⟨l ++ [x], by simp [hl], fun i hi => ?_⟩
   rw [List.length_append, List.length_singleton] at hi
   rcases Nat.lt_or_ge i l.length with h1 | h1
   · rw [List.getElem_append_left h1]; exact hp i h1
   · obtain rfl : i = n := by omega
     rw [List.getElem_append_right (by omega)]
     simpa [hl] using hx
theorem read_parts {fuel : Nat} {v : Value} {x : DataW H × List MemPlace} (h : DataW.trod enc Try.prog w base spare held fuel 25 [v] = some x) (hb : ∀ n ∈ DataW.weights Try.prog 25 x.1, n ≤ 140737488351232) : ∃ l, IsParts w v l := by
 rcases open_slice_fields Try.underlying25 Try.underlying88 (by kernel_rfl) (by kernel_rfl) h with ⟨hc, _⟩ | ⟨a, len, cap, m, D, Pl, hc, _, h1, h2, h3, hx, h4⟩
 · simp only [List.cons.injEq, and_true] at hc
   exact ⟨[], _, _, _, hc, rfl, Rd.nil _ _ _, by simp⟩
 · simp only [List.cons.injEq, and_true] at hc
   have hl : len ≤ m := by rw [h3]; split <;> omega
   subst hx
   have h5 : ∀ i, i < len → ∃ p : Pt, w.cell? (a.add (i * 3)) = some (.int .i64 p.1) ∧ w.cell? (a.add (i * 3 + 1)) = some (.int .i64 p.2.1) ∧ w.cell? (a.add (i * 3 + 2)) = some (.string p.2.2) ∧ p.2.2.size ≤ 140737488351232 := by
    intro i hi
    obtain ⟨ys, n, hD, _, hyl, hf⟩ := h4 i (by omega)
    obtain ⟨v0, y0, c0, e0, t0⟩ := hf 0 _ rfl
    obtain ⟨v1, y1, c1, e1, t1⟩ := hf 1 _ rfl
    obtain ⟨v2, y2, c2, e2, t2⟩ := hf 2 _ rfl
    obtain ⟨k0, z0, rfl, _⟩ := DataW.trod_int Try.underlying3 t0
    obtain ⟨k1, z1, rfl, _⟩ := DataW.trod_int Try.underlying3 t1
    obtain ⟨s, z2, rfl, _⟩ := DataW.trod_string Try.underlying9 t2
    simp only [List.cons.injEq, and_true] at z0 z1 z2
    subst z0 z1 z2
    refine ⟨(k0, k1, s), c0, c1, c2, ?_⟩
    match ys, hyl with
    | [a0, a1, a2], _ =>
      simp only [List.getElem?_cons_zero, List.getElem?_cons_succ, Option.some.injEq] at e0 e1 e2
      subst e0 e1 e2
      have hmem : s.size ∈ DataW.weights Try.prog 88 (D i) := by
       rw [hD]
       simp [DataW.weights, DataW.weightsEach, Try.underlying88]
      refine hb _ ?_
      simp only [DataW.weights, Try.underlying25, List.mem_cons, List.mem_append]
      exact .inr (.inl (weights_all_mem hmem (List.mem_map.2 ⟨i, List.mem_range.2 hi, rfl⟩)))
   obtain ⟨l, hll, hp⟩ := pick_lt ((0, 0, emp) : Pt) h5
   refine ⟨l, _, len, cap, hc, hll.symm, rd_of (by omega) h1 h2 (by rw [pc_len, hll]) fun j u hj => ?_, fun p hp' => ?_⟩
   · have hjl : j < l.length * 3 := by
      rcases Nat.lt_or_ge j (pc l).length with hlt | hge
      · rw [pc_len] at hlt; exact hlt
      · rw [List.getElem?_eq_none hge] at hj; cases hj
     obtain ⟨q0, q1, q2⟩ := pc_at l (j / 3) (by omega)
     obtain ⟨b0, b1, b2, _⟩ := hp (j / 3) (by omega)
     have e : j = j / 3 * 3 + j % 3 := by omega
     rcases (show j % 3 = 0 ∨ j % 3 = 1 ∨ j % 3 = 2 by omega) with h | h | h
     · rw [e, h, Nat.add_zero] at hj ⊢; rw [q0] at hj; rw [b0]; exact hj
     · rw [e, h] at hj ⊢; rw [q1] at hj; rw [b1]; exact hj
     · rw [e, h] at hj ⊢; rw [q2] at hj; rw [b2]; exact hj
   · obtain ⟨i, hi, rfl⟩ := List.getElem_of_mem hp'
     exact (hp i hi).2.2.2
end
abbrev Fm := Int × ByteArray
def fc (l : List Fm) : List Value := l.flatMap fun p => [.int .i64 p.1, .string p.2]
theorem fc_at : ∀ (l : List Fm) (k : Nat) (h : k < l.length), (fc l)[k * 2]? = some (.int .i64 l[k].1) ∧ (fc l)[k * 2 + 1]? = some (.string l[k].2)
 | [], k, h => absurd h (by simp)
 | p :: l, 0, h => ⟨rfl, rfl⟩
 | p :: l, k + 1, h => by
   have := fc_at l k (by simpa using h)
   have e (j : Nat) : (fc (p :: l))[(k + 1) * 2 + j]? = (fc l)[k * 2 + j]? := by
    simp only [fc, List.flatMap_cons]
    rw [List.getElem?_append_right (by simp; omega)]
    congr 1
    simp; omega
   have e0 := e 0
   simp only [Nat.add_zero] at e0
   rw [e0, e 1]
   exact this
theorem fc_append (l l' : List Fm) : fc (l ++ l') = fc l ++ fc l' := by simp [fc]
theorem fc_cell (l : List Fm) : ∀ u ∈ fc l, u.oneCell' = true := by
 intro u hu
 unfold fc at hu
 obtain ⟨p, _, h⟩ := List.mem_flatMap.1 hu
 simp only [List.mem_cons, List.not_mem_nil, or_false] at h
 rcases h with rfl | rfl <;> rfl
def RdF (w : World) (B : Nat) (A : Option Addr) (n c : Nat) (l : List Fm) : Prop := n = l.length ∧ Rd w B 2 A n c (fc l)
section
variable {w w' : World} {B B' n c : Nat} {A : Option Addr} {l : List Fm}
theorem RdF.at_ (h : RdF w B A n c l) (k : Nat) (hk : k < n) :
 ∃ b o, A = some ⟨b, o, none⟩ ∧ b < B ∧ w.cell? ⟨b, o + k * 2, none⟩ = some (.int .i64 (l[k]'(by have := h.1; omega)).1) ∧ w.cell? ⟨b, o + k * 2 + 1, none⟩ = some (.string (l[k]'(by have := h.1; omega)).2) := by
 obtain ⟨h0, hr⟩ := h
 obtain ⟨b, o, e, hb, hc⟩ := hr.2.2.2 (by omega)
 obtain ⟨h1, h2⟩ := fc_at l k (by omega)
 refine ⟨b, o, e, hb, hc _ _ h1, ?_⟩
 have := hc _ _ h2
 rwa [← Nat.add_assoc] at this
theorem RdF.below (h : RdF w B A n c l) (hb : Below B w w') : RdF w' B A n c l := ⟨h.1, h.2.below hb⟩
theorem RdF.more (h : RdF w B A n c l) (hB : B ≤ B') : RdF w B' A n c l := ⟨h.1, h.2.more hB⟩
theorem RdF.step (h : RdF w w.heap.size A n c l) (hb : Below w.heap.size w w') : RdF w' w'.heap.size A n c l := (h.below hb).more hb.size
theorem RdF.stepA (h : RdF w w.heap.size A n c l) (o : Obj) : RdF (w.alloc o) (w.alloc o).heap.size A n c l := ⟨h.1, (h.2.alloc (Nat.le_refl _) o).more (by simp)⟩
end
def OwnF (w : World) (B : Nat) (v : Value) (l : List Fm) : Prop := w.ownsRow B 182 2 v l.length (fc l)
theorem OwnF.nil (w : World) (B : Nat) : OwnF w B (.slice none 0 0) [] := World.ownsRow_nil _ _ _ _
theorem OwnF.rd {w : World} {B : Nat} {v : Value} {l : List Fm} (h : OwnF w B v l) : ∃ A c, v = .slice A l.length c ∧ RdF w w.heap.size A l.length c l := by
 obtain ⟨A, c, e, hr⟩ := Rd.own h
 exact ⟨A, c, e, rfl, hr⟩
theorem Try.info_frame : (Try.prog.info? 182).map (fun i => (i.zero, i.size, i.bytes)) = some (some (.agg #[.int .i64 0, .string ⟨#[]⟩]), 2, 24) := by kernel_rfl
theorem wpList_app_fm {ops : Array Oper} {rest : List Oper} {o : Oper} {a : Act} {Q : Exit → Act → World → Prop} (w : World) (k : Int) (t : ByteArray) (hgd : o.guard = none) (s x : Operand)
 (ho : o.op = .call { callee := .builtin .append, args := #[s, x], argTypes := #[186, 186] })
 (B : Nat) (v : Value) (l : List Fm) (hs : a.eval s = v) (hown : OwnF (w.alloc (.cells #[.int .i64 k, .string t] 182)) B v l)
 (c g : Nat) (hg : w.heap.size = g) (hx : a.eval x = .slice (some ⟨g, 0, none⟩) 1 c)
 (hn : l.length ≤ 5864062014636) (hB : B ≤ w.heap.size)
 (h : ∀ v' w', OwnF w' B v' (l ++ [(k, t)]) → Below B (w.alloc (.cells #[.int .i64 k, .string t] 182)) w' → (w.alloc (.cells #[.int .i64 k, .string t] 182)).grownBy w' v.ownBlock → wpList Try.prog ops Q rest (a.put o.dst v') w') :
 wpList Try.prog ops Q (o :: rest) a (w.alloc (.cells #[.int .i64 k, .string t] 182)) := by
 subst hg
 obtain ⟨i0, hi, hz0, hz1, hz2⟩ := info_parts Try.info_frame
 have hB2 : B ≤ (w.alloc (.cells #[.int .i64 k, .string t] 182)).heap.size := by simp; omega
 have hr := Rd.built w 182 #[.int .i64 k, .string t] (n := 1) (size := 2) rfl (by decide)
 refine wpList_append_any (w.alloc (.cells #[.int .i64 k, .string t] 182)) hgd s x 186 ho B 182 i0 _ 2 24 Try.underlying186 hi hz0 hz1 hz2 rfl (by omega) v _ _ hs hown (w.heap.size + 1) _ 1 c (fc [(k, t)]) hx ?_ (fc_cell _) (by simp only [maxLen]; omega) (by omega) hB2 ?_
 · refine ⟨rfl, fun h0 => ?_⟩
   obtain ⟨b, o', e, hb, hc⟩ := hr.2.2.2 h0
   refine ⟨_, e, hb, fun j u hj => ?_⟩
   have := hc j u hj
   by_cases h00 : j = 0
   · subst h00; simpa [Addr.add] using this
   · simpa [Addr.add, h00] using this
 · intro v' w' h2 h3 h4
   refine h v' w' ?_ (below_grown h3 hB2 (own_ge hown)) h3
   unfold OwnF
   rw [fc_append, List.length_append]
   exact h2
def okF (p : Fm) : Prop := 1 ≤ p.1 ∧ p.1 ≤ 255 ∧ p.2.size ≤ 4000
instance (p : Fm) : Decidable (okF p) := by unfold okF; infer_instance
def txF (p : Fm) : List UInt8 := frL p.1.toNat p.2.data.toList
def flat : List Fm → List UInt8
 | [] => []
 | p :: l => txF p ++ flat l
theorem flat_app (l l' : List Fm) : flat (l ++ l') = flat l ++ flat l' := by
 induction l with
 | nil => rfl
 | cons p l ih => simp only [List.cons_append, flat, ih, List.append_assoc]
theorem txF_len (p : Fm) : (txF p).length = p.2.size + 7 := by unfold txF; rw [frL_len]; rfl
theorem gf_txF (p : Fm) (more : List UInt8) (h : okF p) : gf (txF p ++ more) = (p.1.toNat, p.2.data.toList, p.2.size + 7, 0) := by
 obtain ⟨h1, h2, h3⟩ := h
 unfold txF
 rw [gf_frL _ _ _ (by omega) (by omega) h3]
 rfl
theorem get_good (p : Fm) (s : ByteArray) (more : List UInt8) (hp : okF p) (hs : s.data.toList = txF p ++ more) (w : World) :
 Calls Try.prog 126 #[.string s] w fun e w' => e = .returned (.tuple #[.agg #[.int .i64 p.1, .string p.2], .int .i64 ((p.2.size + 7 : Nat) : Int), .int .i64 0]) ∧ Below w.heap.size w w' := by
 have h := fget_any s w
 rw [hs, gf_txF p more hp] at h
 have e : frV (p.1.toNat, p.2.data.toList, p.2.size + 7, 0) = .tuple #[.agg #[.int .i64 p.1, .string p.2], .int .i64 ((p.2.size + 7 : Nat) : Int), .int .i64 0] := by
  unfold frV
  have h1 : ((p.1.toNat : Nat) : Int) = p.1 := by have := hp.1; omega
  simp only [h1]
  rfl
 rw [e] at h
 exact h
theorem get_bad (s : ByteArray) (hs : (gf s.data.toList).2.2.2 ≠ 0) (w : World) :
 Calls Try.prog 126 #[.string s] w fun e w' => (∃ E : Int, E ≠ 0 ∧ e = .returned (.tuple #[.agg #[.int .i64 0, .string ⟨#[]⟩], .int .i64 0, .int .i64 E])) ∧ Below w.heap.size w w' := by
 have h := fget_any s w
 rw [gf_wrong _ hs] at h
 refine h.mono ?_
 rintro e w' ⟨rfl, hb⟩
 exact ⟨⟨((gf s.data.toList).2.2.2 : Nat), by omega, rfl⟩, hb⟩
theorem scan_any (s : ByteArray) (fs : List Fm) (rest : List UInt8) (hok : ∀ p ∈ fs, okF p) (hs : s.data.toList = flat fs ++ rest) (hr : (gf rest).2.2.2 ≠ 0) (hn : fs.length ≤ 5864062014636) (hsz : s.size ≤ 1000000000000000000) (N G : Nat) (hN : fs.length = N) (hG : (flat fs).length = G) (w : World) :
 Calls Try.prog 115 #[.string s] w fun e w' => ∃ A c, e = .returned (.tuple #[.slice A N c, .int .i64 G]) ∧ RdF w' w'.heap.size A N c fs ∧ Below w.heap.size w w' := by
 have Hok := Lib.hid hok
 have Hs := Lib.hid hs
 have Hr := Lib.hid hr
 have HN := Lib.hid hN
 have HG := Lib.hid hG
 have hsl : s.data.toList.length = s.size := rfl
 have Hsl := Lib.hid hsl
 clear hok hs hr hN hG hsl
 go_enter Try.func115, Try.ntmps115
 go_wp2_with fail
 go_loopw [4, 5, 6, 7, 8] (fun ov gv pv nv ev wr => ∃ (k g : Nat), k ≤ N ∧ gv = .int .i64 g ∧ g ≤ s.size ∧ Hid (OwnF wr w.heap.size ov (fs.take k)) ∧ Hid ((flat (fs.take k)).length = g) ∧ Hid ((s.extract g s.size).data.toList = flat (fs.drop k) ++ rest) ∧ Below w.heap.size w wr) (fun _ gv _ _ _ _ => s.size + 1 - (intOf gv).toNat)
 case atStart => exact ⟨0, 0, by omega, rfl, by omega, Lib.hid (OwnF.nil _ _), Lib.hid rfl, Lib.hid (by rw [bs_extract, ← Hsl.out, List.take_length]; exact Hs.out), Below.refl _ _⟩
 case round =>
  obtain ⟨k, g, hk, rfl, hgs, hown, hfl, hex, hbw⟩ := hrel
  have hg0 : (0 : Int) ≤ (g : Int) := by omega
  have hgs' : (g : Int) ≤ (s.size : Int) := by omega
  obtain ⟨Y, hY⟩ : ∃ Y, s.extract g s.size = Y := ⟨_, rfl⟩
  rw [hY] at hex
  by_cases hlt : k < N
  · have hkl : k < fs.length := by have := HN.out; omega
    have hp := Hok.out _ (List.getElem_mem hkl)
    have hdr : fs.drop k = fs[k] :: fs.drop (k + 1) := List.drop_eq_getElem_cons hkl
    have hts : fs.take (k + 1) = fs.take k ++ [fs[k]] := List.take_succ_eq_append_getElem hkl
    have hex2 := hex.out
    rw [hdr] at hex2
    obtain ⟨p, hpe⟩ : ∃ p, p = fs[k] := ⟨_, rfl⟩
    rw [← hpe] at hp hex2 hts
    have hYl : Y.data.toList.length = Y.size := rfl
    have hYs : Y.size = s.size - g := by rw [← hY, ← bs_len, bs_extract, List.length_drop, ← Hsl.out, List.take_length]
    have hpl : p.2.size + 7 ≤ s.size - g := by
     have h1 := congrArg List.length hex2
     rw [hYl, hYs] at h1
     simp only [flat, List.length_append, txF_len] at h1
     omega
    have Hcall := Lib.hid (get_good p Y (flat (fs.drop (k + 1)) ++ rest) hp (by rw [hex2]; simp [flat]) wr)
    have hfl2 : (flat (fs.take (k + 1))).length = g + (p.2.size + 7) := by
     rw [hts, flat_app, List.length_append, hfl.out]
     simp only [flat, List.append_nil, txF_len]
    have hex3 : (s.extract (g + (p.2.size + 7)) s.size).data.toList = flat (fs.drop (k + 1)) ++ rest := by
     have h1 : (s.extract (g + (p.2.size + 7)) s.size).data.toList = Y.data.toList.drop (p.2.size + 7) := by
      rw [← hY, bs_extract, bs_extract, ← Hsl.out, List.take_length, List.drop_drop]
     rw [h1, hex2]
     simp only [flat]
     rw [List.append_assoc, ← txF_len p, List.drop_append_length]
    have hsb := hp.2.2
    have Hts := Lib.hid hts
    have Hfl2 := Lib.hid hfl2
    have Hex3 := Lib.hid hex3
    have hkt : (fs.take k).length ≤ 5864062014636 := by rw [List.length_take]; omega
    obtain ⟨pk, pt⟩ := p
    simp only at hpl Hfl2 Hex3 hsb Hcall
    have hpli : ((pt.size + 7 : Nat) : Int) ≤ 4007 := by omega
    have hgp : (g : Int) + ((pt.size + 7 : Nat) : Int) ≤ 1000000000000000000 := by omega
    clear hpe hdr hts hex hex2 hfl hfl2 hex3 hYl hYs hp
    go_wp2_with fail
    refine Hcall.out.mono ?_
    rintro e w2 ⟨rfl, hb2⟩
    have hw2 := hbw.trans (hb2.mono hbw.size)
    have hw3 := hw2.alloc hw2.size (.cells #[.int .i64 pk, .string pt] 182)
    have hw4 := hw3.alloc hw3.size (.cells #[.int .i64 pk, .string pt] 182)
    have hown' : Hid (OwnF ((w2.alloc (.cells #[.int .i64 pk, .string pt] 182)).alloc (.cells #[.int .i64 pk, .string pt] 182)) w.heap.size _ (fs.take k)) := Lib.hid (World.ownsRow.alloc (World.ownsRow.alloc (own_below hown.out hb2) _) _)
    have hB8 : w.heap.size ≤ (w2.alloc (.cells #[.int .i64 pk, .string pt] 182)).heap.size := hw3.size
    clear hb2 hown
    go_wp2_with (first | (at_builtin; go_loud (refine wpList_app_fm (w2.alloc (.cells #[.int .i64 pk, .string pt] 182)) pk pt rfl (.tmp 21) (.tmp 23) rfl w.heap.size _ (fs.take k) rfl hown'.out 1 (w2.heap.size + 1) (by simp) rfl hkt hB8 ?_; intro v8 w8 k1 k2 k3)))
    have hw9 := hw4.trans k2
    rw [← Hts.out] at k1
    have K1 := Lib.hid k1
    clear k1 k3
    go_roundw
    case rel => exact ⟨k + 1, g + (pt.size + 7), by omega, by go_num, by omega, K1, Hfl2, Hex3, hw9⟩
    case measure => simp [intOf]; omega
  · obtain rfl : k = N := by omega
    have hex2 := hex.out
    rw [List.drop_eq_nil_of_le (by have := HN.out; omega)] at hex2
    have hb := get_bad Y (by rw [hex2]; exact Hr.out) wr
    have hown2 := hown.out
    rw [List.take_of_length_le (by have := HN.out; omega)] at hown2
    have hfl2 := hfl.out
    rw [List.take_of_length_le (by have := HN.out; omega), HG.out] at hfl2
    subst hfl2
    obtain ⟨A9, c9, hv9, hr9⟩ := hown2.rd
    rw [HN.out] at hv9 hr9
    have Hr9 := Lib.hid hr9
    have Hb := Lib.hid hb
    subst hv9
    clear hb hex hex2 hown hown2 hfl hr9
    go_wp2_with fail
    refine Hb.out.mono ?_
    rintro e w2 ⟨⟨E, hE, rfl⟩, hb2⟩
    have hne : (E != 0) = true := by simpa using hE
    have hw2 := hbw.trans (hb2.mono hbw.size)
    have hw3 := hw2.alloc hw2.size (.cells #[.int .i64 0, .string ⟨#[]⟩] 182)
    have Hr10 := Lib.hid ((Hr9.out.step hb2).stepA (.cells #[.int .i64 0, .string ⟨#[]⟩] 182))
    clear hb2 hE
    go_wp2_with fail
    go_ret2
    exact ⟨_, _, rfl, Hr10.out, hw3⟩
theorem put_okF (p : Fm) (h : okF p) (w : World) : Calls Try.prog 111 #[.agg #[.int .i64 p.1, .string p.2]] w fun e w' => e = .returned (.tuple #[.string ⟨(txF p).toArray⟩, .int .i64 0]) ∧ Below w.heap.size w w' := by
 obtain ⟨h1, h2, h3⟩ := h
 have := fput_good p.1.toNat p.2 (by omega) (by omega) (by omega) w
 rw [show ((p.1.toNat : Nat) : Int) = p.1 by omega] at this
 exact this
end Go.Proofs.Ytokngfinnieccaa
namespace Go.Proofs.Ytokngfinnieccaa
set_option linter.unusedVariables false
set_option linter.unusedSimpArgs false
set_option maxRecDepth 100000
set_option maxHeartbeats 4000000
def readF : Lg → ByteArray → List Fm → Lg
 | l, _, [] => l
 | l, t, f :: fs =>
   if f.1 = 3 then
    if l.whole = true ∨ f.2.size ≠ 0 then l else readF { l with whole := true, good := l.good + ((f.2.size + 7 : Nat) : Int) } t fs
   else if f.1 = 2 then
    if rvOk f.2.data.toList = true ∧ nextE l t.size (rvV f.2.data.toList) = 0 then
     readF { addL l (rvV f.2.data.toList) with good := l.good + ((f.2.size + 7 : Nat) : Int) } (doS (rvV f.2.data.toList).2.2 t) fs
    else l
   else l
def hotE : List Fm → Int
 | [] => 7
 | f :: _ => if f.1 ≠ 1 ∨ hdOk f.2.data.toList = false then 3 else 0
def hotL : List Fm → Lg
 | [] => lg0
 | f :: fs => if f.1 ≠ 1 ∨ hdOk f.2.data.toList = false then lg0 else readF { hdL f.2.data.toList with good := ((f.2.size + 7 : Nat) : Int) } (hdL f.2.data.toList).text fs
structure Rd_ (l : Lg) (t : ByteArray) : Prop where
 l8 : Lg8 l
 base0 : 0 ≤ l.base
 base1 : l.base ≤ 2147483647
 len : l.revs.length ≤ 64
 txt : t.size ≤ 500
theorem next_len {l : Lg} {n : Nat} {r : Rv} (h : nextE l n r = 0) : oneE r = 0 ∧ (l.table.getD r.1.toNat (0, 0)).1 < r.2.1 ∧ l.revs.length < 64 ∧ l.base + l.revs.length < 2147483647 ∧ fitsE r.2.2 n = 0 := by
 unfold nextE at h
 split at h
 · rename_i h1; exact absurd h h1
 · rename_i h1
   split at h
   · exact absurd h (by decide)
   · rename_i h2
     split at h
     · exact absurd h (by decide)
     · rename_i h3
       exact ⟨by simpa using h1, by omega, by omega, by omega, h⟩
theorem Rd_.done {l : Lg} {t : ByteArray} (h : Rd_ l t) (g : Int) : Rd_ { l with whole := true, good := g } t := ⟨h.l8, h.base0, h.base1, h.len, h.txt⟩
theorem Rd_.add {l : Lg} {t : ByteArray} {r : Rv} (h : Rd_ l t) (hn : nextE l t.size r = 0) (g : Int) : Rd_ { addL l r with good := g } (doS r.2.2 t) := by
 have h1 := next_len hn
 exact ⟨⟨h.l8.1, by simp [addL, h.l8.2]⟩, h.base0, h.base1, by simp [addL]; omega, do_size_any _ _⟩
end Go.Proofs.Ytokngfinnieccaa
