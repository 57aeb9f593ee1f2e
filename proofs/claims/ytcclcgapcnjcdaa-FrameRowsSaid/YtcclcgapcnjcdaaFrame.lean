/- Contracts of frame.four, frame.Put, frame.Get. -/
import Derived.Test.YtcclcgapcnjcdaaCrc
import Derived.Test.YtcclcgapcnjcdaaBytes
namespace Go.Proofs.Ytcclcgapcnjcdaa
open Go.ChangeShapes Go.WideShapes Go.RowKit
set_option linter.unusedVariables false
set_option linter.unusedSimpArgs false
set_option maxRecDepth 100000
set_option maxHeartbeats 4000000

def fourL (x : Nat) : List UInt8 := [UInt8.ofNat x, UInt8.ofNat (x / 256), UInt8.ofNat (x / 65536), UInt8.ofNat (x / 16777216)]

theorem mod_of (x : Nat) : (UInt8.ofNat x).toNat = x % 256 := by simp [UInt8.toNat_ofNat']
theorem four_any (x : Nat) (hx : (x : Int) < 4294967296) (w : World) :
    Calls Try.prog 52 #[.int .u32 x] w fun e w' => e = .returned (.string ⟨(fourL x).toArray⟩) ∧ Below w.heap.size w w' := by
  have hcv := run_string_new w #[.int .u8 ((x : Int) % 256), .int .u8 ((x : Int) / 256 % 256), .int .u8 ((x : Int) / 65536 % 256), .int .u8 ((x : Int) / 16777216)] (fourL x)
    (by simp [fourL, u8v, mod_of]; omega) 4 4 rfl _ rfl
  go_enter Try.func52, Try.ntmps52
  go_wp2_with fail
  go_ret
  exact ⟨rfl, (Below.refl _ _).alloc (Nat.le_refl _) _⟩

/-- a frame's bytes ahead of its sum, and whole -/
def frH (k : Nat) (b : List UInt8) : List UInt8 := UInt8.ofNat k :: UInt8.ofNat (b.length / 256) :: UInt8.ofNat b.length :: b
def frL (k : Nat) (b : List UInt8) : List UInt8 := frH k b ++ fourL (crcL (frH k b)).toNat

theorem fput_kind (k : Int) (b : ByteArray) (h : k < 1 ∨ 255 < k) (w : World) :
    Calls Try.prog 23 #[.agg #[.int .i64 k, .string b]] w fun e w' => e = .returned (.tuple #[.string ⟨#[]⟩, .int .i64 1]) ∧ Below w.heap.size w w' := by
  by_cases h1 : k < 1
  · go_enter Try.func23, Try.ntmps23
    go_wp2_with fail
    go_ret2
    exact ⟨rfl, (Below.refl _ _).alloc (Nat.le_refl _) _⟩
  · have h2 : 255 < k := by omega
    go_enter Try.func23, Try.ntmps23
    go_wp2_with fail
    go_ret2
    exact ⟨rfl, (Below.refl _ _).alloc (Nat.le_refl _) _⟩
theorem fput_large (k : Int) (b : ByteArray) (h1 : 1 ≤ k) (h2 : k ≤ 255) (h3 : 4000 < (b.size : Int)) (w : World) :
    Calls Try.prog 23 #[.agg #[.int .i64 k, .string b]] w fun e w' => e = .returned (.tuple #[.string ⟨#[]⟩, .int .i64 2]) ∧ Below w.heap.size w w' := by
  go_enter Try.func23, Try.ntmps23
  go_wp2_with fail
  go_ret2
  exact ⟨rfl, (Below.refl _ _).alloc (Nat.le_refl _) _⟩
theorem fput_good (k : Nat) (b : ByteArray) (h1 : (1 : Int) ≤ k) (h2 : (k : Int) ≤ 255) (h3 : (b.size : Int) ≤ 4000) (w : World) :
    Calls Try.prog 23 #[.agg #[.int .i64 k, .string b]] w fun e w' => e = .returned (.tuple #[.string ⟨(frL k b.data.toList).toArray⟩, .int .i64 0]) ∧ Below w.heap.size w w' := by
  have hcv := run_string_new (w.alloc (.cells #[.int .i64 k, .string b] 37)) #[.int .u8 (k : Int), .int .u8 ((b.size : Int) / 256), .int .u8 ((b.size : Int) % 256)] [UInt8.ofNat k, UInt8.ofNat (b.size / 256), UInt8.ofNat b.size]
    (by simp [u8v, mod_of]; omega) 3 3 rfl (w.heap.size + 1) (by simp)
  go_enter Try.func23, Try.ntmps23
  go_wp2_with fail
  have e1 : (⟨#[UInt8.ofNat k, UInt8.ofNat (b.size / 256), UInt8.ofNat b.size]⟩ ++ b : ByteArray) = ⟨(frH k b.data.toList).toArray⟩ := bs_ext (by rw [bs_append]; rfl)
  rw [e1]
  have hsz : (⟨(frH k b.data.toList).toArray⟩ : ByteArray).size ≤ 9223372036854775807 := by rw [bs_size]; simp only [frH, List.length_cons, bs_len]; omega
  refine (of_any _ _ hsz).mono ?_
  rintro e w1 ⟨rfl, hb1⟩
  have hb2 : Below w.heap.size w w1 := (((Below.refl w.heap.size w).alloc (Nat.le_refl _) _).alloc (by simp) _).trans (hb1.mono (by simp; omega))
  clear hb1 hcv e1
  go_wp2_with fail
  refine (four_any _ (by have := (crcL (frH k b.data.toList)).isLt; omega) _).mono ?_
  rintro e w2 ⟨rfl, hb3⟩
  have hs2 : (⟨(fourL (crcL (frH k b.data.toList)).toNat).toArray⟩ : ByteArray).size ≤ 4 := by rw [bs_size]; simp [fourL]
  have hs1 : (⟨(frH k b.data.toList).toArray⟩ : ByteArray).size ≤ 4003 := by rw [bs_size]; simp only [frH, List.length_cons, bs_len]; omega
  go_wp2_with fail
  go_ret2
  refine ⟨?_, hb2.trans (hb3.mono hb2.size)⟩
  have e2 : (⟨(frH k b.data.toList).toArray⟩ ++ ⟨(fourL (crcL (frH k b.data.toList)).toNat).toArray⟩ : ByteArray) = ⟨(frL k b.data.toList).toArray⟩ := bs_ext (by rw [bs_append]; simp [frL])
  rw [← e2]
  rfl

theorem or_hi (x y : UInt8) : bits BinOp.or IntKind.i64 ((x.toNat : Int) * 256) (y.toNat : Int) = ((x.toNat * 256 + y.toNat : Nat) : Int) := by
  have hx := x.toNat_lt
  have hy := y.toNat_lt
  have h1 : BitVec.ofInt 64 ((x.toNat : Int) * 256) = BitVec.ofNat 64 (x.toNat * 256) := by
    rw [show (x.toNat : Int) * 256 = ((x.toNat * 256 : Nat) : Int) by omega]; exact BitVec.ofInt_natCast ..
  have h2 : BitVec.ofInt 64 (y.toNat : Int) = BitVec.ofNat 64 y.toNat := BitVec.ofInt_natCast ..
  have e : x.toNat * 256 ||| y.toNat = x.toNat * 256 + y.toNat := by
    have := Nat.shiftLeft_add_eq_or_of_lt (i := 8) (show y.toNat < 2 ^ 8 by omega) x.toNat
    rw [Nat.shiftLeft_eq] at this
    exact this.symm
  show IntKind.i64.wrap _ = _
  rw [show IntKind.i64.bits = 64 from rfl, h1, h2]
  rw [BitVec.toNat_or, BitVec.toNat_ofNat, BitVec.toNat_ofNat, Nat.mod_eq_of_lt (by omega), Nat.mod_eq_of_lt (by omega), e]
  exact IntWalk.i64_in _ ⟨by omega, by omega⟩

/-- what frame.Get makes of bytes: kind, body, how many bytes, what went wrong -/
def gf (l : List UInt8) : Nat × List UInt8 × Nat × Nat :=
  if l.length < 7 then (0, [], 0, 5)
  else if (l.headD 0).toNat = 0 ∨ 4000 < (l.getD 1 0).toNat * 256 + (l.getD 2 0).toNat then (0, [], 0, 3)
  else if l.length < (l.getD 1 0).toNat * 256 + (l.getD 2 0).toNat + 7 then (0, [], 0, 5)
  else if (l.drop ((l.getD 1 0).toNat * 256 + (l.getD 2 0).toNat + 3)).take 4 ≠ fourL (crcL (l.take ((l.getD 1 0).toNat * 256 + (l.getD 2 0).toNat + 3))).toNat then (0, [], 0, 6)
  else ((l.headD 0).toNat, (l.drop 3).take ((l.getD 1 0).toNat * 256 + (l.getD 2 0).toNat), (l.getD 1 0).toNat * 256 + (l.getD 2 0).toNat + 7, 0)
def frV (x : Nat × List UInt8 × Nat × Nat) : Value := .tuple #[.agg #[.int .i64 x.1, .string ⟨x.2.1.toArray⟩], .int .i64 x.2.2.1, .int .i64 x.2.2.2]

theorem _root_.Go.RowKit.Below.drewN' {B : Nat} {a w : World} (h : Below B a w) (n : Nat) : Below B a (w.drewN n) := ⟨h.os, h.tape, h.output, h.size, h.block⟩

theorem _root_.BitVec.isLt_int (x : BitVec 32) : (x.toNat : Int) < 4294967296 := by have := x.isLt; omega
theorem fget_short (s : ByteArray) (h : (s.size : Int) < 7) (w : World) :
    Calls Try.prog 51 #[.string s] w fun e w' => e = .returned (frV (0, [], 0, 5)) ∧ Below w.heap.size w w' := by
  go_enter Try.func51, Try.ntmps51
  go_wp2_with fail
  exact bodyPost_ret (v := frV (0, [], 0, 5)) (by simp [results, Try.results51, go_sem, frV]) rfl ⟨rfl, (Below.refl _ _).alloc (Nat.le_refl _) _⟩
theorem fget_bad (s : ByteArray) (h : 7 ≤ (s.size : Int)) (n : Nat) (hn : n = (s[1]'(by omega)).toNat * 256 + (s[2]'(by omega)).toNat) (hbad : (s[0]'(by omega)).toNat = 0 ∨ 4000 < n) (w : World) :
    Calls Try.prog 51 #[.string s] w fun e w' => e = .returned (frV (0, [], 0, 3)) ∧ Below w.heap.size w w' := by
  have h1 : (1 : Int) < (s.size : Int) := by omega
  have h2 : (2 : Int) < (s.size : Int) := by omega
  have h3 : (0 : Int) < (s.size : Int) := by omega
  have hE := or_hi (s[1]'(by omega)) (s[2]'(by omega))
  rw [← hn] at hE
  have b0 : ((s[0]'(by omega)).toNat : Int) < 256 := by have := (s[0]'(by omega)).toNat_lt; omega
  have b1 : ((s[1]'(by omega)).toNat : Int) < 256 := by have := (s[1]'(by omega)).toNat_lt; omega
  have b2 : ((s[2]'(by omega)).toNat : Int) < 256 := by have := (s[2]'(by omega)).toNat_lt; omega
  clear hn
  by_cases h0 : (s[0]'(by omega)).toNat = 0
  · have h0' : (((s[0]'(by omega)).toNat : Int) == 0) = true := by simp [h0]
    clear h0 hbad
    go_enter Try.func51, Try.ntmps51
    go_wp2_with fail
    go_quiet (fail)
    go_wp2_with fail
    exact bodyPost_ret (v := frV (0, [], 0, 3)) (by simp [results, Try.results51, go_sem, frV]) rfl ⟨rfl, (((((Below.refl _ _).alloc (Nat.le_refl _) _).drewN' _).setCell (Nat.le_refl _) _).setCell (Nat.le_refl _) _)⟩
  · have h0' : (((s[0]'(by omega)).toNat : Int) == 0) = false := by simp [h0]
    have hb : (4000 : Int) < (n : Int) := by omega
    clear h0 hbad
    go_enter Try.func51, Try.ntmps51
    go_wp2_with fail
    go_quiet (fail)
    go_wp2_with fail
    exact bodyPost_ret (v := frV (0, [], 0, 3)) (by simp [results, Try.results51, go_sem, frV]) rfl ⟨rfl, (((((Below.refl _ _).alloc (Nat.le_refl _) _).drewN' _).setCell (Nat.le_refl _) _).setCell (Nat.le_refl _) _)⟩
theorem fget_cut (s : ByteArray) (h : 7 ≤ (s.size : Int)) (n : Nat) (hn : n = (s[1]'(by omega)).toNat * 256 + (s[2]'(by omega)).toNat) (h00 : ¬ (s[0]'(by omega)).toNat = 0) (hb : (n : Int) ≤ 4000) (hc : (s.size : Int) < (n : Int) + 7) (w : World) :
    Calls Try.prog 51 #[.string s] w fun e w' => e = .returned (frV (0, [], 0, 5)) ∧ Below w.heap.size w w' := by
  have h1 : (1 : Int) < (s.size : Int) := by omega
  have h2 : (2 : Int) < (s.size : Int) := by omega
  have h3 : (0 : Int) < (s.size : Int) := by omega
  have hE := or_hi (s[1]'(by omega)) (s[2]'(by omega))
  rw [← hn] at hE
  have b0 : ((s[0]'(by omega)).toNat : Int) < 256 := by have := (s[0]'(by omega)).toNat_lt; omega
  have b1 : ((s[1]'(by omega)).toNat : Int) < 256 := by have := (s[1]'(by omega)).toNat_lt; omega
  have b2 : ((s[2]'(by omega)).toNat : Int) < 256 := by have := (s[2]'(by omega)).toNat_lt; omega
  clear hn
  have h0' : (((s[0]'(by omega)).toNat : Int) == 0) = false := by simp [h00]
  go_enter Try.func51, Try.ntmps51
  go_wp2_with fail
  go_quiet (fail)
  go_wp2_with fail
  exact bodyPost_ret (v := frV (0, [], 0, 5)) (by simp [results, Try.results51, go_sem, frV]) rfl ⟨rfl, (((((Below.refl _ _).alloc (Nat.le_refl _) _).drewN' _).setCell (Nat.le_refl _) _).setCell (Nat.le_refl _) _)⟩
theorem fget_sum (s : ByteArray) (h : 7 ≤ (s.size : Int)) (n : Nat) (hn : n = (s[1]'(by omega)).toNat * 256 + (s[2]'(by omega)).toNat) (h00 : ¬ (s[0]'(by omega)).toNat = 0) (hb : (n : Int) ≤ 4000) (hc : (n : Int) + 7 ≤ (s.size : Int))
    (sum : Bool) (hsum : ((s.data.toList.drop (n + 3)).take 4 == fourL (crcL (s.data.toList.take (n + 3))).toNat) = sum) (w : World) :
    Calls Try.prog 51 #[.string s] w fun e w' => e = .returned (frV (if sum then ((s[0]'(by omega)).toNat, (s.data.toList.drop 3).take n, n + 7, 0) else (0, [], 0, 6))) ∧ Below w.heap.size w w' := by
  have h1 : (1 : Int) < (s.size : Int) := by omega
  have h2 : (2 : Int) < (s.size : Int) := by omega
  have h3 : (0 : Int) < (s.size : Int) := by omega
  have hE := or_hi (s[1]'(by omega)) (s[2]'(by omega))
  rw [← hn] at hE
  have b0 : ((s[0]'(by omega)).toNat : Int) < 256 := by have := (s[0]'(by omega)).toNat_lt; omega
  have b1 : ((s[1]'(by omega)).toNat : Int) < 256 := by have := (s[1]'(by omega)).toNat_lt; omega
  have b2 : ((s[2]'(by omega)).toNat : Int) < 256 := by have := (s[2]'(by omega)).toNat_lt; omega
  clear hn
  have h0' : (((s[0]'(by omega)).toNat : Int) == 0) = false := by simp [h00]
  have Hsum := Lib.hid hsum
  clear hsum
  go_enter Try.func51, Try.ntmps51
  go_wp2_with fail
  go_quiet (fail)
  go_wp2_with fail
  have hW : Below w.heap.size w (((w.alloc (Obj.cells #[Value.int IntKind.i64 0, Value.string { data := #[] }] 37)).drewN nq)) := (((Below.refl w.heap.size w).alloc (Nat.le_refl _) _).drewN' _)
  have hblk : Blk (((w.alloc (Obj.cells #[Value.int IntKind.i64 0, Value.string { data := #[] }] 37)).drewN nq)) w.heap.size 37 #[Value.int IntKind.i64 0, Value.string { data := #[] }] := (Blk.new w _ _).drewN nq
  have hlt : w.heap.size < (((w.alloc (Obj.cells #[Value.int IntKind.i64 0, Value.string { data := #[] }] 37)).drewN nq)).heap.size := hblk.lt
  generalize ((w.alloc (Obj.cells #[Value.int IntKind.i64 0, Value.string { data := #[] }] 37)).drewN nq) = W1 at *
  have hb0 := Below.refl W1.heap.size W1
  have sz1 : (s.extract 0 (n + 3)).size ≤ 9223372036854775807 := by rw [← bs_len, bs_extract, List.length_drop, List.length_take, bs_len]; omega
  have g1 : (0 : Int) ≤ (n : Int) + 3 := by omega
  have g2 : (n : Int) + 3 ≤ (n : Int) + 7 := by omega
  have g3 : (0 : Int) ≤ (n : Int) + 7 := by omega
  have g4 : (n : Int) + 3 ≤ (s.size : Int) := by omega
  have e3 : IntKind.i64.wrap ((n : Int) + 3) = (n : Int) + 3 := IntWalk.i64_in _ (by omega)
  have e7 : IntKind.i64.wrap ((n : Int) + 7) = (n : Int) + 7 := IntWalk.i64_in _ (by omega)
  have t3 : ((n : Int) + 3).toNat = n + 3 := by omega
  have t7 : ((n : Int) + 7).toNat = n + 7 := by omega
  go_region_held3 (fun w' => Below W1.heap.size W1 w')
    (first | assumption | exact Below.drew (by assumption) | exact Below.trans (by assumption) (Below.mono hb9 (Below.size (by assumption))))
    ((first | (go_at_call 53; refine (of_any _ _ (by assumption)).mono ?_; rintro e w9 ⟨rfl, hb9⟩) | (go_at_call 52; refine (four_any _ (BitVec.isLt_int _) _).mono ?_; rintro e w9 ⟨rfl, hb9⟩)))
  have hbw : Below W1.heap.size W1 w9 := by assumption
  have hblk9 := hblk.below hbw hlt
  have hcell0 := hblk9.cell 0
  have hcell1 := hblk9.cell 1
  have hfr0 := hblk9.frozen 0
  have hfr1 := hblk9.frozen 1
  have hEq : ((s.extract (n + 3) (n + 7)).toList == fourL (crcL (List.take (n + 3) s.data.toList)).toNat) = sum := by
    rw [← Hsum.out, ByteArray.toList_eq, bs_extract, List.drop_take, show n + 7 - (n + 3) = 4 by omega]
  rw [hEq]
  clear hEq
  cases sum
  · go_wp2_with fail
    have hB := ((hblk9.set_ 0 (.int .i64 0)).set_ 1 (.string ⟨#[]⟩))
    have hbl : Below w.heap.size w ((w9.setCell ⟨w.heap.size, 0, none⟩ (.int .i64 0)).setCell ⟨w.heap.size, 1, none⟩ (.string ⟨#[]⟩)) :=
      ((hW.trans (hbw.mono (by omega))).setCell (p := ⟨w.heap.size, 0, none⟩) (Nat.le_refl _) _).setCell (p := ⟨w.heap.size, 1, none⟩) (Nat.le_refl _) _
    have c0 := hB.cell 0
    have c1 := hB.cell 1
    clear hcell0 hcell1 hfr0 hfr1 hblk9 hB
    generalize (w9.setCell ⟨w.heap.size, 0, none⟩ (.int .i64 0)).setCell ⟨w.heap.size, 1, none⟩ (.string ⟨#[]⟩) = W2 at *
    exact bodyPost_ret (v := frV (0, [], 0, 6)) (by simp [results, Try.results51, go_sem, frV, c0, c1]) rfl ⟨rfl, hbl⟩
  · go_wp2_with fail
    go_region
    go_wp2_with fail
    have eS : s.extract 3 (n + 3) = ⟨((s.data.toList.drop 3).take n).toArray⟩ := bs_ext (by rw [bs_extract]; simp [List.drop_take])
    rw [eS]
    have hB := ((hblk9.set_ 0 (.int .i64 (s[0]'(by omega)).toNat)).set_ 1 (.string ⟨((s.data.toList.drop 3).take n).toArray⟩)).drew
    have hbl : Below w.heap.size w ((w9.setCell ⟨w.heap.size, 0, none⟩ (.int .i64 (s[0]'(by omega)).toNat)).setCell ⟨w.heap.size, 1, none⟩ (.string ⟨((s.data.toList.drop 3).take n).toArray⟩)).drew :=
      (((hW.trans (hbw.mono (by omega))).setCell (p := ⟨w.heap.size, 0, none⟩) (Nat.le_refl _) _).setCell (p := ⟨w.heap.size, 1, none⟩) (Nat.le_refl _) _).drew
    have c0 := hB.cell 0
    have c1 := hB.cell 1
    clear hcell0 hcell1 hfr0 hfr1 hblk9 hB
    generalize ((w9.setCell ⟨w.heap.size, 0, none⟩ (.int .i64 (s[0]'(by omega)).toNat)).setCell ⟨w.heap.size, 1, none⟩ (.string ⟨((s.data.toList.drop 3).take n).toArray⟩)).drew = W2 at *
    exact bodyPost_ret (v := frV ((s[0]'(by omega)).toNat, (s.data.toList.drop 3).take n, n + 7, 0)) (by simp [results, Try.results51, go_sem, frV, c0, c1]) rfl ⟨rfl, hbl⟩

theorem bs_get (s : ByteArray) (i : Nat) (h : i < s.size) : s.data.toList.getD i 0 = s[i] := by
  have h' : i < s.data.toList.length := h
  rw [List.getD_eq_getElem?_getD, List.getElem?_eq_getElem h']
  rfl
theorem fget_any (s : ByteArray) (w : World) :
    Calls Try.prog 51 #[.string s] w fun e w' => e = .returned (frV (gf s.data.toList)) ∧ Below w.heap.size w w' := by
  by_cases h7 : s.size < 7
  · rw [show gf s.data.toList = (0, [], 0, 5) by unfold gf; rw [if_pos (by rw [bs_len]; exact h7)]]
    exact fget_short s (by omega) w
  have e1 := bs_get s 1 (by omega)
  have e2 := bs_get s 2 (by omega)
  have e0 : s.data.toList.headD 0 = s[0]'(by omega) := by
    rw [← bs_get s 0 (by omega)]; cases s.data.toList <;> rfl
  unfold gf
  rw [if_neg (by rw [bs_len]; exact h7), e0, e1, e2, bs_len]
  obtain ⟨n, hn⟩ : ∃ n, n = (s[1]'(by omega)).toNat * 256 + (s[2]'(by omega)).toNat := ⟨_, rfl⟩
  rw [← hn]
  by_cases hbad : (s[0]'(by omega)).toNat = 0 ∨ 4000 < n
  · rw [if_pos hbad]
    exact fget_bad s (by omega) n hn hbad w
  rw [if_neg hbad]
  by_cases hc : s.size < n + 7
  · rw [if_pos hc]
    exact fget_cut s (by omega) n hn (by omega) (by omega) (by omega) w
  rw [if_neg hc]
  have h := fget_sum s (by omega) n hn (by omega) (by omega) (by omega) _ rfl w
  by_cases hs : (s.data.toList.drop (n + 3)).take 4 = fourL (crcL (s.data.toList.take (n + 3))).toNat
  · rw [if_neg (by simpa using hs)]
    rw [if_pos (by simpa using hs)] at h
    exact h
  · rw [if_pos hs]
    rw [if_neg (by simpa using hs)] at h
    exact h
end Go.Proofs.Ytcclcgapcnjcdaa
