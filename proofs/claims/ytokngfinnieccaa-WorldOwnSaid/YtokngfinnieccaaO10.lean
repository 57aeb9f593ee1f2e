/- Contracts of crc.table and crc.Of. A []byte that a conversion from a string has made (its row bears a mark behind its end): read, written, made a string again. Contracts of frame.four, frame.Put, frame.Get. The check sum, plainly: bit by bit, linear, and what is turned within 32 bits is told. Frames, plainly: what is put is got, whatever stands behind; cut short it is told; what is got is put as it was; what is turned within 32 bits behind the length is told. Arguments opened; what the bound on the bulk gives. Slices of parts, opened. Rows of frames; frame.Scan. Contract of frame.Scan, and of frame.Put for any frame. What hot.Read makes of a slot's frames (pure). What is read of a slot that is cut (pure). Contract of hot.Done. Contract of hot.nums. What is written into a log is read again (pure). slices.Clone of ints. What turn.Of says; plain lists, no program. What undo.Of says, and what comes between two revisions; plain lists, no program. Whose each byte is; plain lists, no program. Contract of blame.Of. -/
import Derived.Test.YtokngfinnieccaaO1
import Derived.Laws.Tables
import Derived.Laws.CopyOwn
import Derived.Lib.SmallJoins
import Derived.Test.YtokngfinnieccaaO2
import Derived.Deep.Slices
import Derived.Deep.Fields
import Derived.ChangeSame
import Derived.Test.YtokngfinnieccaaO9
import Derived.Test.YtokngfinnieccaaO7
import Derived.Test.YtokngfinnieccaaO4
import Derived.Test.YtokngfinnieccaaO6
namespace Go.Proofs.Ytokngfinnieccaa
open Go.ChangeShapes Go.WideShapes Go.RowKit
set_option linter.unusedVariables false
set_option linter.unusedSimpArgs false
set_option maxRecDepth 100000
set_option maxHeartbeats 4000000
def v32 (x : BitVec 32) : Value := .int .u32 x.toNat
def poly : BitVec 32 := 0x82f63b78#32
def stp (x : BitVec 32) : BitVec 32 := (x >>> 1) ^^^ (if x.getLsbD 0 then poly else 0#32)
def stps : Nat → BitVec 32 → BitVec 32
 | 0, x => x
 | n + 1, x => stp (stps n x)
def tabN (i : Nat) : BitVec 32 := stps 8 (BitVec.ofNat 32 i)
def tcells (k : Nat) : Array Value := Array.ofFn (n := 256) fun i => if i.val < k then v32 (tabN i.val) else v32 0#32
theorem b_xor (a b : Int) : bits BinOp.xor IntKind.u32 a b = ((BitVec.ofInt 32 a ^^^ BitVec.ofInt 32 b).toNat : Int) := by
 show IntKind.u32.wrap _ = _
 exact IntWalk.u32_in _ ⟨by omega, by have := (BitVec.ofInt 32 a ^^^ BitVec.ofInt 32 b).isLt; show ((BitVec.ofInt 32 a ^^^ BitVec.ofInt 32 b).toNat : Int) ≤ _; omega⟩
theorem b_and (a b : Int) : bits BinOp.and IntKind.u32 a b = ((BitVec.ofInt 32 a &&& BitVec.ofInt 32 b).toNat : Int) := by
 show IntKind.u32.wrap _ = _
 exact IntWalk.u32_in _ ⟨by omega, by have := (BitVec.ofInt 32 a &&& BitVec.ofInt 32 b).isLt; show ((BitVec.ofInt 32 a &&& BitVec.ofInt 32 b).toNat : Int) ≤ _; omega⟩
theorem ofInt_toNat (x : BitVec 32) : BitVec.ofInt 32 (x.toNat : Int) = x := by
 rw [BitVec.ofInt_natCast]; simp
theorem and_one (x : BitVec 32) : x &&& 1#32 = if x.getLsbD 0 then 1#32 else 0#32 := by
 ext i hi
 by_cases h0 : i = 0
 · subst h0; cases hx : x.getLsbD 0 <;> simp_all
 · have : (1#32 : BitVec 32)[i] = false := by
    rw [← BitVec.getLsbD_eq_getElem, BitVec.getLsbD_one]; simp; omega
   cases hx : x.getLsbD 0 <;> simp [this]
theorem stp_eq (x : BitVec 32) : bits BinOp.xor IntKind.u32 ((x.toNat : Int) / 2) (bits BinOp.and IntKind.u32 (-bits BinOp.and IntKind.u32 (x.toNat : Int) 1 % 4294967296) 2197175160) = ((stp x).toNat : Int) := by
 have e1 : BitVec.ofInt 32 ((x.toNat : Int) / 2) = x >>> 1 := by
  rw [show (x.toNat : Int) / 2 = ((x.toNat / 2 : Nat) : Int) by omega, BitVec.ofInt_natCast]
  apply BitVec.eq_of_toNat_eq
  rw [BitVec.toNat_ushiftRight, BitVec.toNat_ofNat, Nat.shiftRight_eq_div_pow]
  have := x.isLt
  omega
 rw [b_xor, b_and, b_and, e1]
 simp only [ofInt_toNat]
 rw [show BitVec.ofInt 32 1 = 1#32 from rfl, and_one]
 unfold stp
 cases x.getLsbD 0
 · exact congrArg (fun y : BitVec 32 => ((x >>> 1 ^^^ y).toNat : Int)) (by decide)
 · exact congrArg (fun y : BitVec 32 => ((x >>> 1 ^^^ y).toNat : Int)) (by decide)
theorem tcells_size (k : Nat) : (tcells k).size = 256 := by simp [tcells]
theorem tcells_one (k : Nat) : (tcells k).all (·.oneCell') = true := by
 rw [Array.all_eq_true]
 intro i hi
 simp only [tcells, Array.getElem_ofFn]
 split <;> rfl
theorem tcells_set (k : Nat) (hk : k < 256) : (tcells k).setIfInBounds k (v32 (tabN k)) = tcells (k + 1) := by
 apply Array.ext
 · simp [tcells]
 · intro i h1 h2
   rw [Array.getElem_setIfInBounds (by simpa [tcells] using h1)]
   simp only [tcells, Array.getElem_ofFn]
   by_cases h : k = i
   · subst h; simp
   · rw [if_neg h]
     by_cases h3 : i < k
     · rw [if_pos h3, if_pos (by omega)]
     · rw [if_neg h3, if_neg (by omega)]
theorem zero_tab (w : World) : (zeroValue 211).run Try.prog w = .ok (.agg (tcells 0)) w := by kernel_rfl
theorem tab_info : (Try.prog.info? 211).map (·.size) = some 256 := by kernel_rfl
theorem table_any (w : World) :
 Calls Try.prog 130 #[] w fun e w' => e = .returned (.agg (tcells 256)) ∧ Below w.heap.size w w' := by
 have hz := zero_tab
 go_enter Try.func130, Try.ntmps130
 go_wp2_with fail
 go_loopw [1, 2, 3] (fun i1 x i wr => ∃ k : Nat, k ≤ 256 ∧ i = .int .i64 k ∧ wr.heap[w.heap.size]? = some (.cells (tcells k) 211 (0, 0)) ∧ Below w.heap.size w wr) (fun _ _ i _ => 256 - (intOf i).toNat)
 case atStart => exact ⟨0, by omega, rfl, heap_alloc_new _ _, (Below.refl _ _).alloc (Nat.le_refl _) _⟩
 case round =>
  obtain ⟨k, hk, rfl, hh, hb⟩ := hrel
  by_cases hlt : k < 256
  · have hcell : wr.cell? ⟨w.heap.size, k, none⟩ = some (v32 0#32) := by
     rw [cell_of_row _ _ k _ _ _ hh]; simp [tcells, hlt]
    have hfr : wr.frozen? ⟨w.heap.size, k, none⟩ = false := frozen_of_row _ _ k _ _ hh
    have Hh := Lib.hid hh
    clear hh
    go_wp2_with fail
    go_loop [2, 8] (fun x j => ∃ n : Nat, n ≤ 8 ∧ j = .int .i64 n ∧ x = .int .u32 (stps n (BitVec.ofNat 32 k)).toNat) (fun _ j => 8 - (intOf j).toNat)
    case atStart => exact ⟨0, by omega, rfl, by simp [stps]; omega⟩
    case round =>
     obtain ⟨n, hn, rfl, rfl⟩ := hrel
     have hb32 := (stps n (BitVec.ofNat 32 k)).isLt
     by_cases hlt2 : n < 8
     · go_wp2_with fail
       go_round
       case rel => exact ⟨n + 1, by omega, by go_num, by rw [stp_eq]; rfl⟩
       case measure => simp [intOf]; omega
     · obtain rfl : n = 8 := by omega
       go_wp2_with fail
       go_roundw
       case rel => exact ⟨k + 1, by omega, by go_num, by
        rw [heap_setCell_same _ _ _ _ _ _ Hh.out]
        rw [show Value.int IntKind.u32 ((stps 8 (BitVec.ofNat 32 k)).toNat : Int) = v32 (tabN k) from rfl, tcells_set k hlt], hb.setCell (p := ⟨w.heap.size, k, none⟩) (Nat.le_refl _) _⟩
       case measure => simp [intOf]; omega
  · obtain rfl : k = 256 := by omega
    go_wp2_with (first | (refine wpList_load_row rfl 211 _ rfl w.heap.size rfl 211 (tcells 256) (0, 0) _ hh Try.underlying211 rfl (by rw [tcells_size]; exact tab_info) ?_) | (refine wpList_store_row rfl 211 _ _ rfl w.heap.size (tcells 256) rfl rfl 211 (tcells 256) hh (by rw [tcells_size]; exact tab_info) rfl (tcells_one _) ?_))
    have h2 := setRow_heap wr w.heap.size (tcells 256) (tcells 256) _ _ hh
    exact bodyPost_ret (v := .agg (tcells 256)) (results_cell_row rfl _ _ w.heap.size 211 (tcells 256) (0, 0) _ rfl h2 Try.underlying211 rfl (by rw [tcells_size]; exact tab_info)) rfl ⟨rfl, Go.below_setRow hb (Nat.le_refl _) _⟩
def crcF (x : BitVec 32) (b : UInt8) : BitVec 32 := (x >>> 8) ^^^ tabN ((x.toNat % 256) ^^^ b.toNat)
def crcL (l : List UInt8) : BitVec 32 := ~~~ (l.foldl crcF (~~~ 0#32))
theorem xor_lt8 (a b : Nat) (ha : a < 256) (hb : b < 256) : a ^^^ b < 256 := Nat.xor_lt_two_pow (n := 8) ha hb
theorem b_xor8 (a b : Nat) (ha : a < 256) (hb : b < 256) : bits BinOp.xor IntKind.u8 (a : Int) (b : Int) = ((a ^^^ b : Nat) : Int) := by
 have h := xor_lt8 a b ha hb
 show IntKind.u8.wrap _ = _
 rw [show IntKind.u8.bits = 8 from rfl, BitVec.ofInt_natCast, BitVec.ofInt_natCast, BitVec.toNat_xor, BitVec.toNat_ofNat, BitVec.toNat_ofNat, Nat.mod_eq_of_lt (by omega), Nat.mod_eq_of_lt (by omega)]
 exact IntWalk.u8_in _ ⟨by omega, by omega⟩
theorem of_step (X : BitVec 32) (b : UInt8) (J : Nat) (hJ : J = (X.toNat % 256) ^^^ b.toNat) : bits BinOp.xor IntKind.u32 ((X.toNat : Int) / 256) ((tabN J).toNat : Int) = ((crcF X b).toNat : Int) := by
 have e1 : BitVec.ofInt 32 ((X.toNat : Int) / 256) = X >>> 8 := by
  rw [show (X.toNat : Int) / 256 = ((X.toNat / 256 : Nat) : Int) by omega, BitVec.ofInt_natCast]
  apply BitVec.eq_of_toNat_eq
  rw [BitVec.toNat_ushiftRight, BitVec.toNat_ofNat, Nat.shiftRight_eq_div_pow]
  have := X.isLt
  omega
 rw [b_xor, e1, ofInt_toNat, hJ]
 rfl
theorem of_any (s : ByteArray) (w : World) (hs : s.size ≤ 9223372036854775807) :
 Calls Try.prog 124 #[.string s] w fun e w' => e = .returned (.int .u32 (crcL s.data.toList).toNat) ∧ Below w.heap.size w w' := by
 have hz := zero_tab
 go_enter Try.func124, Try.ntmps124
 go_wp2_with fail
 refine (table_any _).mono ?_
 rintro e w1 ⟨rfl, hb1⟩
 have hn1 := heap_alloc_new w1 (.cells (tcells 0) 211)
 have hB1 := hb1.size
 go_wp2_with (first | (refine wpList_store_row rfl 211 _ _ rfl w1.heap.size (tcells 256) rfl rfl 211 (tcells 0) hn1 (by rw [tcells_size]; exact tab_info) (by rw [tcells_size, tcells_size]) (tcells_one _) ?_))
 have h2 := setRow_heap (w1.alloc (.cells (tcells 0) 211)) w1.heap.size (tcells 0) (tcells 256) _ _ hn1
 have hb2 : Below w.heap.size w ((w1.alloc (.cells (tcells 0) 211)).setRow w1.heap.size (tcells 256)) := Go.below_setRow (hb1.alloc hb1.size _) hb1.size _
 clear hz hn1
 generalize (w1.alloc (.cells (tcells 0) 211)).setRow w1.heap.size (tcells 256) = w2 at *
 have hcells : ∀ j, j < 256 → w2.cell? ⟨w1.heap.size, j, none⟩ = some (.int .u32 (tabN j).toNat) := by
  intro j hj
  rw [cell_of_row _ _ j _ _ _ h2]; simp [tcells, hj, v32]
 have Hcells := Lib.hid hcells
 clear hcells h2
 go_loop [4, 9] (fun x i => ∃ (k : Nat) (X : BitVec 32), k ≤ s.size ∧ i = .int .i64 k ∧ x = .int .u32 X.toNat ∧ Hid (~~~ ((s.data.toList.drop k).foldl crcF X) = crcL s.data.toList)) (fun _ i => s.size - (intOf i).toNat)
 case atStart => exact ⟨0, ~~~ 0#32, by omega, rfl, rfl, Lib.hid rfl⟩
 case round =>
  obtain ⟨k, X, hk, rfl, rfl, hX⟩ := hrel
  have hX32 := X.isLt
  by_cases hlt : k < s.size
  · have hc8 : (s[k].toNat : Int) < 256 := by have := s[k].toNat_lt; omega
    obtain ⟨J, hJ⟩ : ∃ J, J = (X.toNat % 256) ^^^ s[k].toNat := ⟨_, rfl⟩
    have hE : bits BinOp.xor IntKind.u8 ((X.toNat : Int) % 256) (s[k].toNat : Int) = (J : Int) := by
     rw [show ((X.toNat : Int) % 256) = ((X.toNat % 256 : Nat) : Int) by omega, b_xor8 _ _ (by omega) s[k].toNat_lt, hJ]
    have hJ8 : J < 256 := by rw [hJ]; exact xor_lt8 _ _ (by omega) s[k].toNat_lt
    have HJ := Lib.hid hJ
    clear hJ
    have hcell := Hcells.out J hJ8
    go_wp2_with fail
    go_round
    case rel => exact ⟨k + 1, crcF X s[k], by omega, by go_num, by rw [of_step X s[k] J HJ.out], by
     rw [← hX.out]
     conv => rhs; rw [List.drop_eq_getElem_cons (show k < s.data.toList.length by rw [bs_len]; omega), List.foldl_cons]
     exact Lib.hid rfl⟩
    case measure => simp [intOf]; omega
  · obtain rfl : k = s.size := by omega
    have hE : Hid (~~~ X = crcL s.data.toList) := by
     rw [← hX.out, List.drop_eq_nil_of_le (by rw [bs_len]; omega)]; exact Lib.hid rfl
    go_wp2_with fail
    go_ret
    refine ⟨?_, hb2⟩
    rw [← hE.out]
    show Ending.returned (.int .u32 (bits BinOp.xor IntKind.u32 IntKind.u32.max (X.toNat : Int))) = _
    rw [b_xor, ofInt_toNat, show BitVec.ofInt 32 IntKind.u32.max = BitVec.allOnes 32 from by decide, BitVec.allOnes_xor]
def RowU8 (w : World) (g : Nat) (l : List UInt8) : Prop :=
 ∃ cs fr, w.heap[g]? = some (.cells cs 5 fr) ∧ l.length ≤ cs.size ∧ cs.toList.take l.length = l.map u8v ∧ ∀ j, j < l.length → ¬ (fr.1 ≤ j ∧ j < fr.2)
section
variable {w w' : World} {g : Nat} {l : List UInt8}
theorem RowU8.cell (h : RowU8 w g l) (j : Nat) (hj : j < l.length) : w.cell? ⟨g, j, none⟩ = some (.int .u8 (l[j].toNat : Int)) := by
 obtain ⟨cs, fr, hh, hl, htk, hf⟩ := h
 rw [cell_of_row _ _ j _ _ _ hh]
 have e : (l.map u8v)[j]? = some (.int .u8 (l[j].toNat : Int)) := by simp [hj, u8v]
 rw [← htk, List.getElem?_take, if_pos hj] at e
 simpa using e
theorem RowU8.string (h : RowU8 w g l) (cap : Nat) : (convert 153 9 (.slice (some ⟨g, 0, none⟩) l.length cap)).run Try.prog w = .ok (.string ⟨l.toArray⟩) w :=
 run_convert_bytes_back w _ _ 5 _ _ l Try.underlying153 Try.underlying5 Try.underlying9 fun j hj => by rw [add0]; exact h.cell j hj
theorem run_string_new (w : World) (cs : Array Value) (l : List UInt8) (hc : cs.toList = l.map u8v) (n cap : Nat) (hn : n = l.length) (g : Nat) (hg : w.heap.size = g) :
 (convert 153 9 (.slice (some ⟨g, 0, none⟩) n cap)).run Try.prog (w.alloc (.cells cs 5)) = .ok (.string ⟨l.toArray⟩) (w.alloc (.cells cs 5)) := by
 subst hn hg
 have hl : cs.toList.length = l.length := by rw [hc]; simp
 have h : RowU8 (w.alloc (.cells cs 5)) w.heap.size l := ⟨cs, (0, 0), heap_alloc_new w _, by simpa using Nat.le_of_eq hl.symm, by rw [← hl, List.take_length, hc], by intro j hj; omega⟩
 exact h.string cap
end
def fourL (x : Nat) : List UInt8 := [UInt8.ofNat x, UInt8.ofNat (x / 256), UInt8.ofNat (x / 65536), UInt8.ofNat (x / 16777216)]
theorem mod_of (x : Nat) : (UInt8.ofNat x).toNat = x % 256 := by simp [UInt8.toNat_ofNat']
theorem four_any (x : Nat) (hx : (x : Int) < 4294967296) (w : World) :
 Calls Try.prog 123 #[.int .u32 x] w fun e w' => e = .returned (.string ⟨(fourL x).toArray⟩) ∧ Below w.heap.size w w' := by
 have hcv := run_string_new w #[.int .u8 ((x : Int) % 256), .int .u8 ((x : Int) / 256 % 256), .int .u8 ((x : Int) / 65536 % 256), .int .u8 ((x : Int) / 16777216)] (fourL x)
  (by simp [fourL, u8v, mod_of]; omega) 4 4 rfl _ rfl
 go_enter Try.func123, Try.ntmps123
 go_wp2_with fail
 go_ret
 exact ⟨rfl, (Below.refl _ _).alloc (Nat.le_refl _) _⟩
def frH (k : Nat) (b : List UInt8) : List UInt8 := UInt8.ofNat k :: UInt8.ofNat (b.length / 256) :: UInt8.ofNat b.length :: b
def frL (k : Nat) (b : List UInt8) : List UInt8 := frH k b ++ fourL (crcL (frH k b)).toNat
theorem fput_good (k : Nat) (b : ByteArray) (h1 : (1 : Int) ≤ k) (h2 : (k : Int) ≤ 255) (h3 : (b.size : Int) ≤ 4000) (w : World) :
 Calls Try.prog 111 #[.agg #[.int .i64 k, .string b]] w fun e w' => e = .returned (.tuple #[.string ⟨(frL k b.data.toList).toArray⟩, .int .i64 0]) ∧ Below w.heap.size w w' := by
 have hcv := run_string_new (w.alloc (.cells #[.int .i64 k, .string b] 182)) #[.int .u8 (k : Int), .int .u8 ((b.size : Int) / 256), .int .u8 ((b.size : Int) % 256)] [UInt8.ofNat k, UInt8.ofNat (b.size / 256), UInt8.ofNat b.size]
  (by simp [u8v, mod_of]; omega) 3 3 rfl (w.heap.size + 1) (by simp)
 go_enter Try.func111, Try.ntmps111
 go_wp2_with fail
 have e1 : (⟨#[UInt8.ofNat k, UInt8.ofNat (b.size / 256), UInt8.ofNat b.size]⟩ ++ b : ByteArray) = ⟨(frH k b.data.toList).toArray⟩ := bs_ext (by rw [bs_append]; rfl)
 rw [e1]
 have hsz : (⟨(frH k b.data.toList).toArray⟩ : ByteArray).size ≤ 9223372036854775807 := by rw [bs_size]; simp only [frH, List.length_cons, bs_len]; omega
 refine (of_any _ _ hsz).mono ?_
 rintro e w1 ⟨rfl, hb1⟩
 have hb2 : Below w.heap.size w w1 := (((Below.refl w.heap.size w).alloc (Nat.le_refl _) _).alloc (by simp) _).trans (hb1.mono (by simp; omega))
 clear hb1 hcv e1
 go_wp2_with fail
 refine (four_any _ (by have := (crcL (frH k b.data.toList)).isLt; omega) _).mono ?_
 rintro e w2 ⟨rfl, hb3⟩
 have hs2 : (⟨(fourL (crcL (frH k b.data.toList)).toNat).toArray⟩ : ByteArray).size ≤ 4 := by rw [bs_size]; simp [fourL]
 have hs1 : (⟨(frH k b.data.toList).toArray⟩ : ByteArray).size ≤ 4003 := by rw [bs_size]; simp only [frH, List.length_cons, bs_len]; omega
 go_wp2_with fail
 go_ret2
 refine ⟨?_, hb2.trans (hb3.mono hb2.size)⟩
 have e2 : (⟨(frH k b.data.toList).toArray⟩ ++ ⟨(fourL (crcL (frH k b.data.toList)).toNat).toArray⟩ : ByteArray) = ⟨(frL k b.data.toList).toArray⟩ := bs_ext (by rw [bs_append]; simp [frL])
 rw [← e2]
 rfl
end Go.Proofs.Ytokngfinnieccaa
namespace Go.Proofs.Ytokngfinnieccaa
set_option linter.unusedVariables false
set_option linter.unusedSimpArgs false
set_option maxRecDepth 100000
set_option maxHeartbeats 4000000
def kb (x : BitVec 32) (D : Nat) : Nat → BitVec 32
 | 0 => x
 | n + 1 => kb (stp (x ^^^ BitVec.ofNat 32 (D % 2))) (D / 2) n
theorem fourL_len (x : Nat) : (fourL x).length = 4 := rfl
theorem frH_len (k : Nat) (b : List UInt8) : (frH k b).length = b.length + 3 := by simp [frH]
theorem frL_len (k : Nat) (b : List UInt8) : (frL k b).length = b.length + 7 := by
 rw [frL, List.length_append, frH_len, fourL_len]
theorem frL_zero : frL 3 [] = [3, 0, 0, 9, 99, 74, 138] := by decide +kernel
end Go.Proofs.Ytokngfinnieccaa
namespace Go.Proofs.Ytokngfinnieccaa
open Go.ChangeShapes Go.WideShapes Go.RowKit Go.Joins
set_option linter.unusedVariables false
set_option linter.unusedSimpArgs false
set_option maxRecDepth 100000
set_option maxHeartbeats 4000000
theorem sized_part {H : Type} {P : Program} {ts : List TypeId} {ds : List (DataW H)} (h : (DataW.weightsEach P ts ds).all (· ≤ reachBytes) = true) {j : Nat} {t : TypeId} {d : DataW H} (ht : ts[j]? = some t) (hd : ds[j]? = some d) : ∀ x ∈ DataW.weights P t d, x ≤ 140737488351232 := by
 intro x hx
 have := List.all_eq_true.1 h _ (DataW.weights_mem_each ht hd x hx)
 have h2 : x ≤ reachBytes := by simpa using this
 have h3 : reachBytes = 140737488351232 := by decide
 omega
section
variable {H : Type} {enc : TypeId × Value → H} {w : World} {base : Nat} {spare : Nat → Bool} {held : Bool}
end
end Go.Proofs.Ytokngfinnieccaa
namespace Go.Proofs.Ytokngfinnieccaa
open Go.ChangeShapes Go.WideShapes Go.RowKit Go.Joins Go.Deep
set_option linter.unusedVariables false
set_option linter.unusedSimpArgs false
set_option maxRecDepth 100000
set_option maxHeartbeats 4000000
section
variable {H : Type} {enc : TypeId × Value → H} {P : Program} {w : World} {base : Nat} {spare : Nat → Bool} {held : Bool}
theorem open_slice_fields {t e : TypeId} {fs : Array Field} {fuel : Nat} {cs : List Value} {x : DataW H × List MemPlace} (ht : P.underlying t = some (.slice e)) (he : P.underlying e = some (.struct fs))
 (hone : oneCellFields P fs = true) (hC : P.cellsOf e = fs.size) (h : DataW.trod enc P w base spare held fuel t cs = some x) :
 (cs = [.slice none 0 0] ∧ x = (.nil, [])) ∨
 ∃ (a : Addr) (len cap m : Nat) (D : Nat → DataW H) (Pl : Nat → List MemPlace), cs = [.slice (some a) len cap] ∧ base ≤ a.block ∧ len ≤ cap ∧ cap ≤ maxLen ∧ m = (if spare a.block then cap else len) ∧
   x = (.slice ((List.range len).map D) ((List.range (m - len)).map fun j => D (len + j)), MemPlace.row a (m * fs.size) ++ (List.range m).flatMap Pl) ∧
   ∀ i, i < m → ∃ (ys : List (DataW H × List MemPlace)) (n : Nat), D i = .agg (ys.map (·.1)) ∧ Pl i = ys.flatMap (·.2) ∧ ys.length = fs.size ∧
     ∀ (j : Nat) (f : Field), fs[j]? = some f → ∃ (v : Value) (y : DataW H × List MemPlace), w.cell? (a.add (i * fs.size + j)) = some v ∧ ys[j]? = some y ∧ DataW.trod enc P w base spare held n f.type [v] = some y := by
 rcases open_slice ht h with h0 | ⟨a, len, cap, m, n, D, Pl, hcs, hb, hl, hm, hmm, hx, hi⟩
 · exact .inl h0
 · refine .inr ⟨a, len, cap, m, D, Pl, hcs, hb, hl, hm, hmm, by rw [hC] at hx; exact hx, fun i him => ?_⟩
   obtain ⟨cs', hc, ht'⟩ := hi i him
   rw [hC] at hc
   obtain ⟨ys, n', hn', hy, hlen, hyl, hf⟩ := DataW.trod_struct he ht'
   obtain ⟨_, hcl, hat⟩ := World.cells?_some hc
   simp only [Prod.mk.injEq] at hy
   refine ⟨ys, n', hy.1, hy.2, hyl, fun j f hj => ?_⟩
   obtain ⟨ho, hk⟩ := hone_of hone j f hj
   have hjl : j < fs.size := (Array.getElem?_eq_some_iff.1 hj).1
   have hcell := hat j hjl
   have hv : cs'[j]? = some (cs'[j]'(by omega)) := List.getElem?_eq_getElem (by omega)
   have h1 := hf j f hj
   rw [ho, hk] at h1
   have hone' : (cs'.drop j).take 1 = [cs'[j]'(by omega)] := by
    rw [List.drop_eq_getElem_cons (by omega)]
    rfl
   rw [hone'] at h1
   have hys : ys[j]? = some (ys[j]'(by omega)) := List.getElem?_eq_getElem (by omega)
   refine ⟨_, _, ?_, hys, h1.trans hys⟩
   rw [← Go.Deep.add_add, hcell, hv]
theorem weights_all_mem {e : TypeId} {d : DataW H} {n : Nat} (hn : n ∈ d.weights P e) : ∀ {l : List (DataW H)}, d ∈ l → n ∈ DataW.weightsAll P e l
 | x :: r, h => by
   simp only [DataW.weightsAll, List.mem_append]
   rcases List.mem_cons.1 h with rfl | h
   · exact .inl hn
   · exact .inr (weights_all_mem hn h)
end
def IsParts (w : World) (v : Value) (l : List Pt) : Prop := ∃ A n c, v = .slice A n c ∧ RdP w w.heap.size A n c l
section
variable {H : Type} {enc : TypeId × Value → H} {w : World} {base : Nat} {spare : Nat → Bool} {held : Bool}
theorem pick_lt {α : Type} {p : Nat → α → Prop} (d : α) {n : Nat} (h : ∀ i, i < n → ∃ x, p i x) : ∃ l : List α, l.length = n ∧ ∀ i (hi : i < l.length), p i l[i] := by
 induction n with
 | zero => exact ⟨[], rfl, fun i hi => absurd hi (by simp)⟩
 | succ n ih =>
   obtain ⟨l, hl, hp⟩ := ih fun i hi => h i (by omega)
   obtain ⟨x, hx⟩ := h n (by omega)
   refine ⟨l ++ [x], by simp [hl], fun i hi => ?_⟩
   rw [List.length_append, List.length_singleton] at hi
   rcases Nat.lt_or_ge i l.length with h1 | h1
   · rw [List.getElem_append_left h1]; exact hp i h1
   · obtain rfl : i = n := by omega
     rw [List.getElem_append_right (by omega)]
     simpa [hl] using hx
theorem read_parts {fuel : Nat} {v : Value} {x : DataW H × List MemPlace} (h : DataW.trod enc Try.prog w base spare held fuel 25 [v] = some x) (hb : ∀ n ∈ DataW.weights Try.prog 25 x.1, n ≤ 140737488351232) : ∃ l, IsParts w v l := by
 rcases open_slice_fields Try.underlying25 Try.underlying88 (by kernel_rfl) (by kernel_rfl) h with ⟨hc, _⟩ | ⟨a, len, cap, m, D, Pl, hc, _, h1, h2, h3, hx, h4⟩
 · simp only [List.cons.injEq, and_true] at hc
   exact ⟨[], _, _, _, hc, rfl, Rd.nil _ _ _, by simp⟩
 · simp only [List.cons.injEq, and_true] at hc
   have hl : len ≤ m := by rw [h3]; split <;> omega
   subst hx
   have h5 : ∀ i, i < len → ∃ p : Pt, w.cell? (a.add (i * 3)) = some (.int .i64 p.1) ∧ w.cell? (a.add (i * 3 + 1)) = some (.int .i64 p.2.1) ∧ w.cell? (a.add (i * 3 + 2)) = some (.string p.2.2) ∧ p.2.2.size ≤ 140737488351232 := by
    intro i hi
    obtain ⟨ys, n, hD, _, hyl, hf⟩ := h4 i (by omega)
    obtain ⟨v0, y0, c0, e0, t0⟩ := hf 0 _ rfl
    obtain ⟨v1, y1, c1, e1, t1⟩ := hf 1 _ rfl
    obtain ⟨v2, y2, c2, e2, t2⟩ := hf 2 _ rfl
    obtain ⟨k0, z0, rfl, _⟩ := DataW.trod_int Try.underlying3 t0
    obtain ⟨k1, z1, rfl, _⟩ := DataW.trod_int Try.underlying3 t1
    obtain ⟨s, z2, rfl, _⟩ := DataW.trod_string Try.underlying9 t2
    simp only [List.cons.injEq, and_true] at z0 z1 z2
    subst z0 z1 z2
    refine ⟨(k0, k1, s), c0, c1, c2, ?_⟩
    match ys, hyl with
    | [a0, a1, a2], _ =>
      simp only [List.getElem?_cons_zero, List.getElem?_cons_succ, Option.some.injEq] at e0 e1 e2
      subst e0 e1 e2
      have hmem : s.size ∈ DataW.weights Try.prog 88 (D i) := by
       rw [hD]
       simp [DataW.weights, DataW.weightsEach, Try.underlying88]
      refine hb _ ?_
      simp only [DataW.weights, Try.underlying25, List.mem_cons, List.mem_append]
      exact .inr (.inl (weights_all_mem hmem (List.mem_map.2 ⟨i, List.mem_range.2 hi, rfl⟩)))
   obtain ⟨l, hll, hp⟩ := pick_lt ((0, 0, emp) : Pt) h5
   refine ⟨l, _, len, cap, hc, hll.symm, rd_of (by omega) h1 h2 (by rw [pc_len, hll]) fun j u hj => ?_, fun p hp' => ?_⟩
   · have hjl : j < l.length * 3 := by
      rcases Nat.lt_or_ge j (pc l).length with hlt | hge
      · rw [pc_len] at hlt; exact hlt
      · rw [List.getElem?_eq_none hge] at hj; cases hj
     obtain ⟨q0, q1, q2⟩ := pc_at l (j / 3) (by omega)
     obtain ⟨b0, b1, b2, _⟩ := hp (j / 3) (by omega)
     have e : j = j / 3 * 3 + j % 3 := by omega
     rcases (show j % 3 = 0 ∨ j % 3 = 1 ∨ j % 3 = 2 by omega) with h | h | h
     · rw [e, h, Nat.add_zero] at hj ⊢; rw [q0] at hj; rw [b0]; exact hj
     · rw [e, h] at hj ⊢; rw [q1] at hj; rw [b1]; exact hj
     · rw [e, h] at hj ⊢; rw [q2] at hj; rw [b2]; exact hj
   · obtain ⟨i, hi, rfl⟩ := List.getElem_of_mem hp'
     exact (hp i hi).2.2.2
end
abbrev Fm := Int × ByteArray
section
variable {w w' : World} {B B' n c : Nat} {A : Option Addr} {l : List Fm}
end
def okF (p : Fm) : Prop := 1 ≤ p.1 ∧ p.1 ≤ 255 ∧ p.2.size ≤ 4000
instance (p : Fm) : Decidable (okF p) := by unfold okF; infer_instance
def txF (p : Fm) : List UInt8 := frL p.1.toNat p.2.data.toList
def flat : List Fm → List UInt8
 | [] => []
 | p :: l => txF p ++ flat l
theorem flat_app (l l' : List Fm) : flat (l ++ l') = flat l ++ flat l' := by
 induction l with
 | nil => rfl
 | cons p l ih => simp only [List.cons_append, flat, ih, List.append_assoc]
theorem txF_len (p : Fm) : (txF p).length = p.2.size + 7 := by unfold txF; rw [frL_len]; rfl
theorem put_okF (p : Fm) (h : okF p) (w : World) : Calls Try.prog 111 #[.agg #[.int .i64 p.1, .string p.2]] w fun e w' => e = .returned (.tuple #[.string ⟨(txF p).toArray⟩, .int .i64 0]) ∧ Below w.heap.size w w' := by
 obtain ⟨h1, h2, h3⟩ := h
 have := fput_good p.1.toNat p.2 (by omega) (by omega) (by omega) w
 rw [show ((p.1.toNat : Nat) : Int) = p.1 by omega] at this
 exact this
end Go.Proofs.Ytokngfinnieccaa
namespace Go.Proofs.Ytokngfinnieccaa
set_option linter.unusedVariables false
set_option linter.unusedSimpArgs false
set_option maxRecDepth 100000
set_option maxHeartbeats 4000000
structure Rd_ (l : Lg) (t : ByteArray) : Prop where
 l8 : Lg8 l
 base0 : 0 ≤ l.base
 base1 : l.base ≤ 2147483647
 len : l.revs.length ≤ 64
 txt : t.size ≤ 500
theorem next_len {l : Lg} {n : Nat} {r : Rv} (h : nextE l n r = 0) : oneE r = 0 ∧ (l.table.getD r.1.toNat (0, 0)).1 < r.2.1 ∧ l.revs.length < 64 ∧ l.base + l.revs.length < 2147483647 ∧ fitsE r.2.2 n = 0 := by
 unfold nextE at h
 split at h
 · rename_i h1; exact absurd h h1
 · rename_i h1
   split at h
   · exact absurd h (by decide)
   · rename_i h2
     split at h
     · exact absurd h (by decide)
     · rename_i h3
       exact ⟨by simpa using h1, by omega, by omega, by omega, h⟩

end Go.Proofs.Ytokngfinnieccaa
namespace Go.Proofs.Ytokngfinnieccaa
open Go.ChangeShapes Go.WideShapes Go.RowKit
set_option linter.unusedVariables false
set_option linter.unusedSimpArgs false
set_option maxRecDepth 100000
set_option maxHeartbeats 4000000
def doneT : ByteArray := ⟨#[3, 0, 0, 9, 99, 74, 138]⟩
theorem doneT_tx : doneT.data.toList = txF (3, ⟨#[]⟩) := by
 have := frL_zero
 unfold txF
 exact this.symm
theorem hdone_any (w : World) : Calls Try.prog 83 #[] w fun e w' => e = .returned (.string doneT) ∧ Below w.heap.size w w' := by
 have hc := put_okF (3, ⟨#[]⟩) (by decide) w
 rw [← doneT_tx] at hc
 have hc2 : Calls Try.prog 111 #[.agg #[.int .i64 3, .string ⟨#[]⟩]] w fun e w' => e = .returned (.tuple #[.string doneT, .int .i64 0]) ∧ Below w.heap.size w w' := hc
 clear hc
 obtain ⟨D, hD⟩ : ∃ D, doneT = D := ⟨_, rfl⟩
 rw [hD] at hc2 ⊢
 go_enter Try.func83, Try.ntmps83
 go_wp2_with fail
 refine hc2.mono ?_
 rintro e w1 ⟨rfl, hb⟩
 go_wp2_with fail
 go_ret
 exact ⟨rfl, hb⟩
def viC (ns : List Nat) : List UInt8 := ns.flatMap vi
theorem nums_good (ns : List Nat) (A : Option Addr) (n c : Nat) (w : World) (h : RdI w w.heap.size A n c (ns.map Int.ofNat)) (hle : ∀ x ∈ ns, x ≤ 2147483647) (hn : ns.length ≤ 100) (S : ByteArray) (hS : S.data.toList = viC ns) :
 Calls Try.prog 109 #[.slice A n c] w fun e w' => e = .returned (.tuple #[.string S, .bool true]) ∧ Below w.heap.size w w' := by
 have H := Lib.hid h
 have Hle := Lib.hid hle
 have HS := Lib.hid hS
 have hnl : n = ns.length := by have := h.1; simpa using this
 have Hnl := Lib.hid hnl
 have hn100 : n ≤ 100 := by omega
 clear h hle hS hnl hn
 go_enter Try.func109, Try.ntmps109
 go_wp2_with fail
 go_loopw [4, 6, 7, 8, 11] (fun ov nv sv ev iv wr => ∃ (k : Nat) (T : ByteArray), k ≤ n ∧ iv = .int .i64 k ∧ ov = .string T ∧ T.size ≤ 5 * k ∧ Hid (T.data.toList = viC (ns.take k)) ∧ Hid (Below w.heap.size w wr)) (fun _ _ _ _ iv _ => n - (intOf iv).toNat)
 case atStart => exact ⟨0, ⟨#[]⟩, by omega, rfl, rfl, Nat.zero_le _, Lib.hid rfl, Lib.hid (Below.refl _ _)⟩
 case round =>
  obtain ⟨k, T, hk, rfl, rfl, hT5, hT, hbw⟩ := hrel
  by_cases hlt : k < n
  · have hkl : k < ns.length := by have := Hnl.out; omega
    obtain ⟨b, o, rfl, hb, hc⟩ := (H.out.below hbw.out).at_ k hlt
    simp only [List.getElem_map, Int.ofNat_eq_natCast] at hc
    obtain ⟨x, hx⟩ : ∃ x, ns[k] = x := ⟨_, rfl⟩
    have hxm : x ≤ 2147483647 := by rw [← hx]; exact Hle.out _ (List.getElem_mem hkl)
    rw [hx] at hc
    have hk0 : (0 : Int) ≤ (k : Int) := by omega
    have hkn : (k : Int) < (n : Int) := by omega
    have hgl : b < wr.heap.size := by have := hbw.out.size; omega
    obtain ⟨z, hz⟩ : ∃ z, (⟨(vi x).toArray⟩ : ByteArray) = z := ⟨_, rfl⟩
    obtain ⟨hz5, hzl⟩ := vi_size x z hz hxm
    have hcall := put_good x wr (by omega)
    rw [hz] at hcall
    have Hcall := Lib.hid hcall
    have hT2 : (T ++ z).data.toList = viC (ns.take (k + 1)) := by
     rw [bs_append, hT.out, hzl, List.take_succ_eq_append_getElem hkl, hx]
     simp [viC]
    have HT2 := Lib.hid hT2
    have hsz : (9223372036854775807 < T.size + z.size) = False := by simp; omega
    have hsz2 : (T ++ z).size ≤ 5 * (k + 1) := by simp; omega
    clear hcall hz hzl hT2 hx hT
    go_wp2_with fail
    refine Hcall.out.mono ?_
    rintro e w1 ⟨rfl, hb1⟩
    have hw1 := hbw.out.trans (hb1.mono hbw.out.size)
    go_wp2_with fail
    go_roundw
    case rel => exact ⟨k + 1, T ++ z, by omega, by go_num, rfl, hsz2, HT2, Lib.hid hw1⟩
    case measure => simp [intOf]; omega
  · obtain rfl : k = n := by omega
    have hTS : T = S := by
     apply ba_list
     rw [hT.out, HS.out, List.take_of_length_le (by have := Hnl.out; omega)]
    subst hTS
    go_wp2_with fail
    go_ret2
    exact ⟨rfl, hbw.out⟩
end Go.Proofs.Ytokngfinnieccaa
namespace Go.Proofs.Ytokngfinnieccaa
set_option linter.unusedVariables false
set_option linter.unusedSimpArgs false
set_option maxRecDepth 100000
set_option maxHeartbeats 4000000
theorem wrP_w (p : Pt) (h : fitE p = 0) : ((wrP p).length : Int) ≤ 3 * (szI [p] + szO [p]) := by
 obtain ⟨h1, h2, h3⟩ := (fitE_zero p).1 h
 have ht : p.2.2.data.toList.length = p.2.2.size := rfl
 unfold wrP
 rcases h1 with ⟨ha, hb, hc⟩ | ⟨ha, hb, hc⟩
 · have h2' : p.1 ≠ 2 := by omega
   rw [if_neg h2']
   have := vi_len 2 (4 * p.2.1.toNat + p.1.toNat) (by omega) (by omega)
   simp only [szI, szO, if_pos ha]
   split
   · omega
   · split <;> omega
 · have h2' : ¬ (p.1 = 1 ∨ p.1 = 3) := by omega
   rw [if_pos ha, List.length_append, ht]
   have := vi_len 2 (4 * p.2.2.size + 2) (by omega) (by omega)
   simp only [szI, szO, if_neg h2', if_neg (show ¬ p.1 = 1 by omega), if_neg (show ¬ p.1 = 3 by omega)]
   omega
theorem wrM_w : ∀ (l : List Pt), (∀ p ∈ l, fitE p = 0) → ((l.flatMap wrP).length : Int) ≤ 3 * (szI l + szO l)
 | [], _ => by simp [szI, szO]
 | p :: l, h => by
   have h1 := wrP_w p (h p (by simp))
   have h2 := wrM_w l fun q hq => h q (by simp [hq])
   rw [List.flatMap_cons, List.length_append]
   simp only [szI, szO] at h1 h2 ⊢
   omega
theorem wr_small {l : List Pt} (h : chk l = 0) : (wrL l).length ≤ 3010 := by
 have hg := (good_iff l).1 h
 have := wrM_w l hg.2.2.1
 have := vi_len 2 l.length (by omega) (by omega)
 unfold wrL
 rw [List.length_append]
 omega
def bodyR (r : Rv) : List UInt8 := vi r.1.toNat ++ (vi r.2.1.toNat ++ wrL r.2.2)
def frR (r : Rv) : Fm := (2, ⟨(bodyR r).toArray⟩)
theorem one_parts {r : Rv} (h : oneE r = 0) : 0 ≤ r.1 ∧ r.1 ≤ 7 ∧ 0 ≤ r.2.1 ∧ r.2.1 ≤ 2147483647 ∧ chk r.2.2 = 0 := by
 unfold oneE at h
 split at h
 · omega
 · rename_i h1; exact ⟨by omega, by omega, by omega, by omega, h⟩
theorem body_len {r : Rv} (h : oneE r = 0) : (bodyR r).length ≤ 4000 := by
 obtain ⟨h1, h2, h3, h4, h5⟩ := one_parts h
 have a := vi_len 1 r.1.toNat (by omega) (by omega)
 have b := vi_len 5 r.2.1.toNat (by omega) (by omega)
 have c := wr_small h5
 simp only [bodyR, List.length_append]
 omega
theorem frR_ok {r : Rv} (h : oneE r = 0) : okF (frR r) := ⟨by show (1 : Int) ≤ 2; decide, by show (2 : Int) ≤ 255; decide, by show (bodyR r).toArray.size ≤ 4000; rw [List.size_toArray]; exact body_len h⟩
def okRs : Lg → ByteArray → List Rv → Prop
 | _, _, [] => True
 | l, t, r :: rs => oneE r = 0 ∧ nextE l t.size r = 0 ∧ okRs { addL l r with good := l.good + (((bodyR r).length + 7 : Nat) : Int) } (doS r.2.2 t) rs
def addLs : Lg → List Rv → Lg
 | l, [] => l
 | l, r :: rs => addLs { addL l r with good := l.good + (((bodyR r).length + 7 : Nat) : Int) } rs
theorem addLs_same : ∀ (rs : List Rv) (l : Lg), (addLs l rs).gen = l.gen ∧ (addLs l rs).base = l.base ∧ (addLs l rs).text = l.text ∧ (addLs l rs).first = l.first ∧ (addLs l rs).revs = l.revs ++ rs ∧ (addLs l rs).whole = l.whole ∧ (addLs l rs).good = l.good + ((flat (rs.map frR)).length : Nat)
 | [], l => by simp [addLs, flat]
 | r :: rs, l => by
   obtain ⟨a, b, c, d, e, f, g⟩ := addLs_same rs { addL l r with good := l.good + (((bodyR r).length + 7 : Nat) : Int) }
   have hs : (frR r).2.size = (bodyR r).length := by show (bodyR r).toArray.size = _; rw [List.size_toArray]
   refine ⟨a, b, c, d, ?_, f, ?_⟩
   · simp only [addLs]; rw [e]; simp [addL]
   · simp only [addLs, List.map_cons, flat, List.length_append, txF_len]; rw [g, hs]; simp only [addL]; omega
structure Hg (l : Lg) (t : ByteArray) : Prop extends Rd_ l t where
 tx : txE l.text l.revs = 0
 now : Go.Proofs.Ytokngfinnieccaa.txt l.text l.revs l.revs.length = t
theorem txt_snoc : ∀ (l : List Rv) (s : ByteArray) (r : Rv), txt s (l ++ [r]) (l.length + 1) = doS r.2.2 (txt s l l.length)
 | [], s, r => rfl
 | q :: l, s, r => txt_snoc l _ r
def tkB (t : List (Nat × Nat)) : List UInt8 := t.flatMap fun p => vi p.1 ++ vi p.2
def headB (t : List (Nat × Nat)) (text : ByteArray) : List UInt8 := tkB t ++ text.data.toList
theorem tkB_len : ∀ (t : List (Nat × Nat)), (∀ p ∈ t, p.1 ≤ 2147483647 ∧ p.2 ≤ 2147483647) → (tkB t).length ≤ 10 * t.length
 | [], _ => Nat.le_refl _
 | p :: t, h => by
   obtain ⟨h1, h2⟩ := h p (by simp)
   have a := vi_len 5 p.1 (by omega) (by omega)
   have b := vi_len 5 p.2 (by omega) (by omega)
   have c := tkB_len t fun q hq => h q (List.mem_cons_of_mem _ hq)
   simp only [tkB, List.flatMap_cons, List.length_append, List.length_cons] at c ⊢
   omega
end Go.Proofs.Ytokngfinnieccaa
namespace Go.Proofs.Ytokngfinnieccaa
open Go.ChangeShapes Go.WideShapes Go.RowKit
set_option linter.unusedVariables false
set_option linter.unusedSimpArgs false
set_option maxRecDepth 100000
set_option maxHeartbeats 4000000

end Go.Proofs.Ytokngfinnieccaa
namespace Go.Proofs.Ytokngfinnieccaa
set_option linter.unusedVariables false
set_option linter.unusedSimpArgs false
set_option maxRecDepth 100000
set_option maxHeartbeats 4000000
theorem comp_do {a b : List Pt} {s : ByteArray} (h1 : doE a s = 0) (h2 : doE b (doS a s) = 0) : compE a b = 0 ∧ doE (compL a b) s = 0 ∧ doS (compL a b) s = doS b (doS a s) := by
 obtain ⟨ka, na, _, _⟩ := do_chk h1
 obtain ⟨kb, nb, _, _⟩ := do_chk h2
 have hab : nO (units a) = nI (units b) := by rw [nb, do_size h1]
 have e := comp_zero ka kb hab
 have e2 : doE (compL a b) s = 0 := do_zero (comp_chk e).2.2.2.2 (by rw [(comp_sizes e).1, na])
 refine ⟨e, e2, ba_list ?_⟩
 have na' : nI (units a) = s.data.toList.length := na
 rw [do_list e2, do_list h2, do_list h1, comp_units e, ap_cz id _ _ (by rw [nI_cmp _ _ hab, na']), ap_cmp id _ _ hab _ na']
def mtE : List Pt → List Rv → Int
 | _, [] => 0
 | o, r :: l => if meetE r.2.2 o ≠ 0 then meetE r.2.2 o else mtE (meetD r.2.2 o) l
def mtL : List Pt → List Rv → List Pt
 | o, [] => o
 | o, r :: l => mtL (meetD r.2.2 o) l
theorem mt_step {o : List Pt} {r : Rv} {l : List Rv} {E : Int} {R : List Pt} (h : mtE o (r :: l) = E ∧ (E = 0 → mtL o (r :: l) = R)) :
 (meetE r.2.2 o ≠ 0 → E = meetE r.2.2 o) ∧ (meetE r.2.2 o = 0 → mtE (meetD r.2.2 o) l = E ∧ (E = 0 → mtL (meetD r.2.2 o) l = R)) := by
 obtain ⟨h1, h2⟩ := h
 simp only [mtE] at h1
 refine ⟨fun h3 => ?_, fun h3 => ?_⟩
 · rw [if_pos h3] at h1; exact h1.symm
 · rw [if_neg (by omega)] at h1; exact ⟨h1, h2⟩
theorem txr_at : ∀ (l : List Rv) (s : ByteArray) (k : Nat) (h : k < l.length), txr s l = 0 → oneE l[k] = 0 ∧ doE (l[k]).2.2 (txt s l k) = 0 ∧ txt s l (k + 1) = doS (l[k]).2.2 (txt s l k)
 | [], s, k, h, _ => absurd h (by simp)
 | r :: l, s, 0, _, h => by
   simp only [txr] at h
   split at h
   · omega
   · split at h
     · omega
     · rename_i h1 h2
       refine ⟨by simpa using h1, by simpa [txt] using h2, ?_⟩
       cases l <;> simp [txt]
 | r :: l, s, k + 1, hk, h => by
   simp only [txr] at h
   split at h
   · omega
   · split at h
     · omega
     · have := txr_at l (doS r.2.2 s) k (by simpa using hk) h
       simpa [txt] using this
theorem mt_good : ∀ (l : List Rv) (o : List Pt), chk o = 0 → mtE o l = 0 → chk (mtL o l) = 0 ∧ nP (units (mtL o l)) = nP (units o)
 | [], o, h, _ => ⟨h, rfl⟩
 | r :: l, o, h, h2 => by
   simp only [mtE] at h2
   split at h2
   · omega
   · rename_i h3
     have h3' : meetE r.2.2 o = 0 := by omega
     have := mt_good l (meetD r.2.2 o) (meet_good h3').2 h2
     simp only [mtL]
     exact ⟨this.1, by rw [this.2, (meet_sizes h3').2.2.2.2]⟩
def blL : Nat → List Int → List Rv → List Int
 | _, who, [] => who
 | k, who, r :: l => blL (k + 1) (ap (fun _ => (k : Int) + 1) (units r.2.2) who) l
def blame (base : ByteArray) (l : List Rv) : List Int := blL 0 (List.replicate base.size 0) l
end Go.Proofs.Ytokngfinnieccaa
namespace Go.Proofs.Ytokngfinnieccaa
open Go.ChangeShapes Go.WideShapes Go.RowKit
set_option linter.unusedVariables false
set_option linter.unusedSimpArgs false
set_option maxRecDepth 100000
set_option maxHeartbeats 4000000
theorem RdI.builtS (w : World) (cs : Array Value) (l : List Int) (n : Nat) (hn : n = l.length) (hc : cs.toList = ic l) (hm : n ≤ maxLen) : RdI (w.alloc (.cells cs 3)) (w.alloc (.cells cs 3)).heap.size (some ⟨w.heap.size, 0, none⟩) n n l := by
 have := RdI.built w cs l n hn hc hm
 rwa [show w.heap.size + 1 = (w.alloc (.cells cs 3)).heap.size by simp] at this
theorem wpList_app_intsG {ops : Array Oper} {rest : List Oper} {o : Oper} {a : Act} {Q : Exit → Act → World → Prop} (w : World) (hgd : o.guard = none) (s x : Operand)
 (ho : o.op = .call { callee := .builtin .append, args := #[s, x], argTypes := #[33, 33] })
 (B : Nat) (v : Value) (l : List Int) (hs : a.eval s = v) (hown : OwnI w B v l)
 (A : Option Addr) (m c B' : Nat) (l' : List Int) (hx : a.eval x = .slice A m c) (hr : RdI w B' A m c l')
 (hn : l.length + m ≤ 4000000) (hB : B ≤ w.heap.size)
 (h : ∀ v' w', OwnI w' B v' (l ++ l') → Below B w w' → w.grownBy w' v.ownBlock → wpList Try.prog ops Q rest (a.put o.dst v') w') :
 wpList Try.prog ops Q (o :: rest) a w := by
 obtain ⟨i0, hi, hz0, hz1, hz2⟩ := info_parts Try.info_int
 refine wpList_append_any w hgd s x 33 ho B 3 i0 _ 1 8 Try.underlying33 hi hz0 hz1 hz2 rfl (by omega) v _ _ hs hown B' A m c (ic l') hx ?_ ?_ (by simp only [maxLen]; omega) (by omega) hB ?_
 · refine ⟨by rw [ic_len, hr.1]; omega, fun h0 => ?_⟩
   obtain ⟨b, o', e, hb, hc⟩ := hr.2.2.2.2 h0
   refine ⟨_, e, hb, fun j u hj => ?_⟩
   have := hc j u hj
   by_cases h00 : j = 0
   · subst h00; simpa [Addr.add] using this
   · simpa [Addr.add, h00] using this
 · intro u hu
   unfold ic at hu
   obtain ⟨p, _, rfl⟩ := List.mem_map.1 hu
   rfl
 · intro v' w' h2 h3 h4
   refine h v' w' ?_ (below_grown h3 hB (own_ge hown)) h3
   unfold OwnI
   have e : ic (l ++ l') = ic l ++ ic l' := by simp [ic]
   rw [e, List.length_append, ← hr.1]
   exact h2
end Go.Proofs.Ytokngfinnieccaa
