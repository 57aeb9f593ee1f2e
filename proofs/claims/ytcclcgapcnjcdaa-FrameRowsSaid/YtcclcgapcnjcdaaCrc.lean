/- Contracts of crc.table and crc.Of. -/
import Derived.Test.YtcclcgapcnjcdaaBase
import Derived.Laws.Tables
import Derived.Laws.CopyOwn
namespace Go.Proofs.Ytcclcgapcnjcdaa
open Go.ChangeShapes Go.WideShapes Go.RowKit
set_option linter.unusedVariables false
set_option linter.unusedSimpArgs false
set_option maxRecDepth 100000
set_option maxHeartbeats 4000000

def v32 (x : BitVec 32) : Value := .int .u32 x.toNat
def poly : BitVec 32 := 0x82f63b78#32
def stp (x : BitVec 32) : BitVec 32 := (x >>> 1) ^^^ (if x.getLsbD 0 then poly else 0#32)
def stps : Nat → BitVec 32 → BitVec 32
  | 0, x => x
  | n + 1, x => stp (stps n x)
def tabN (i : Nat) : BitVec 32 := stps 8 (BitVec.ofNat 32 i)
def tcells (k : Nat) : Array Value := Array.ofFn (n := 256) fun i => if i.val < k then v32 (tabN i.val) else v32 0#32

theorem b_xor (a b : Int) : bits BinOp.xor IntKind.u32 a b = ((BitVec.ofInt 32 a ^^^ BitVec.ofInt 32 b).toNat : Int) := by
  show IntKind.u32.wrap _ = _
  exact IntWalk.u32_in _ ⟨by omega, by have := (BitVec.ofInt 32 a ^^^ BitVec.ofInt 32 b).isLt; show ((BitVec.ofInt 32 a ^^^ BitVec.ofInt 32 b).toNat : Int) ≤ _; omega⟩
theorem b_and (a b : Int) : bits BinOp.and IntKind.u32 a b = ((BitVec.ofInt 32 a &&& BitVec.ofInt 32 b).toNat : Int) := by
  show IntKind.u32.wrap _ = _
  exact IntWalk.u32_in _ ⟨by omega, by have := (BitVec.ofInt 32 a &&& BitVec.ofInt 32 b).isLt; show ((BitVec.ofInt 32 a &&& BitVec.ofInt 32 b).toNat : Int) ≤ _; omega⟩
theorem ofInt_toNat (x : BitVec 32) : BitVec.ofInt 32 (x.toNat : Int) = x := by
  rw [BitVec.ofInt_natCast]; simp
theorem and_one (x : BitVec 32) : x &&& 1#32 = if x.getLsbD 0 then 1#32 else 0#32 := by
  ext i hi
  by_cases h0 : i = 0
  · subst h0; cases hx : x.getLsbD 0 <;> simp_all
  · have : (1#32 : BitVec 32)[i] = false := by
      rw [← BitVec.getLsbD_eq_getElem, BitVec.getLsbD_one]; simp; omega
    cases hx : x.getLsbD 0 <;> simp [this]
theorem stp_eq (x : BitVec 32) : bits BinOp.xor IntKind.u32 ((x.toNat : Int) / 2) (bits BinOp.and IntKind.u32 (-bits BinOp.and IntKind.u32 (x.toNat : Int) 1 % 4294967296) 2197175160) = ((stp x).toNat : Int) := by
  have e1 : BitVec.ofInt 32 ((x.toNat : Int) / 2) = x >>> 1 := by
    rw [show (x.toNat : Int) / 2 = ((x.toNat / 2 : Nat) : Int) by omega, BitVec.ofInt_natCast]
    apply BitVec.eq_of_toNat_eq
    rw [BitVec.toNat_ushiftRight, BitVec.toNat_ofNat, Nat.shiftRight_eq_div_pow]
    have := x.isLt
    omega
  rw [b_xor, b_and, b_and, e1]
  simp only [ofInt_toNat]
  rw [show BitVec.ofInt 32 1 = 1#32 from rfl, and_one]
  unfold stp
  cases x.getLsbD 0
  · exact congrArg (fun y : BitVec 32 => ((x >>> 1 ^^^ y).toNat : Int)) (by decide)
  · exact congrArg (fun y : BitVec 32 => ((x >>> 1 ^^^ y).toNat : Int)) (by decide)
theorem tcells_size (k : Nat) : (tcells k).size = 256 := by simp [tcells]
theorem tcells_one (k : Nat) : (tcells k).all (·.oneCell') = true := by
  rw [Array.all_eq_true]
  intro i hi
  simp only [tcells, Array.getElem_ofFn]
  split <;> rfl
theorem tcells_set (k : Nat) (hk : k < 256) : (tcells k).setIfInBounds k (v32 (tabN k)) = tcells (k + 1) := by
  apply Array.ext
  · simp [tcells]
  · intro i h1 h2
    rw [Array.getElem_setIfInBounds (by simpa [tcells] using h1)]
    simp only [tcells, Array.getElem_ofFn]
    by_cases h : k = i
    · subst h; simp
    · rw [if_neg h]
      by_cases h3 : i < k
      · rw [if_pos h3, if_pos (by omega)]
      · rw [if_neg h3, if_neg (by omega)]
theorem zero_tab (w : World) : (zeroValue 119).run Try.prog w = .ok (.agg (tcells 0)) w := by kernel_rfl
theorem tab_info : (Try.prog.info? 119).map (·.size) = some 256 := by kernel_rfl

theorem table_any (w : World) :
    Calls Try.prog 74 #[] w fun e w' => e = .returned (.agg (tcells 256)) ∧ Below w.heap.size w w' := by
  have hz := zero_tab
  go_enter Try.func74, Try.ntmps74
  go_wp2_with fail
  go_loopw [1, 2, 3] (fun i1 x i wr => ∃ k : Nat, k ≤ 256 ∧ i = .int .i64 k ∧ wr.heap[w.heap.size]? = some (.cells (tcells k) 119 (0, 0)) ∧ Below w.heap.size w wr) (fun _ _ i _ => 256 - (intOf i).toNat)
  case atStart => exact ⟨0, by omega, rfl, heap_alloc_new _ _, (Below.refl _ _).alloc (Nat.le_refl _) _⟩
  case round =>
    obtain ⟨k, hk, rfl, hh, hb⟩ := hrel
    by_cases hlt : k < 256
    · have hcell : wr.cell? ⟨w.heap.size, k, none⟩ = some (v32 0#32) := by
        rw [cell_of_row _ _ k _ _ _ hh]; simp [tcells, hlt]
      have hfr : wr.frozen? ⟨w.heap.size, k, none⟩ = false := frozen_of_row _ _ k _ _ hh
      have Hh := Lib.hid hh
      clear hh
      go_wp2_with fail
      go_loop [2, 8] (fun x j => ∃ n : Nat, n ≤ 8 ∧ j = .int .i64 n ∧ x = .int .u32 (stps n (BitVec.ofNat 32 k)).toNat) (fun _ j => 8 - (intOf j).toNat)
      case atStart => exact ⟨0, by omega, rfl, by simp [stps]; omega⟩
      case round =>
        obtain ⟨n, hn, rfl, rfl⟩ := hrel
        have hb32 := (stps n (BitVec.ofNat 32 k)).isLt
        by_cases hlt2 : n < 8
        · go_wp2_with fail
          go_round
          case rel => exact ⟨n + 1, by omega, by go_num, by rw [stp_eq]; rfl⟩
          case measure => simp [intOf]; omega
        · obtain rfl : n = 8 := by omega
          go_wp2_with fail
          go_roundw
          case rel => exact ⟨k + 1, by omega, by go_num, by
            rw [heap_setCell_same _ _ _ _ _ _ Hh.out]
            rw [show Value.int IntKind.u32 ((stps 8 (BitVec.ofNat 32 k)).toNat : Int) = v32 (tabN k) from rfl, tcells_set k hlt], hb.setCell (p := ⟨w.heap.size, k, none⟩) (Nat.le_refl _) _⟩
          case measure => simp [intOf]; omega
    · obtain rfl : k = 256 := by omega
      go_wp2_with (first | (refine wpList_load_row rfl 119 _ rfl w.heap.size rfl 119 (tcells 256) (0, 0) _ hh Try.underlying119 rfl (by rw [tcells_size]; exact tab_info) ?_) | (refine wpList_store_row rfl 119 _ _ rfl w.heap.size (tcells 256) rfl rfl 119 (tcells 256) hh (by rw [tcells_size]; exact tab_info) rfl (tcells_one _) ?_))
      have h2 := setRow_heap wr w.heap.size (tcells 256) (tcells 256) _ _ hh
      exact bodyPost_ret (v := .agg (tcells 256)) (results_cell_row rfl _ _ w.heap.size 119 (tcells 256) (0, 0) _ rfl h2 Try.underlying119 rfl (by rw [tcells_size]; exact tab_info)) rfl ⟨rfl, below_setRow hb (Nat.le_refl _) _⟩

def crcF (x : BitVec 32) (b : UInt8) : BitVec 32 := (x >>> 8) ^^^ tabN ((x.toNat % 256) ^^^ b.toNat)
def crcL (l : List UInt8) : BitVec 32 := ~~~ (l.foldl crcF (~~~ 0#32))
theorem xor_lt8 (a b : Nat) (ha : a < 256) (hb : b < 256) : a ^^^ b < 256 := Nat.xor_lt_two_pow (n := 8) ha hb
theorem b_xor8 (a b : Nat) (ha : a < 256) (hb : b < 256) : bits BinOp.xor IntKind.u8 (a : Int) (b : Int) = ((a ^^^ b : Nat) : Int) := by
  have h := xor_lt8 a b ha hb
  show IntKind.u8.wrap _ = _
  rw [show IntKind.u8.bits = 8 from rfl, BitVec.ofInt_natCast, BitVec.ofInt_natCast, BitVec.toNat_xor, BitVec.toNat_ofNat, BitVec.toNat_ofNat, Nat.mod_eq_of_lt (by omega), Nat.mod_eq_of_lt (by omega)]
  exact IntWalk.u8_in _ ⟨by omega, by omega⟩

theorem of_step (X : BitVec 32) (b : UInt8) (J : Nat) (hJ : J = (X.toNat % 256) ^^^ b.toNat) : bits BinOp.xor IntKind.u32 ((X.toNat : Int) / 256) ((tabN J).toNat : Int) = ((crcF X b).toNat : Int) := by
  have e1 : BitVec.ofInt 32 ((X.toNat : Int) / 256) = X >>> 8 := by
    rw [show (X.toNat : Int) / 256 = ((X.toNat / 256 : Nat) : Int) by omega, BitVec.ofInt_natCast]
    apply BitVec.eq_of_toNat_eq
    rw [BitVec.toNat_ushiftRight, BitVec.toNat_ofNat, Nat.shiftRight_eq_div_pow]
    have := X.isLt
    omega
  rw [b_xor, e1, ofInt_toNat, hJ]
  rfl
theorem of_any (s : ByteArray) (w : World) (hs : s.size ≤ 9223372036854775807) :
    Calls Try.prog 53 #[.string s] w fun e w' => e = .returned (.int .u32 (crcL s.data.toList).toNat) ∧ Below w.heap.size w w' := by
  have hz := zero_tab
  go_enter Try.func53, Try.ntmps53
  go_wp2_with fail
  refine (table_any _).mono ?_
  rintro e w1 ⟨rfl, hb1⟩
  have hn1 := heap_alloc_new w1 (.cells (tcells 0) 119)
  have hB1 := hb1.size
  go_wp2_with (first | (refine wpList_store_row rfl 119 _ _ rfl w1.heap.size (tcells 256) rfl rfl 119 (tcells 0) hn1 (by rw [tcells_size]; exact tab_info) (by rw [tcells_size, tcells_size]) (tcells_one _) ?_))
  have h2 := setRow_heap (w1.alloc (.cells (tcells 0) 119)) w1.heap.size (tcells 0) (tcells 256) _ _ hn1
  have hb2 : Below w.heap.size w ((w1.alloc (.cells (tcells 0) 119)).setRow w1.heap.size (tcells 256)) := below_setRow (hb1.alloc hb1.size _) hb1.size _
  clear hz hn1
  generalize (w1.alloc (.cells (tcells 0) 119)).setRow w1.heap.size (tcells 256) = w2 at *
  have hcells : ∀ j, j < 256 → w2.cell? ⟨w1.heap.size, j, none⟩ = some (.int .u32 (tabN j).toNat) := by
    intro j hj
    rw [cell_of_row _ _ j _ _ _ h2]; simp [tcells, hj, v32]
  have Hcells := Lib.hid hcells
  clear hcells h2
  go_loop [4, 9] (fun x i => ∃ (k : Nat) (X : BitVec 32), k ≤ s.size ∧ i = .int .i64 k ∧ x = .int .u32 X.toNat ∧ Hid (~~~ ((s.data.toList.drop k).foldl crcF X) = crcL s.data.toList)) (fun _ i => s.size - (intOf i).toNat)
  case atStart => exact ⟨0, ~~~ 0#32, by omega, rfl, rfl, Lib.hid rfl⟩
  case round =>
    obtain ⟨k, X, hk, rfl, rfl, hX⟩ := hrel
    have hX32 := X.isLt
    by_cases hlt : k < s.size
    · have hc8 : (s[k].toNat : Int) < 256 := by have := s[k].toNat_lt; omega
      obtain ⟨J, hJ⟩ : ∃ J, J = (X.toNat % 256) ^^^ s[k].toNat := ⟨_, rfl⟩
      have hE : bits BinOp.xor IntKind.u8 ((X.toNat : Int) % 256) (s[k].toNat : Int) = (J : Int) := by
        rw [show ((X.toNat : Int) % 256) = ((X.toNat % 256 : Nat) : Int) by omega, b_xor8 _ _ (by omega) s[k].toNat_lt, hJ]
      have hJ8 : J < 256 := by rw [hJ]; exact xor_lt8 _ _ (by omega) s[k].toNat_lt
      have HJ := Lib.hid hJ
      clear hJ
      have hcell := Hcells.out J hJ8
      go_wp2_with fail
      go_round
      case rel => exact ⟨k + 1, crcF X s[k], by omega, by go_num, by rw [of_step X s[k] J HJ.out], by
        rw [← hX.out]
        conv => rhs; rw [List.drop_eq_getElem_cons (show k < s.data.toList.length by rw [bs_len]; omega), List.foldl_cons]
        exact Lib.hid rfl⟩
      case measure => simp [intOf]; omega
    · obtain rfl : k = s.size := by omega
      have hE : Hid (~~~ X = crcL s.data.toList) := by
        rw [← hX.out, List.drop_eq_nil_of_le (by rw [bs_len]; omega)]; exact Lib.hid rfl
      go_wp2_with fail
      go_ret
      refine ⟨?_, hb2⟩
      rw [← hE.out]
      show Ending.returned (.int .u32 (bits BinOp.xor IntKind.u32 IntKind.u32.max (X.toNat : Int))) = _
      rw [b_xor, ofInt_toNat, show BitVec.ofInt 32 IntKind.u32.max = BitVec.allOnes 32 from by decide, BitVec.allOnes_xor]
end Go.Proofs.Ytcclcgapcnjcdaa
