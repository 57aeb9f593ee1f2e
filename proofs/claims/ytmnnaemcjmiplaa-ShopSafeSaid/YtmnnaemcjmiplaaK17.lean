/- Contracts of crc.table and crc.Of. A []byte that a conversion from a string has made (its row bears a mark behind its end): read, written, made a string again. Contracts of frame.four, frame.Put, frame.Get. The check sum, plainly: bit by bit, linear, and what is turned within 32 bits is told. -/
import Derived.Test.YtmnnaemcjmiplaaK1
import Derived.Laws.Tables
import Derived.Laws.CopyOwn
namespace Go.Proofs.Ytmnnaemcjmiplaa
open Go.ChangeShapes Go.WideShapes Go.RowKit
set_option linter.unusedVariables false
set_option linter.unusedSimpArgs false
set_option maxRecDepth 100000
set_option maxHeartbeats 4000000

def v32 (x : BitVec 32) : Value := .int .u32 x.toNat
def poly : BitVec 32 := 0x82f63b78#32
def stp (x : BitVec 32) : BitVec 32 := (x >>> 1) ^^^ (if x.getLsbD 0 then poly else 0#32)
def stps : Nat → BitVec 32 → BitVec 32
  | 0, x => x
  | n + 1, x => stp (stps n x)
def tabN (i : Nat) : BitVec 32 := stps 8 (BitVec.ofNat 32 i)
def tcells (k : Nat) : Array Value := Array.ofFn (n := 256) fun i => if i.val < k then v32 (tabN i.val) else v32 0#32

theorem b_xor (a b : Int) : bits BinOp.xor IntKind.u32 a b = ((BitVec.ofInt 32 a ^^^ BitVec.ofInt 32 b).toNat : Int) := by
  show IntKind.u32.wrap _ = _
  exact IntWalk.u32_in _ ⟨by omega, by have := (BitVec.ofInt 32 a ^^^ BitVec.ofInt 32 b).isLt; show ((BitVec.ofInt 32 a ^^^ BitVec.ofInt 32 b).toNat : Int) ≤ _; omega⟩
theorem b_and (a b : Int) : bits BinOp.and IntKind.u32 a b = ((BitVec.ofInt 32 a &&& BitVec.ofInt 32 b).toNat : Int) := by
  show IntKind.u32.wrap _ = _
  exact IntWalk.u32_in _ ⟨by omega, by have := (BitVec.ofInt 32 a &&& BitVec.ofInt 32 b).isLt; show ((BitVec.ofInt 32 a &&& BitVec.ofInt 32 b).toNat : Int) ≤ _; omega⟩
theorem ofInt_toNat (x : BitVec 32) : BitVec.ofInt 32 (x.toNat : Int) = x := by
  rw [BitVec.ofInt_natCast]; simp
theorem and_one (x : BitVec 32) : x &&& 1#32 = if x.getLsbD 0 then 1#32 else 0#32 := by
  ext i hi
  by_cases h0 : i = 0
  · subst h0; cases hx : x.getLsbD 0 <;> simp_all
  · have : (1#32 : BitVec 32)[i] = false := by
      rw [← BitVec.getLsbD_eq_getElem, BitVec.getLsbD_one]; simp; omega
    cases hx : x.getLsbD 0 <;> simp [this]
theorem stp_eq (x : BitVec 32) : bits BinOp.xor IntKind.u32 ((x.toNat : Int) / 2) (bits BinOp.and IntKind.u32 (-bits BinOp.and IntKind.u32 (x.toNat : Int) 1 % 4294967296) 2197175160) = ((stp x).toNat : Int) := by
  have e1 : BitVec.ofInt 32 ((x.toNat : Int) / 2) = x >>> 1 := by
    rw [show (x.toNat : Int) / 2 = ((x.toNat / 2 : Nat) : Int) by omega, BitVec.ofInt_natCast]
    apply BitVec.eq_of_toNat_eq
    rw [BitVec.toNat_ushiftRight, BitVec.toNat_ofNat, Nat.shiftRight_eq_div_pow]
    have := x.isLt
    omega
  rw [b_xor, b_and, b_and, e1]
  simp only [ofInt_toNat]
  rw [show BitVec.ofInt 32 1 = 1#32 from rfl, and_one]
  unfold stp
  cases x.getLsbD 0
  · exact congrArg (fun y : BitVec 32 => ((x >>> 1 ^^^ y).toNat : Int)) (by decide)
  · exact congrArg (fun y : BitVec 32 => ((x >>> 1 ^^^ y).toNat : Int)) (by decide)
theorem tcells_size (k : Nat) : (tcells k).size = 256 := by simp [tcells]
theorem tcells_one (k : Nat) : (tcells k).all (·.oneCell') = true := by
  rw [Array.all_eq_true]
  intro i hi
  simp only [tcells, Array.getElem_ofFn]
  split <;> rfl
theorem tcells_set (k : Nat) (hk : k < 256) : (tcells k).setIfInBounds k (v32 (tabN k)) = tcells (k + 1) := by
  apply Array.ext
  · simp [tcells]
  · intro i h1 h2
    rw [Array.getElem_setIfInBounds (by simpa [tcells] using h1)]
    simp only [tcells, Array.getElem_ofFn]
    by_cases h : k = i
    · subst h; simp
    · rw [if_neg h]
      by_cases h3 : i < k
      · rw [if_pos h3, if_pos (by omega)]
      · rw [if_neg h3, if_neg (by omega)]
theorem zero_tab (w : World) : (zeroValue 211).run Try.prog w = .ok (.agg (tcells 0)) w := by kernel_rfl
theorem tab_info : (Try.prog.info? 211).map (·.size) = some 256 := by kernel_rfl

theorem table_any (w : World) :
    Calls Try.prog 130 #[] w fun e w' => e = .returned (.agg (tcells 256)) ∧ Below w.heap.size w w' := by
  have hz := zero_tab
  go_enter Try.func130, Try.ntmps130
  go_wp2_with fail
  go_loopw [1, 2, 3] (fun i1 x i wr => ∃ k : Nat, k ≤ 256 ∧ i = .int .i64 k ∧ wr.heap[w.heap.size]? = some (.cells (tcells k) 211 (0, 0)) ∧ Below w.heap.size w wr) (fun _ _ i _ => 256 - (intOf i).toNat)
  case atStart => exact ⟨0, by omega, rfl, heap_alloc_new _ _, (Below.refl _ _).alloc (Nat.le_refl _) _⟩
  case round =>
    obtain ⟨k, hk, rfl, hh, hb⟩ := hrel
    by_cases hlt : k < 256
    · have hcell : wr.cell? ⟨w.heap.size, k, none⟩ = some (v32 0#32) := by
        rw [cell_of_row _ _ k _ _ _ hh]; simp [tcells, hlt]
      have hfr : wr.frozen? ⟨w.heap.size, k, none⟩ = false := frozen_of_row _ _ k _ _ hh
      have Hh := Lib.hid hh
      clear hh
      go_wp2_with fail
      go_loop [2, 8] (fun x j => ∃ n : Nat, n ≤ 8 ∧ j = .int .i64 n ∧ x = .int .u32 (stps n (BitVec.ofNat 32 k)).toNat) (fun _ j => 8 - (intOf j).toNat)
      case atStart => exact ⟨0, by omega, rfl, by simp [stps]; omega⟩
      case round =>
        obtain ⟨n, hn, rfl, rfl⟩ := hrel
        have hb32 := (stps n (BitVec.ofNat 32 k)).isLt
        by_cases hlt2 : n < 8
        · go_wp2_with fail
          go_round
          case rel => exact ⟨n + 1, by omega, by go_num, by rw [stp_eq]; rfl⟩
          case measure => simp [intOf]; omega
        · obtain rfl : n = 8 := by omega
          go_wp2_with fail
          go_roundw
          case rel => exact ⟨k + 1, by omega, by go_num, by
            rw [heap_setCell_same _ _ _ _ _ _ Hh.out]
            rw [show Value.int IntKind.u32 ((stps 8 (BitVec.ofNat 32 k)).toNat : Int) = v32 (tabN k) from rfl, tcells_set k hlt], hb.setCell (p := ⟨w.heap.size, k, none⟩) (Nat.le_refl _) _⟩
          case measure => simp [intOf]; omega
    · obtain rfl : k = 256 := by omega
      go_wp2_with (first | (refine wpList_load_row rfl 211 _ rfl w.heap.size rfl 211 (tcells 256) (0, 0) _ hh Try.underlying211 rfl (by rw [tcells_size]; exact tab_info) ?_) | (refine wpList_store_row rfl 211 _ _ rfl w.heap.size (tcells 256) rfl rfl 211 (tcells 256) hh (by rw [tcells_size]; exact tab_info) rfl (tcells_one _) ?_))
      have h2 := setRow_heap wr w.heap.size (tcells 256) (tcells 256) _ _ hh
      exact bodyPost_ret (v := .agg (tcells 256)) (results_cell_row rfl _ _ w.heap.size 211 (tcells 256) (0, 0) _ rfl h2 Try.underlying211 rfl (by rw [tcells_size]; exact tab_info)) rfl ⟨rfl, below_setRow hb (Nat.le_refl _) _⟩

def crcF (x : BitVec 32) (b : UInt8) : BitVec 32 := (x >>> 8) ^^^ tabN ((x.toNat % 256) ^^^ b.toNat)
def crcL (l : List UInt8) : BitVec 32 := ~~~ (l.foldl crcF (~~~ 0#32))
theorem xor_lt8 (a b : Nat) (ha : a < 256) (hb : b < 256) : a ^^^ b < 256 := Nat.xor_lt_two_pow (n := 8) ha hb
theorem b_xor8 (a b : Nat) (ha : a < 256) (hb : b < 256) : bits BinOp.xor IntKind.u8 (a : Int) (b : Int) = ((a ^^^ b : Nat) : Int) := by
  have h := xor_lt8 a b ha hb
  show IntKind.u8.wrap _ = _
  rw [show IntKind.u8.bits = 8 from rfl, BitVec.ofInt_natCast, BitVec.ofInt_natCast, BitVec.toNat_xor, BitVec.toNat_ofNat, BitVec.toNat_ofNat, Nat.mod_eq_of_lt (by omega), Nat.mod_eq_of_lt (by omega)]
  exact IntWalk.u8_in _ ⟨by omega, by omega⟩

theorem of_step (X : BitVec 32) (b : UInt8) (J : Nat) (hJ : J = (X.toNat % 256) ^^^ b.toNat) : bits BinOp.xor IntKind.u32 ((X.toNat : Int) / 256) ((tabN J).toNat : Int) = ((crcF X b).toNat : Int) := by
  have e1 : BitVec.ofInt 32 ((X.toNat : Int) / 256) = X >>> 8 := by
    rw [show (X.toNat : Int) / 256 = ((X.toNat / 256 : Nat) : Int) by omega, BitVec.ofInt_natCast]
    apply BitVec.eq_of_toNat_eq
    rw [BitVec.toNat_ushiftRight, BitVec.toNat_ofNat, Nat.shiftRight_eq_div_pow]
    have := X.isLt
    omega
  rw [b_xor, e1, ofInt_toNat, hJ]
  rfl
theorem of_any (s : ByteArray) (w : World) (hs : s.size ≤ 9223372036854775807) :
    Calls Try.prog 124 #[.string s] w fun e w' => e = .returned (.int .u32 (crcL s.data.toList).toNat) ∧ Below w.heap.size w w' := by
  have hz := zero_tab
  go_enter Try.func124, Try.ntmps124
  go_wp2_with fail
  refine (table_any _).mono ?_
  rintro e w1 ⟨rfl, hb1⟩
  have hn1 := heap_alloc_new w1 (.cells (tcells 0) 211)
  have hB1 := hb1.size
  go_wp2_with (first | (refine wpList_store_row rfl 211 _ _ rfl w1.heap.size (tcells 256) rfl rfl 211 (tcells 0) hn1 (by rw [tcells_size]; exact tab_info) (by rw [tcells_size, tcells_size]) (tcells_one _) ?_))
  have h2 := setRow_heap (w1.alloc (.cells (tcells 0) 211)) w1.heap.size (tcells 0) (tcells 256) _ _ hn1
  have hb2 : Below w.heap.size w ((w1.alloc (.cells (tcells 0) 211)).setRow w1.heap.size (tcells 256)) := below_setRow (hb1.alloc hb1.size _) hb1.size _
  clear hz hn1
  generalize (w1.alloc (.cells (tcells 0) 211)).setRow w1.heap.size (tcells 256) = w2 at *
  have hcells : ∀ j, j < 256 → w2.cell? ⟨w1.heap.size, j, none⟩ = some (.int .u32 (tabN j).toNat) := by
    intro j hj
    rw [cell_of_row _ _ j _ _ _ h2]; simp [tcells, hj, v32]
  have Hcells := Lib.hid hcells
  clear hcells h2
  go_loop [4, 9] (fun x i => ∃ (k : Nat) (X : BitVec 32), k ≤ s.size ∧ i = .int .i64 k ∧ x = .int .u32 X.toNat ∧ Hid (~~~ ((s.data.toList.drop k).foldl crcF X) = crcL s.data.toList)) (fun _ i => s.size - (intOf i).toNat)
  case atStart => exact ⟨0, ~~~ 0#32, by omega, rfl, rfl, Lib.hid rfl⟩
  case round =>
    obtain ⟨k, X, hk, rfl, rfl, hX⟩ := hrel
    have hX32 := X.isLt
    by_cases hlt : k < s.size
    · have hc8 : (s[k].toNat : Int) < 256 := by have := s[k].toNat_lt; omega
      obtain ⟨J, hJ⟩ : ∃ J, J = (X.toNat % 256) ^^^ s[k].toNat := ⟨_, rfl⟩
      have hE : bits BinOp.xor IntKind.u8 ((X.toNat : Int) % 256) (s[k].toNat : Int) = (J : Int) := by
        rw [show ((X.toNat : Int) % 256) = ((X.toNat % 256 : Nat) : Int) by omega, b_xor8 _ _ (by omega) s[k].toNat_lt, hJ]
      have hJ8 : J < 256 := by rw [hJ]; exact xor_lt8 _ _ (by omega) s[k].toNat_lt
      have HJ := Lib.hid hJ
      clear hJ
      have hcell := Hcells.out J hJ8
      go_wp2_with fail
      go_round
      case rel => exact ⟨k + 1, crcF X s[k], by omega, by go_num, by rw [of_step X s[k] J HJ.out], by
        rw [← hX.out]
        conv => rhs; rw [List.drop_eq_getElem_cons (show k < s.data.toList.length by rw [bs_len]; omega), List.foldl_cons]
        exact Lib.hid rfl⟩
      case measure => simp [intOf]; omega
    · obtain rfl : k = s.size := by omega
      have hE : Hid (~~~ X = crcL s.data.toList) := by
        rw [← hX.out, List.drop_eq_nil_of_le (by rw [bs_len]; omega)]; exact Lib.hid rfl
      go_wp2_with fail
      go_ret
      refine ⟨?_, hb2⟩
      rw [← hE.out]
      show Ending.returned (.int .u32 (bits BinOp.xor IntKind.u32 IntKind.u32.max (X.toNat : Int))) = _
      rw [b_xor, ofInt_toNat, show BitVec.ofInt 32 IntKind.u32.max = BitVec.allOnes 32 from by decide, BitVec.allOnes_xor]
end Go.Proofs.Ytmnnaemcjmiplaa
namespace Go.Proofs.Ytmnnaemcjmiplaa
open Go.ChangeShapes Go.WideShapes Go.RowKit
set_option linter.unusedVariables false
set_option linter.unusedSimpArgs false
set_option maxRecDepth 100000

def RowU8 (w : World) (g : Nat) (l : List UInt8) : Prop :=
  ∃ cs fr, w.heap[g]? = some (.cells cs 5 fr) ∧ l.length ≤ cs.size ∧ cs.toList.take l.length = l.map u8v ∧ ∀ j, j < l.length → ¬ (fr.1 ≤ j ∧ j < fr.2)
section
variable {w w' : World} {g : Nat} {l : List UInt8}
theorem RowU8.lt (h : RowU8 w g l) : g < w.heap.size := by
  obtain ⟨cs, fr, hh, _⟩ := h
  rcases Nat.lt_or_ge g w.heap.size with hlt | hge
  · exact hlt
  · rw [Array.getElem?_eq_none hge] at hh; cases hh
theorem RowU8.cell (h : RowU8 w g l) (j : Nat) (hj : j < l.length) : w.cell? ⟨g, j, none⟩ = some (.int .u8 (l[j].toNat : Int)) := by
  obtain ⟨cs, fr, hh, hl, htk, hf⟩ := h
  rw [cell_of_row _ _ j _ _ _ hh]
  have e : (l.map u8v)[j]? = some (.int .u8 (l[j].toNat : Int)) := by simp [hj, u8v]
  rw [← htk, List.getElem?_take, if_pos hj] at e
  simpa using e
theorem RowU8.frozen (h : RowU8 w g l) (j : Nat) (hj : j < l.length) : w.frozen? ⟨g, j, none⟩ = false := by
  obtain ⟨cs, fr, hh, hl, htk, hf⟩ := h
  have := hf j hj
  simp only [World.frozen?, hh]
  simp
  omega
theorem RowU8.stored (h : RowU8 w g l) (j : Nat) (hj : j < l.length) (u : UInt8) : RowU8 (w.setCell ⟨g, j, none⟩ (.int .u8 (u.toNat : Int))) g (l.set j u) := by
  obtain ⟨cs, fr, hh, hl, htk, hf⟩ := h
  refine ⟨cs.setIfInBounds j (u8v u), fr, ?_, by simpa using hl, ?_, by simpa using hf⟩
  · simp [World.setCell, Array.getElem?_modify, hh]; rfl
  · rw [Array.toList_setIfInBounds, List.length_set, List.map_set, ← htk, List.take_set]
theorem RowU8.heap (h : RowU8 w g l) (e : w'.heap[g]? = w.heap[g]?) : RowU8 w' g l := by
  obtain ⟨cs, fr, hh, r⟩ := h
  exact ⟨cs, fr, e.trans hh, r⟩
theorem RowU8.drew (h : RowU8 w g l) : RowU8 w.drew g l := h
theorem RowU8.below {B : Nat} (h : RowU8 w g l) (hb : Below B w w') (hg : g < B) : RowU8 w' g l := h.heap (hb.block g hg)
theorem RowU8.string (h : RowU8 w g l) (cap : Nat) : (convert 145 9 (.slice (some ⟨g, 0, none⟩) l.length cap)).run Try.prog w = .ok (.string ⟨l.toArray⟩) w :=
  run_convert_bytes_back w _ _ 5 _ _ l Try.underlying145 Try.underlying5 Try.underlying9 fun j hj => by rw [add0]; exact h.cell j hj
theorem RowU8.new (w : World) (s : ByteArray) (cap : Nat) (fr : Nat × Nat) (hfr : s.size ≤ fr.1) : RowU8 (w.alloc (.cells (bytesRow s cap) 5 fr)) w.heap.size s.data.toList := by
  have hb : s.data.size = s.size := rfl
  refine ⟨_, fr, heap_alloc_new w _, ?_, ?_, ?_⟩
  · simp [bytesRow]
  · simp [bytesRow, u8v, Function.comp_def]
  · intro j hj
    rw [bs_len] at hj
    omega
/-- string([]byte{..}) -/
theorem run_string_new (w : World) (cs : Array Value) (l : List UInt8) (hc : cs.toList = l.map u8v) (n cap : Nat) (hn : n = l.length) (g : Nat) (hg : w.heap.size = g) :
    (convert 145 9 (.slice (some ⟨g, 0, none⟩) n cap)).run Try.prog (w.alloc (.cells cs 5)) = .ok (.string ⟨l.toArray⟩) (w.alloc (.cells cs 5)) := by
  subst hn hg
  have hl : cs.toList.length = l.length := by rw [hc]; simp
  have h : RowU8 (w.alloc (.cells cs 5)) w.heap.size l := ⟨cs, (0, 0), heap_alloc_new w _, by simpa using Nat.le_of_eq hl.symm, by rw [← hl, List.take_length, hc], by intro j hj; omega⟩
  exact h.string cap
theorem run_bytes (w : World) (s : ByteArray) : (convert 9 145 (.string s)).run Try.prog w = .ok (.slice (some ⟨w.heap.size, 0, none⟩) s.size (grownCap w s.size 0 5))
      (w.drew.alloc (.cells (bytesRow s (grownCap w s.size 0 5)) 5 ((bytesRow s (grownCap w s.size 0 5)).size, (bytesRow s (grownCap w s.size 0 5)).size + 1))) :=
  run_bytes_of_string w _ _ _ s Try.underlying9 Try.underlying145 Try.underlying5
theorem bytesRow_ge (s : ByteArray) (cap : Nat) : s.size ≤ (bytesRow s cap).size := by
  have hb : s.data.size = s.size := rfl
  simp [bytesRow]
end
end Go.Proofs.Ytmnnaemcjmiplaa
namespace Go.Proofs.Ytmnnaemcjmiplaa
open Go.ChangeShapes Go.WideShapes Go.RowKit
set_option linter.unusedVariables false
set_option linter.unusedSimpArgs false
set_option maxRecDepth 100000
set_option maxHeartbeats 4000000

def fourL (x : Nat) : List UInt8 := [UInt8.ofNat x, UInt8.ofNat (x / 256), UInt8.ofNat (x / 65536), UInt8.ofNat (x / 16777216)]

theorem mod_of (x : Nat) : (UInt8.ofNat x).toNat = x % 256 := by simp [UInt8.toNat_ofNat']
theorem four_any (x : Nat) (hx : (x : Int) < 4294967296) (w : World) :
    Calls Try.prog 123 #[.int .u32 x] w fun e w' => e = .returned (.string ⟨(fourL x).toArray⟩) ∧ Below w.heap.size w w' := by
  have hcv := run_string_new w #[.int .u8 ((x : Int) % 256), .int .u8 ((x : Int) / 256 % 256), .int .u8 ((x : Int) / 65536 % 256), .int .u8 ((x : Int) / 16777216)] (fourL x)
    (by simp [fourL, u8v, mod_of]; omega) 4 4 rfl _ rfl
  go_enter Try.func123, Try.ntmps123
  go_wp2_with fail
  go_ret
  exact ⟨rfl, (Below.refl _ _).alloc (Nat.le_refl _) _⟩

/-- a frame's bytes ahead of its sum, and whole -/
def frH (k : Nat) (b : List UInt8) : List UInt8 := UInt8.ofNat k :: UInt8.ofNat (b.length / 256) :: UInt8.ofNat b.length :: b
def frL (k : Nat) (b : List UInt8) : List UInt8 := frH k b ++ fourL (crcL (frH k b)).toNat

theorem fput_kind (k : Int) (b : ByteArray) (h : k < 1 ∨ 255 < k) (w : World) :
    Calls Try.prog 101 #[.agg #[.int .i64 k, .string b]] w fun e w' => e = .returned (.tuple #[.string ⟨#[]⟩, .int .i64 1]) ∧ Below w.heap.size w w' := by
  by_cases h1 : k < 1
  · go_enter Try.func101, Try.ntmps101
    go_wp2_with fail
    go_ret2
    exact ⟨rfl, (Below.refl _ _).alloc (Nat.le_refl _) _⟩
  · have h2 : 255 < k := by omega
    go_enter Try.func101, Try.ntmps101
    go_wp2_with fail
    go_ret2
    exact ⟨rfl, (Below.refl _ _).alloc (Nat.le_refl _) _⟩
theorem fput_large (k : Int) (b : ByteArray) (h1 : 1 ≤ k) (h2 : k ≤ 255) (h3 : 4000 < (b.size : Int)) (w : World) :
    Calls Try.prog 101 #[.agg #[.int .i64 k, .string b]] w fun e w' => e = .returned (.tuple #[.string ⟨#[]⟩, .int .i64 2]) ∧ Below w.heap.size w w' := by
  go_enter Try.func101, Try.ntmps101
  go_wp2_with fail
  go_ret2
  exact ⟨rfl, (Below.refl _ _).alloc (Nat.le_refl _) _⟩
theorem fput_good (k : Nat) (b : ByteArray) (h1 : (1 : Int) ≤ k) (h2 : (k : Int) ≤ 255) (h3 : (b.size : Int) ≤ 4000) (w : World) :
    Calls Try.prog 101 #[.agg #[.int .i64 k, .string b]] w fun e w' => e = .returned (.tuple #[.string ⟨(frL k b.data.toList).toArray⟩, .int .i64 0]) ∧ Below w.heap.size w w' := by
  have hcv := run_string_new (w.alloc (.cells #[.int .i64 k, .string b] 170)) #[.int .u8 (k : Int), .int .u8 ((b.size : Int) / 256), .int .u8 ((b.size : Int) % 256)] [UInt8.ofNat k, UInt8.ofNat (b.size / 256), UInt8.ofNat b.size]
    (by simp [u8v, mod_of]; omega) 3 3 rfl (w.heap.size + 1) (by simp)
  go_enter Try.func101, Try.ntmps101
  go_wp2_with fail
  have e1 : (⟨#[UInt8.ofNat k, UInt8.ofNat (b.size / 256), UInt8.ofNat b.size]⟩ ++ b : ByteArray) = ⟨(frH k b.data.toList).toArray⟩ := bs_ext (by rw [bs_append]; rfl)
  rw [e1]
  have hsz : (⟨(frH k b.data.toList).toArray⟩ : ByteArray).size ≤ 9223372036854775807 := by rw [bs_size]; simp only [frH, List.length_cons, bs_len]; omega
  refine (of_any _ _ hsz).mono ?_
  rintro e w1 ⟨rfl, hb1⟩
  have hb2 : Below w.heap.size w w1 := (((Below.refl w.heap.size w).alloc (Nat.le_refl _) _).alloc (by simp) _).trans (hb1.mono (by simp; omega))
  clear hb1 hcv e1
  go_wp2_with fail
  refine (four_any _ (by have := (crcL (frH k b.data.toList)).isLt; omega) _).mono ?_
  rintro e w2 ⟨rfl, hb3⟩
  have hs2 : (⟨(fourL (crcL (frH k b.data.toList)).toNat).toArray⟩ : ByteArray).size ≤ 4 := by rw [bs_size]; simp [fourL]
  have hs1 : (⟨(frH k b.data.toList).toArray⟩ : ByteArray).size ≤ 4003 := by rw [bs_size]; simp only [frH, List.length_cons, bs_len]; omega
  go_wp2_with fail
  go_ret2
  refine ⟨?_, hb2.trans (hb3.mono hb2.size)⟩
  have e2 : (⟨(frH k b.data.toList).toArray⟩ ++ ⟨(fourL (crcL (frH k b.data.toList)).toNat).toArray⟩ : ByteArray) = ⟨(frL k b.data.toList).toArray⟩ := bs_ext (by rw [bs_append]; simp [frL])
  rw [← e2]
  rfl

theorem or_hi (x y : UInt8) : bits BinOp.or IntKind.i64 ((x.toNat : Int) * 256) (y.toNat : Int) = ((x.toNat * 256 + y.toNat : Nat) : Int) := by
  have hx := x.toNat_lt
  have hy := y.toNat_lt
  have h1 : BitVec.ofInt 64 ((x.toNat : Int) * 256) = BitVec.ofNat 64 (x.toNat * 256) := by
    rw [show (x.toNat : Int) * 256 = ((x.toNat * 256 : Nat) : Int) by omega]; exact BitVec.ofInt_natCast ..
  have h2 : BitVec.ofInt 64 (y.toNat : Int) = BitVec.ofNat 64 y.toNat := BitVec.ofInt_natCast ..
  have e : x.toNat * 256 ||| y.toNat = x.toNat * 256 + y.toNat := by
    have := Nat.shiftLeft_add_eq_or_of_lt (i := 8) (show y.toNat < 2 ^ 8 by omega) x.toNat
    rw [Nat.shiftLeft_eq] at this
    exact this.symm
  show IntKind.i64.wrap _ = _
  rw [show IntKind.i64.bits = 64 from rfl, h1, h2]
  rw [BitVec.toNat_or, BitVec.toNat_ofNat, BitVec.toNat_ofNat, Nat.mod_eq_of_lt (by omega), Nat.mod_eq_of_lt (by omega), e]
  exact IntWalk.i64_in _ ⟨by omega, by omega⟩

/-- what frame.Get makes of bytes: kind, body, how many bytes, what went wrong -/
def gf (l : List UInt8) : Nat × List UInt8 × Nat × Nat :=
  if l.length < 7 then (0, [], 0, 5)
  else if (l.headD 0).toNat = 0 ∨ 4000 < (l.getD 1 0).toNat * 256 + (l.getD 2 0).toNat then (0, [], 0, 3)
  else if l.length < (l.getD 1 0).toNat * 256 + (l.getD 2 0).toNat + 7 then (0, [], 0, 5)
  else if (l.drop ((l.getD 1 0).toNat * 256 + (l.getD 2 0).toNat + 3)).take 4 ≠ fourL (crcL (l.take ((l.getD 1 0).toNat * 256 + (l.getD 2 0).toNat + 3))).toNat then (0, [], 0, 6)
  else ((l.headD 0).toNat, (l.drop 3).take ((l.getD 1 0).toNat * 256 + (l.getD 2 0).toNat), (l.getD 1 0).toNat * 256 + (l.getD 2 0).toNat + 7, 0)
def frV (x : Nat × List UInt8 × Nat × Nat) : Value := .tuple #[.agg #[.int .i64 x.1, .string ⟨x.2.1.toArray⟩], .int .i64 x.2.2.1, .int .i64 x.2.2.2]

theorem _root_.Go.RowKit.Below.drewN' {B : Nat} {a w : World} (h : Below B a w) (n : Nat) : Below B a (w.drewN n) := ⟨h.os, h.tape, h.output, h.size, h.block⟩

theorem _root_.BitVec.isLt_int (x : BitVec 32) : (x.toNat : Int) < 4294967296 := by have := x.isLt; omega
theorem fget_short (s : ByteArray) (h : (s.size : Int) < 7) (w : World) :
    Calls Try.prog 126 #[.string s] w fun e w' => e = .returned (frV (0, [], 0, 5)) ∧ Below w.heap.size w w' := by
  go_enter Try.func126, Try.ntmps126
  go_wp2_with fail
  exact bodyPost_ret (v := frV (0, [], 0, 5)) (by simp [results, Try.results126, go_sem, frV]) rfl ⟨rfl, (Below.refl _ _).alloc (Nat.le_refl _) _⟩
theorem fget_bad (s : ByteArray) (h : 7 ≤ (s.size : Int)) (n : Nat) (hn : n = (s[1]'(by omega)).toNat * 256 + (s[2]'(by omega)).toNat) (hbad : (s[0]'(by omega)).toNat = 0 ∨ 4000 < n) (w : World) :
    Calls Try.prog 126 #[.string s] w fun e w' => e = .returned (frV (0, [], 0, 3)) ∧ Below w.heap.size w w' := by
  have h1 : (1 : Int) < (s.size : Int) := by omega
  have h2 : (2 : Int) < (s.size : Int) := by omega
  have h3 : (0 : Int) < (s.size : Int) := by omega
  have hE := or_hi (s[1]'(by omega)) (s[2]'(by omega))
  rw [← hn] at hE
  have b0 : ((s[0]'(by omega)).toNat : Int) < 256 := by have := (s[0]'(by omega)).toNat_lt; omega
  have b1 : ((s[1]'(by omega)).toNat : Int) < 256 := by have := (s[1]'(by omega)).toNat_lt; omega
  have b2 : ((s[2]'(by omega)).toNat : Int) < 256 := by have := (s[2]'(by omega)).toNat_lt; omega
  clear hn
  by_cases h0 : (s[0]'(by omega)).toNat = 0
  · have h0' : (((s[0]'(by omega)).toNat : Int) == 0) = true := by simp [h0]
    clear h0 hbad
    go_enter Try.func126, Try.ntmps126
    go_wp2_with fail
    go_quiet (fail)
    go_wp2_with fail
    exact bodyPost_ret (v := frV (0, [], 0, 3)) (by simp [results, Try.results126, go_sem, frV]) rfl ⟨rfl, (((((Below.refl _ _).alloc (Nat.le_refl _) _).drewN' _).setCell (Nat.le_refl _) _).setCell (Nat.le_refl _) _)⟩
  · have h0' : (((s[0]'(by omega)).toNat : Int) == 0) = false := by simp [h0]
    have hb : (4000 : Int) < (n : Int) := by omega
    clear h0 hbad
    go_enter Try.func126, Try.ntmps126
    go_wp2_with fail
    go_quiet (fail)
    go_wp2_with fail
    exact bodyPost_ret (v := frV (0, [], 0, 3)) (by simp [results, Try.results126, go_sem, frV]) rfl ⟨rfl, (((((Below.refl _ _).alloc (Nat.le_refl _) _).drewN' _).setCell (Nat.le_refl _) _).setCell (Nat.le_refl _) _)⟩
theorem fget_cut (s : ByteArray) (h : 7 ≤ (s.size : Int)) (n : Nat) (hn : n = (s[1]'(by omega)).toNat * 256 + (s[2]'(by omega)).toNat) (h00 : ¬ (s[0]'(by omega)).toNat = 0) (hb : (n : Int) ≤ 4000) (hc : (s.size : Int) < (n : Int) + 7) (w : World) :
    Calls Try.prog 126 #[.string s] w fun e w' => e = .returned (frV (0, [], 0, 5)) ∧ Below w.heap.size w w' := by
  have h1 : (1 : Int) < (s.size : Int) := by omega
  have h2 : (2 : Int) < (s.size : Int) := by omega
  have h3 : (0 : Int) < (s.size : Int) := by omega
  have hE := or_hi (s[1]'(by omega)) (s[2]'(by omega))
  rw [← hn] at hE
  have b0 : ((s[0]'(by omega)).toNat : Int) < 256 := by have := (s[0]'(by omega)).toNat_lt; omega
  have b1 : ((s[1]'(by omega)).toNat : Int) < 256 := by have := (s[1]'(by omega)).toNat_lt; omega
  have b2 : ((s[2]'(by omega)).toNat : Int) < 256 := by have := (s[2]'(by omega)).toNat_lt; omega
  clear hn
  have h0' : (((s[0]'(by omega)).toNat : Int) == 0) = false := by simp [h00]
  go_enter Try.func126, Try.ntmps126
  go_wp2_with fail
  go_quiet (fail)
  go_wp2_with fail
  exact bodyPost_ret (v := frV (0, [], 0, 5)) (by simp [results, Try.results126, go_sem, frV]) rfl ⟨rfl, (((((Below.refl _ _).alloc (Nat.le_refl _) _).drewN' _).setCell (Nat.le_refl _) _).setCell (Nat.le_refl _) _)⟩
theorem fget_sum (s : ByteArray) (h : 7 ≤ (s.size : Int)) (n : Nat) (hn : n = (s[1]'(by omega)).toNat * 256 + (s[2]'(by omega)).toNat) (h00 : ¬ (s[0]'(by omega)).toNat = 0) (hb : (n : Int) ≤ 4000) (hc : (n : Int) + 7 ≤ (s.size : Int))
    (sum : Bool) (hsum : ((s.data.toList.drop (n + 3)).take 4 == fourL (crcL (s.data.toList.take (n + 3))).toNat) = sum) (w : World) :
    Calls Try.prog 126 #[.string s] w fun e w' => e = .returned (frV (if sum then ((s[0]'(by omega)).toNat, (s.data.toList.drop 3).take n, n + 7, 0) else (0, [], 0, 6))) ∧ Below w.heap.size w w' := by
  have h1 : (1 : Int) < (s.size : Int) := by omega
  have h2 : (2 : Int) < (s.size : Int) := by omega
  have h3 : (0 : Int) < (s.size : Int) := by omega
  have hE := or_hi (s[1]'(by omega)) (s[2]'(by omega))
  rw [← hn] at hE
  have b0 : ((s[0]'(by omega)).toNat : Int) < 256 := by have := (s[0]'(by omega)).toNat_lt; omega
  have b1 : ((s[1]'(by omega)).toNat : Int) < 256 := by have := (s[1]'(by omega)).toNat_lt; omega
  have b2 : ((s[2]'(by omega)).toNat : Int) < 256 := by have := (s[2]'(by omega)).toNat_lt; omega
  clear hn
  have h0' : (((s[0]'(by omega)).toNat : Int) == 0) = false := by simp [h00]
  have Hsum := Lib.hid hsum
  clear hsum
  go_enter Try.func126, Try.ntmps126
  go_wp2_with fail
  go_quiet (fail)
  go_wp2_with fail
  have hW : Below w.heap.size w (((w.alloc (Obj.cells #[Value.int IntKind.i64 0, Value.string { data := #[] }] 170)).drewN nq)) := (((Below.refl w.heap.size w).alloc (Nat.le_refl _) _).drewN' _)
  have hblk : Blk (((w.alloc (Obj.cells #[Value.int IntKind.i64 0, Value.string { data := #[] }] 170)).drewN nq)) w.heap.size 170 #[Value.int IntKind.i64 0, Value.string { data := #[] }] := (Blk.new w _ _).drewN nq
  have hlt : w.heap.size < (((w.alloc (Obj.cells #[Value.int IntKind.i64 0, Value.string { data := #[] }] 170)).drewN nq)).heap.size := hblk.lt
  generalize ((w.alloc (Obj.cells #[Value.int IntKind.i64 0, Value.string { data := #[] }] 170)).drewN nq) = W1 at *
  have hb0 := Below.refl W1.heap.size W1
  have sz1 : (s.extract 0 (n + 3)).size ≤ 9223372036854775807 := by rw [← bs_len, bs_extract, List.length_drop, List.length_take, bs_len]; omega
  have g1 : (0 : Int) ≤ (n : Int) + 3 := by omega
  have g2 : (n : Int) + 3 ≤ (n : Int) + 7 := by omega
  have g3 : (0 : Int) ≤ (n : Int) + 7 := by omega
  have g4 : (n : Int) + 3 ≤ (s.size : Int) := by omega
  have e3 : IntKind.i64.wrap ((n : Int) + 3) = (n : Int) + 3 := IntWalk.i64_in _ (by omega)
  have e7 : IntKind.i64.wrap ((n : Int) + 7) = (n : Int) + 7 := IntWalk.i64_in _ (by omega)
  have t3 : ((n : Int) + 3).toNat = n + 3 := by omega
  have t7 : ((n : Int) + 7).toNat = n + 7 := by omega
  go_region_held3 (fun w' => Below W1.heap.size W1 w')
    (first | assumption | exact Below.drew (by assumption) | exact Below.trans (by assumption) (Below.mono hb9 (Below.size (by assumption))))
    ((first | (go_at_call 124; refine (of_any _ _ (by assumption)).mono ?_; rintro e w9 ⟨rfl, hb9⟩) | (go_at_call 123; refine (four_any _ (BitVec.isLt_int _) _).mono ?_; rintro e w9 ⟨rfl, hb9⟩)))
  have hbw : Below W1.heap.size W1 w9 := by assumption
  have hblk9 := hblk.below hbw hlt
  have hcell0 := hblk9.cell 0
  have hcell1 := hblk9.cell 1
  have hfr0 := hblk9.frozen 0
  have hfr1 := hblk9.frozen 1
  have hEq : ((s.extract (n + 3) (n + 7)).toList == fourL (crcL (List.take (n + 3) s.data.toList)).toNat) = sum := by
    rw [← Hsum.out, ByteArray.toList_eq, bs_extract, List.drop_take, show n + 7 - (n + 3) = 4 by omega]
  rw [hEq]
  clear hEq
  cases sum
  · go_wp2_with fail
    have hB := ((hblk9.set_ 0 (.int .i64 0)).set_ 1 (.string ⟨#[]⟩))
    have hbl : Below w.heap.size w ((w9.setCell ⟨w.heap.size, 0, none⟩ (.int .i64 0)).setCell ⟨w.heap.size, 1, none⟩ (.string ⟨#[]⟩)) :=
      ((hW.trans (hbw.mono (by omega))).setCell (p := ⟨w.heap.size, 0, none⟩) (Nat.le_refl _) _).setCell (p := ⟨w.heap.size, 1, none⟩) (Nat.le_refl _) _
    have c0 := hB.cell 0
    have c1 := hB.cell 1
    clear hcell0 hcell1 hfr0 hfr1 hblk9 hB
    generalize (w9.setCell ⟨w.heap.size, 0, none⟩ (.int .i64 0)).setCell ⟨w.heap.size, 1, none⟩ (.string ⟨#[]⟩) = W2 at *
    exact bodyPost_ret (v := frV (0, [], 0, 6)) (by simp [results, Try.results126, go_sem, frV, c0, c1]) rfl ⟨rfl, hbl⟩
  · go_wp2_with fail
    go_region
    go_wp2_with fail
    have eS : s.extract 3 (n + 3) = ⟨((s.data.toList.drop 3).take n).toArray⟩ := bs_ext (by rw [bs_extract]; simp [List.drop_take])
    rw [eS]
    have hB := ((hblk9.set_ 0 (.int .i64 (s[0]'(by omega)).toNat)).set_ 1 (.string ⟨((s.data.toList.drop 3).take n).toArray⟩)).drew
    have hbl : Below w.heap.size w ((w9.setCell ⟨w.heap.size, 0, none⟩ (.int .i64 (s[0]'(by omega)).toNat)).setCell ⟨w.heap.size, 1, none⟩ (.string ⟨((s.data.toList.drop 3).take n).toArray⟩)).drew :=
      (((hW.trans (hbw.mono (by omega))).setCell (p := ⟨w.heap.size, 0, none⟩) (Nat.le_refl _) _).setCell (p := ⟨w.heap.size, 1, none⟩) (Nat.le_refl _) _).drew
    have c0 := hB.cell 0
    have c1 := hB.cell 1
    clear hcell0 hcell1 hfr0 hfr1 hblk9 hB
    generalize ((w9.setCell ⟨w.heap.size, 0, none⟩ (.int .i64 (s[0]'(by omega)).toNat)).setCell ⟨w.heap.size, 1, none⟩ (.string ⟨((s.data.toList.drop 3).take n).toArray⟩)).drew = W2 at *
    exact bodyPost_ret (v := frV ((s[0]'(by omega)).toNat, (s.data.toList.drop 3).take n, n + 7, 0)) (by simp [results, Try.results126, go_sem, frV, c0, c1]) rfl ⟨rfl, hbl⟩

theorem bs_get (s : ByteArray) (i : Nat) (h : i < s.size) : s.data.toList.getD i 0 = s[i] := by
  have h' : i < s.data.toList.length := h
  rw [List.getD_eq_getElem?_getD, List.getElem?_eq_getElem h']
  rfl
theorem fget_any (s : ByteArray) (w : World) :
    Calls Try.prog 126 #[.string s] w fun e w' => e = .returned (frV (gf s.data.toList)) ∧ Below w.heap.size w w' := by
  by_cases h7 : s.size < 7
  · rw [show gf s.data.toList = (0, [], 0, 5) by unfold gf; rw [if_pos (by rw [bs_len]; exact h7)]]
    exact fget_short s (by omega) w
  have e1 := bs_get s 1 (by omega)
  have e2 := bs_get s 2 (by omega)
  have e0 : s.data.toList.headD 0 = s[0]'(by omega) := by
    rw [← bs_get s 0 (by omega)]; cases s.data.toList <;> rfl
  unfold gf
  rw [if_neg (by rw [bs_len]; exact h7), e0, e1, e2, bs_len]
  obtain ⟨n, hn⟩ : ∃ n, n = (s[1]'(by omega)).toNat * 256 + (s[2]'(by omega)).toNat := ⟨_, rfl⟩
  rw [← hn]
  by_cases hbad : (s[0]'(by omega)).toNat = 0 ∨ 4000 < n
  · rw [if_pos hbad]
    exact fget_bad s (by omega) n hn hbad w
  rw [if_neg hbad]
  by_cases hc : s.size < n + 7
  · rw [if_pos hc]
    exact fget_cut s (by omega) n hn (by omega) (by omega) (by omega) w
  rw [if_neg hc]
  have h := fget_sum s (by omega) n hn (by omega) (by omega) (by omega) _ rfl w
  by_cases hs : (s.data.toList.drop (n + 3)).take 4 = fourL (crcL (s.data.toList.take (n + 3))).toNat
  · rw [if_neg (by simpa using hs)]
    rw [if_pos (by simpa using hs)] at h
    exact h
  · rw [if_pos hs]
    rw [if_neg (by simpa using hs)] at h
    exact h
end Go.Proofs.Ytmnnaemcjmiplaa
namespace Go.Proofs.Ytmnnaemcjmiplaa
set_option linter.unusedVariables false
set_option linter.unusedSimpArgs false
set_option maxRecDepth 100000

theorem stp_xor (a b : BitVec 32) : stp (a ^^^ b) = stp a ^^^ stp b := by
  unfold stp
  rw [BitVec.getLsbD_xor]
  ext i hi
  cases a.getLsbD 0 <;> cases b.getLsbD 0 <;> simp [Bool.xor_assoc, Bool.xor_comm, Bool.xor_left_comm]
theorem stp_zero : stp 0#32 = 0#32 := by decide
theorem stps_xor (n : Nat) (a b : BitVec 32) : stps n (a ^^^ b) = stps n a ^^^ stps n b := by
  induction n with
  | zero => rfl
  | succ n ih => simp only [stps, ih, stp_xor]
theorem stps_zero (n : Nat) : stps n 0#32 = 0#32 := by
  induction n with
  | zero => rfl
  | succ n ih => simp only [stps, ih, stp_zero]
theorem stps_stp (n : Nat) (x : BitVec 32) : stps n (stp x) = stp (stps n x) := by
  induction n with
  | zero => rfl
  | succ n ih => simp only [stps, ih]
theorem stp_even (x : BitVec 32) (h : x.getLsbD 0 = false) : stp x = x >>> 1 := by
  unfold stp; rw [h]; simp
theorem stp_ne (x : BitVec 32) (h : x ≠ 0#32) : stp x ≠ 0#32 := by
  intro h0
  have hb : x.getLsbD 0 = false := by
    have := congrArg (fun y : BitVec 32 => y.getLsbD 31) h0
    unfold stp at this
    cases hx : x.getLsbD 0
    · rfl
    · rw [hx] at this; simp [poly] at this
  rw [stp_even x hb] at h0
  apply h
  have h1 := congrArg BitVec.toNat h0
  rw [BitVec.toNat_ushiftRight, Nat.shiftRight_eq_div_pow] at h1
  have h2 : x.toNat % 2 = 0 := by
    have : x.toNat.testBit 0 = false := hb
    rw [Nat.testBit_zero] at this
    simpa using this
  apply BitVec.eq_of_toNat_eq
  simp at h1 ⊢
  omega
theorem stps_ne (n : Nat) (x : BitVec 32) (h : x ≠ 0#32) : stps n x ≠ 0#32 := by
  induction n with
  | zero => exact h
  | succ n ih => exact stp_ne _ ih

/-- n bits of the number D taken in, the lowest first -/
def kb (x : BitVec 32) (D : Nat) : Nat → BitVec 32
  | 0 => x
  | n + 1 => kb (stp (x ^^^ BitVec.ofNat 32 (D % 2))) (D / 2) n
theorem kb_add (m : Nat) : ∀ (x : BitVec 32) (D n : Nat), kb x D (m + n) = kb (kb x D m) (D / 2 ^ m) n := by
  induction m with
  | zero => intro x D n; simp [kb]
  | succ m ih =>
    intro x D n
    rw [show m + 1 + n = (m + n) + 1 by omega]
    simp only [kb]
    rw [ih, Nat.div_div_eq_div_mul, Nat.pow_succ, Nat.mul_comm 2]
theorem kb_mod (m : Nat) : ∀ (x : BitVec 32) (D E : Nat), D % 2 ^ m = E % 2 ^ m → kb x D m = kb x E m := by
  induction m with
  | zero => intros; rfl
  | succ m ih =>
    intro x D E h
    have h2 : D % 2 = E % 2 := by
      have : D % 2 ^ (m + 1) % 2 = E % 2 ^ (m + 1) % 2 := by rw [h]
      rwa [Nat.mod_mod_of_dvd _ (Nat.dvd_of_pow_dvd (Nat.succ_le_succ (Nat.zero_le m)) (Nat.dvd_refl _)), Nat.mod_mod_of_dvd _ (Nat.dvd_of_pow_dvd (Nat.succ_le_succ (Nat.zero_le m)) (Nat.dvd_refl _))] at this
    have h3 : D / 2 % 2 ^ m = E / 2 % 2 ^ m := by
      have : D % 2 ^ (m + 1) / 2 = E % 2 ^ (m + 1) / 2 := by rw [h]
      rwa [Nat.pow_succ, Nat.mul_comm, Nat.mod_mul_right_div_self, Nat.mod_mul_right_div_self] at this
    simp only [kb, h2]
    exact ih _ _ _ h3
theorem ofNat_xor (a b : Nat) : BitVec.ofNat 32 (a ^^^ b) = BitVec.ofNat 32 a ^^^ BitVec.ofNat 32 b := by
  apply BitVec.eq_of_getLsbD_eq
  intro i hi
  simp [BitVec.getLsbD_ofNat, hi]
theorem xor_half (a b : Nat) : (a ^^^ b) / 2 = a / 2 ^^^ b / 2 := by
  apply Nat.eq_of_testBit_eq
  intro i
  simp only [Nat.testBit_xor, Nat.testBit_div_two]
theorem xor_low (a b : Nat) : (a ^^^ b) % 2 = a % 2 ^^^ b % 2 := by
  apply Nat.eq_of_testBit_eq
  intro i
  have h (x : Nat) : (x % 2).testBit i = (decide (i < 1) && x.testBit i) := Nat.testBit_mod_two_pow x 1 i
  simp only [h, Nat.testBit_xor]
  cases decide (i < 1) <;> simp
theorem kb_xor (n : Nat) : ∀ (x y : BitVec 32) (D E : Nat), kb (x ^^^ y) (D ^^^ E) n = kb x D n ^^^ kb y E n := by
  induction n with
  | zero => intros; rfl
  | succ n ih =>
    intro x y D E
    simp only [kb]
    rw [xor_half, ← ih, ← stp_xor, xor_low, ofNat_xor]
    congr 2
    ext i hi
    simp [Bool.xor_assoc, Bool.xor_comm, Bool.xor_left_comm]
theorem kb_zero (n : Nat) (x : BitVec 32) : kb x 0 n = stps n x := by
  induction n generalizing x with
  | zero => rfl
  | succ n ih => simp only [kb]; rw [show (0 : Nat) / 2 = 0 from rfl, ih, stps, ← stps_stp]; congr 2; simp
theorem kb_word (n : Nat) : ∀ (x : BitVec 32) (w : Nat), w < 2 ^ n → n ≤ 32 → kb x w n = stps n (x ^^^ BitVec.ofNat 32 w) := by
  induction n with
  | zero =>
    intro x w h _
    obtain rfl : w = 0 := by simpa using h
    simp [kb, stps]
  | succ n ih =>
    intro x w h hn
    simp only [kb]
    rw [ih _ _ (by rw [Nat.pow_succ] at h; omega) (by omega), stps, ← stps_stp]
    congr 1
    have hp : 2 ^ (n + 1) ≤ 2 ^ 32 := Nat.pow_le_pow_right (by omega) hn
    have e1 : BitVec.ofNat 32 w = BitVec.ofNat 32 (w % 2) ^^^ BitVec.ofNat 32 (w / 2 * 2) := by
      rw [← ofNat_xor]
      congr 1
      apply Nat.eq_of_testBit_eq
      intro i
      rw [Nat.testBit_xor]
      rcases i with _ | i
      · simp only [Nat.testBit_zero]; rw [Bool.eq_iff_iff]; simp
      · simp only [Nat.testBit_succ]; rw [show w % 2 / 2 = 0 by omega, show w / 2 * 2 / 2 = w / 2 by omega]; simp
    have e2 : stp (BitVec.ofNat 32 (w / 2 * 2)) = BitVec.ofNat 32 (w / 2) := by
      rw [stp_even]
      · apply BitVec.eq_of_toNat_eq
        rw [BitVec.toNat_ushiftRight, BitVec.toNat_ofNat, BitVec.toNat_ofNat, Nat.shiftRight_eq_div_pow]
        omega
      · rw [BitVec.getLsbD_ofNat]; simp [Nat.testBit_zero]
    conv => rhs; rw [e1, ← BitVec.xor_assoc, stp_xor, e2]

theorem low_bits (z : BitVec 32) (n : Nat) (h : ∀ k, k < n → z.getLsbD k = false) : stps n z = z >>> n := by
  induction n with
  | zero => simp [stps]
  | succ n ih =>
    rw [stps, ih (fun k hk => h k (by omega)), stp_even]
    · rw [BitVec.shiftRight_add]
    · rw [BitVec.getLsbD_ushiftRight]; simpa using h n (by omega)
theorem crcF_kb (x : BitVec 32) (b : UInt8) : crcF x b = kb x b.toNat 8 := by
  have hb := b.toNat_lt
  rw [kb_word 8 x b.toNat (by omega) (by omega)]
  unfold crcF tabN
  have e1 : x ^^^ BitVec.ofNat 32 b.toNat = (x ^^^ BitVec.ofNat 32 (x.toNat % 256)) ^^^ BitVec.ofNat 32 (x.toNat % 256 ^^^ b.toNat) := by
    rw [ofNat_xor, BitVec.xor_assoc, ← BitVec.xor_assoc (BitVec.ofNat 32 (x.toNat % 256)), BitVec.xor_self, BitVec.zero_xor]
  have hm (k : Nat) : (x.toNat % 256).testBit k = (decide (k < 8) && x.getLsbD k) := Nat.testBit_mod_two_pow x.toNat 8 k
  rw [e1, stps_xor, low_bits (x ^^^ BitVec.ofNat 32 (x.toNat % 256))]
  · congr 1
    apply BitVec.eq_of_getLsbD_eq
    intro i hi
    rw [BitVec.getLsbD_ushiftRight, BitVec.getLsbD_ushiftRight, BitVec.getLsbD_xor, BitVec.getLsbD_ofNat, hm]
    rw [show decide (8 + i < 8) = false by simp]
    simp
  · intro k hk
    rw [BitVec.getLsbD_xor, BitVec.getLsbD_ofNat, hm]
    simp [hk, show k < 32 by omega]

/-- a text as a number, the lowest byte first -/
def val : List UInt8 → Nat
  | [] => 0
  | c :: r => c.toNat + 256 * val r
theorem fold_kb (l : List UInt8) : ∀ x, l.foldl crcF x = kb x (val l) (8 * l.length) := by
  induction l with
  | nil => intro x; rfl
  | cons c r ih =>
    intro x
    have hc := c.toNat_lt
    rw [List.foldl_cons, ih, crcF_kb, List.length_cons, show 8 * (r.length + 1) = 8 + 8 * r.length by omega, kb_add]
    rw [kb_mod 8 x (val (c :: r)) c.toNat (by simp only [val]; omega), show val (c :: r) / 2 ^ 8 = val r by simp only [val]; omega]
theorem crcL_kb (l : List UInt8) : crcL l = ~~~ kb (~~~ 0#32) (val l) (8 * l.length) := by rw [crcL, fold_kb]

theorem kb_shift (at_ : Nat) (T n : Nat) : kb 0#32 (T * 2 ^ at_) (at_ + n) = kb 0#32 T n := by
  rw [kb_add, Nat.mul_div_cancel _ (Nat.two_pow_pos _), kb_mod at_ _ (T * 2 ^ at_) 0 (by simp), kb_zero, stps_zero]
/-- what is turned within 32 bits in a row is told -/
theorem crc_burst (l l' : List UInt8) (at_ T m : Nat) (hlen : l'.length = l.length) (h8 : 8 * l.length = at_ + (32 + m)) (hv : val l' = val l ^^^ T * 2 ^ at_) (hT : T < 2 ^ 32) (h0 : T ≠ 0) : crcL l' ≠ crcL l := by
  intro h
  rw [crcL_kb, crcL_kb, hlen, hv] at h
  have h := BitVec.not_inj.1 h
  have h2 := kb_xor (8 * l.length) (~~~ 0#32) 0#32 (val l) (T * 2 ^ at_)
  rw [BitVec.xor_zero] at h2
  rw [h2] at h
  have h3 : kb 0#32 (T * 2 ^ at_) (8 * l.length) = 0#32 := by
    have := congrArg (kb (~~~ 0#32) (val l) (8 * l.length) ^^^ ·) h
    simp only [← BitVec.xor_assoc, BitVec.xor_self, BitVec.zero_xor] at this
    exact this
  rw [h8, kb_shift, kb_add, kb_word 32 _ T hT (by omega), Nat.div_eq_of_lt hT, kb_zero] at h3
  refine stps_ne m _ (stps_ne 32 _ ?_) h3
  rw [BitVec.zero_xor]
  intro h4
  have := congrArg BitVec.toNat h4
  simp at this
  omega
theorem val_set (l : List UInt8) : ∀ (j r : Nat) (c : UInt8) (hj : j < l.length), r < 8 → c.toNat = l[j].toNat ^^^ 2 ^ r → val (l.set j c) = val l ^^^ 2 ^ (8 * j + r) := by
  induction l with
  | nil => intro j r c hj; simp at hj
  | cons b t ih =>
    intro j r c hj hr hc
    have h256 (x y X Y : Nat) (hx : x < 256) (hy : y < 256) : (x + 256 * X) ^^^ (y + 256 * Y) = (x ^^^ y) + 256 * (X ^^^ Y) := by
      have hxy : x ^^^ y < 2 ^ 8 := Nat.xor_lt_two_pow (by omega) (by omega)
      have e (u U : Nat) (hu : u < 2 ^ 8) : u + 256 * U = 2 ^ 8 * U + u := by omega
      rw [e x X hx, e y Y hy, e _ _ hxy]
      apply Nat.eq_of_testBit_eq
      intro i
      rw [Nat.testBit_xor, Nat.testBit_two_pow_mul_add _ hx, Nat.testBit_two_pow_mul_add _ hy, Nat.testBit_two_pow_mul_add _ hxy]
      split <;> simp [Nat.testBit_xor]
    have hp : 2 ^ r ≤ 2 ^ 7 := Nat.pow_le_pow_right (by omega) (by omega)
    have hb := b.toNat_lt
    rcases j with _ | j
    · simp only [List.set_cons_zero, val, List.getElem_cons_zero] at hc ⊢
      rw [hc, Nat.mul_zero, Nat.zero_add]
      have := h256 b.toNat (2 ^ r) (val t) 0 hb (by omega)
      simpa using this.symm
    · simp only [List.set_cons_succ, val]
      rw [ih j r c (by simpa using hj) hr (by simpa using hc)]
      have := h256 b.toNat 0 (val t) (2 ^ (8 * j + r)) hb (by omega)
      rw [show 8 * (j + 1) + r = 8 + (8 * j + r) by omega, Nat.pow_add 2 8]
      simpa using this.symm
theorem bit_next (v T at_ i : Nat) : (v ^^^ T % 2 ^ i * 2 ^ at_) ^^^ (if T.testBit i then 2 ^ (at_ + i) else 0) = v ^^^ T % 2 ^ (i + 1) * 2 ^ at_ := by
  rw [Nat.xor_assoc]
  congr 1
  apply Nat.eq_of_testBit_eq
  intro k
  rw [Nat.testBit_xor, Nat.testBit_mul_two_pow, Nat.testBit_mul_two_pow, Nat.testBit_mod_two_pow, Nat.testBit_mod_two_pow]
  by_cases hT : T.testBit i
  · rw [if_pos hT, Nat.testBit_two_pow]
    by_cases h1 : at_ ≤ k
    · by_cases h2 : k - at_ = i
      · rw [h2]; simp [hT, h1, show at_ + i = k by omega]
      · simp [h1, show ¬ at_ + i = k by omega, show (k - at_ < i + 1) = (k - at_ < i) by simp; omega]
    · simp [h1, show ¬ at_ + i = k by omega]
  · rw [if_neg hT]
    by_cases h2 : k - at_ = i
    · rw [h2]; simp [hT]
    · simp [show (k - at_ < i + 1) = (k - at_ < i) by simp; omega]
end Go.Proofs.Ytmnnaemcjmiplaa
