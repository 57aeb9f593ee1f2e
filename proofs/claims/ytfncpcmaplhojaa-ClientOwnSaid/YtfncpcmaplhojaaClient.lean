/- Contracts of client.Check. -/
import Derived.Test.YtfncpcmaplhojaaCatch
import Derived.Test.YtfncpcmaplhojaaCatchLaw
import Derived.Test.YtfncpcmaplhojaaMine
namespace Go.Proofs.Ytfncpcmaplhojaa
open Go.ChangeShapes Go.WideShapes Go.RowKit
set_option linter.unusedVariables false
set_option linter.unusedSimpArgs false
set_option maxRecDepth 100000
set_option maxHeartbeats 4000000

/-- a client -/
structure Cl where
  who : Int
  rev : Int
  seq : Int
  text : ByteArray
  fly : Bool
  sent : List Pt
  wait : Bool
  held : List Pt
def clc (c : Cl) (s h : Sl) : Array Value := #[.int .i64 c.who, .int .i64 c.rev, .int .i64 c.seq, .string c.text, .bool c.fly, .slice s.1 s.2.1 s.2.2, .bool c.wait, .slice h.1 h.2.1 h.2.2]
def clv (c : Cl) (s h : Sl) : Value := .agg (clc c s h)
/-- a client that Check finds right -/
structure CkOk (c : Cl) : Prop where
  who0 : 0 ≤ c.who
  who7 : c.who ≤ 7
  rev0 : 0 ≤ c.rev
  rev1 : c.rev ≤ 2147483647
  seq0 : 0 ≤ c.seq
  seq1 : c.seq ≤ 2147483647
  text : c.text.size ≤ 500
  sent0 : c.fly = false → c.sent = []
  held0 : c.wait = false → c.held = []
  wf : c.wait = true → c.fly = true
  hk : c.wait = true → chk c.held = 0 ∧ nO (units c.held) = c.text.size
  sk : c.fly = true → chk c.sent = 0 ∧ nO (units c.sent) = (if c.wait then nI (units c.held) else c.text.size)
theorem ccheck_TT (a r s : Int) (t : ByteArray) (A A' : Option Addr) (n n' c c' : Nat) (S H : List Pt) (w : World) (a0 : 0 ≤ a) (a7 : a ≤ 7) (r0 : 0 ≤ r) (r1 : r ≤ 2147483647) (s0 : 0 ≤ s) (s1 : s ≤ 2147483647) (ht : (t.size : Int) ≤ 500)
    (hS : RdP w w.heap.size A n c S) (hH : RdP w w.heap.size A' n' c' H) (k1 : chk H = 0) (k2 : nO (units H) = t.size) (k3 : chk S = 0) (k4 : nO (units S) = nI (units H)) :
    Calls Try.prog 33 #[.agg #[.int .i64 a, .int .i64 r, .int .i64 s, .string t, .bool true, .slice A n c, .bool true, .slice A' n' c']] w fun e w' => e = .returned (.int .i64 0) ∧ Below w.heap.size w w' := by
  have HS := Lib.hid hS
  have HH := Lib.hid hH
  have K1 := Lib.hid k1
  have K2 := Lib.hid k2
  have K3 := Lib.hid k3
  have K4 := Lib.hid k4
  clear hS hH k1 k2 k3 k4
  go_enter Try.func33, Try.ntmps33
  go_wp2_with fail
  refine wp_loop_rounds 3 ?_
  rw [rounds_succ]
  have kb := (Blk.new (w.alloc (.cells #[.int .i64 a, .int .i64 r, .int .i64 s, .string t, .bool true, .slice A n c, .bool true, .slice A' n' c'] 52)) 132 #[.bool true, .slice A' n' c', .bool true, .slice A n c]).alloc (.cells #[.bool true, .slice A' n' c'] 132)
  simp only [World.size_alloc] at kb
  have hb0 := (((Below.refl w.heap.size w).alloc (Nat.le_refl _) (.cells #[.int .i64 a, .int .i64 r, .int .i64 s, .string t, .bool true, .slice A n c, .bool true, .slice A' n' c'] 52)).alloc (by simp) (.cells #[.bool true, .slice A' n' c', .bool true, .slice A n c] 132)).alloc (by simp; omega) (.cells #[.bool true, .slice A' n' c'] 132)
  go_wp2_with fail
  generalize ((w.alloc (.cells #[.int .i64 a, .int .i64 r, .int .i64 s, .string t, .bool true, .slice A n c, .bool true, .slice A' n' c'] 52)).alloc (.cells #[.bool true, .slice A' n' c', .bool true, .slice A n c] 132)).alloc (.cells #[.bool true, .slice A' n' c'] 132) = W at *
  have hc := psizes_good H A' n' c' w.heap.size W (HH.out.below hb0) hb0.size K1.out
  rw [K2.out] at hc
  refine hc.mono ?_
  rintro e w1 ⟨rfl, hb1⟩
  have hw1 := hb0.trans (hb1.mono hb0.size)
  have k1 := kb.below hb1 kb.lt
  have c2 := k1.cell 2
  have c3 := k1.cell 3
  have cl := k1.lt
  clear hb1 hb0 kb k1 hc
  go_wp2_with fail
  rw [rounds_succ]
  go_wp2_with fail
  have hc := psizes_good S A n c w.heap.size _ ((HS.out.below hw1).alloc hw1.size (.cells #[.bool true, .slice A n c] 132)) (by have := hw1.size; simp; omega) K3.out
  rw [K4.out] at hc
  refine hc.mono ?_
  rintro e w2 ⟨rfl, hb2⟩
  have hw2 := (hw1.alloc hw1.size (.cells #[.bool true, .slice A n c] 132)).trans (hb2.mono (by have := hw1.size; simp; omega))
  clear hb2 hc c2 c3 cl
  go_wp2_with fail
  rw [rounds_succ]
  go_wp2_with fail
  go_ret
  exact ⟨rfl, hw2⟩
theorem ccheck_TF (a r s : Int) (t : ByteArray) (A A' : Option Addr) (n c c' : Nat) (S : List Pt) (w : World) (a0 : 0 ≤ a) (a7 : a ≤ 7) (r0 : 0 ≤ r) (r1 : r ≤ 2147483647) (s0 : 0 ≤ s) (s1 : s ≤ 2147483647) (ht : (t.size : Int) ≤ 500)
    (hS : RdP w w.heap.size A n c S) (k3 : chk S = 0) (k4 : nO (units S) = t.size) :
    Calls Try.prog 33 #[.agg #[.int .i64 a, .int .i64 r, .int .i64 s, .string t, .bool true, .slice A n c, .bool false, .slice A' 0 c']] w fun e w' => e = .returned (.int .i64 0) ∧ Below w.heap.size w w' := by
  have HS := Lib.hid hS
  have K3 := Lib.hid k3
  have K4 := Lib.hid k4
  clear hS k3 k4
  go_enter Try.func33, Try.ntmps33
  go_wp2_with fail
  refine wp_loop_rounds 3 ?_
  rw [rounds_succ]
  go_wp2_with fail
  rw [rounds_succ]
  have hb0 := ((((Below.refl w.heap.size w).alloc (Nat.le_refl _) (.cells #[.int .i64 a, .int .i64 r, .int .i64 s, .string t, .bool true, .slice A n c, .bool false, .slice A' 0 c'] 52)).alloc (by simp) (.cells #[.bool false, .slice A' 0 c', .bool true, .slice A n c] 132)).alloc (by simp; omega) (.cells #[.bool false, .slice A' 0 c'] 132)).alloc (by simp; omega) (.cells #[.bool true, .slice A n c] 132)
  go_wp2_with fail
  generalize (((w.alloc (.cells #[.int .i64 a, .int .i64 r, .int .i64 s, .string t, .bool true, .slice A n c, .bool false, .slice A' 0 c'] 52)).alloc (.cells #[.bool false, .slice A' 0 c', .bool true, .slice A n c] 132)).alloc (.cells #[.bool false, .slice A' 0 c'] 132)).alloc (.cells #[.bool true, .slice A n c] 132) = W at *
  have hc := psizes_good S A n c w.heap.size W (HS.out.below hb0) hb0.size K3.out
  rw [K4.out] at hc
  refine hc.mono ?_
  rintro e w1 ⟨rfl, hb1⟩
  have hw1 := hb0.trans (hb1.mono hb0.size)
  clear hb1 hb0 hc
  go_wp2_with fail
  rw [rounds_succ]
  go_wp2_with fail
  go_ret
  exact ⟨rfl, hw1⟩
theorem ccheck_FF (a r s : Int) (t : ByteArray) (A A' : Option Addr) (c c' : Nat) (w : World) (a0 : 0 ≤ a) (a7 : a ≤ 7) (r0 : 0 ≤ r) (r1 : r ≤ 2147483647) (s0 : 0 ≤ s) (s1 : s ≤ 2147483647) (ht : (t.size : Int) ≤ 500) :
    Calls Try.prog 33 #[.agg #[.int .i64 a, .int .i64 r, .int .i64 s, .string t, .bool false, .slice A 0 c, .bool false, .slice A' 0 c']] w fun e w' => e = .returned (.int .i64 0) ∧ Below w.heap.size w w' := by
  go_enter Try.func33, Try.ntmps33
  go_wp2_with fail
  refine wp_loop_rounds 3 ?_
  rw [rounds_succ]
  go_wp2_with fail
  rw [rounds_succ]
  have hb0 := ((((Below.refl w.heap.size w).alloc (Nat.le_refl _) (.cells #[.int .i64 a, .int .i64 r, .int .i64 s, .string t, .bool false, .slice A 0 c, .bool false, .slice A' 0 c'] 52)).alloc (by simp) (.cells #[.bool false, .slice A' 0 c', .bool false, .slice A 0 c] 132)).alloc (by simp; omega) (.cells #[.bool false, .slice A' 0 c'] 132)).alloc (by simp; omega) (.cells #[.bool false, .slice A 0 c] 132)
  go_wp2_with fail
  rw [rounds_succ]
  go_wp2_with fail
  go_ret
  exact ⟨rfl, hb0⟩
theorem ccheck_large (a r s : Int) (t : ByteArray) (A A' : Option Addr) (n n' c c' : Nat) (f q : Bool) (w : World) (a0 : 0 ≤ a) (a7 : a ≤ 7) (r0 : 0 ≤ r) (r1 : r ≤ 2147483647) (s0 : 0 ≤ s) (s1 : s ≤ 2147483647) (ht : 500 < (t.size : Int)) :
    Calls Try.prog 33 #[.agg #[.int .i64 a, .int .i64 r, .int .i64 s, .string t, .bool f, .slice A n c, .bool q, .slice A' n' c']] w fun e w' => e = .returned (.int .i64 2) ∧ Below w.heap.size w w' := by
  have hb0 := ((Below.refl w.heap.size w).alloc (Nat.le_refl _) (.cells #[.int .i64 a, .int .i64 r, .int .i64 s, .string t, .bool f, .slice A n c, .bool q, .slice A' n' c'] 52))
  go_enter Try.func33, Try.ntmps33
  go_wp2_with fail
  go_ret
  exact ⟨rfl, hb0⟩
theorem ccheck_good (c : Cl) (s h : Sl) (w : World) (hk : CkOk c) (hS : RdP w w.heap.size s.1 s.2.1 s.2.2 c.sent) (hH : RdP w w.heap.size h.1 h.2.1 h.2.2 c.held) :
    Calls Try.prog 33 #[clv c s h] w fun e w' => e = .returned (.int .i64 0) ∧ Below w.heap.size w w' := by
  obtain ⟨a, r, sq, t, f, S, q, H⟩ := c
  obtain ⟨A, n, cp⟩ := s
  obtain ⟨A', n', cp'⟩ := h
  obtain ⟨h1, h2, h3, h4, h5, h6, h7, h8, h9, h10, h11, h12⟩ := hk
  simp only at *
  unfold clv clc
  simp only
  cases f with
  | false =>
    obtain rfl := h8 rfl
    cases q with
    | true => exact absurd (h10 rfl) (by decide)
    | false =>
      obtain rfl := h9 rfl
      obtain rfl : n = 0 := hS.1
      obtain rfl : n' = 0 := hH.1
      exact ccheck_FF a r sq t A A' cp cp' w h1 h2 h3 h4 h5 h6 (by omega)
  | true =>
    cases q with
    | true => exact ccheck_TT a r sq t A A' n n' cp cp' S H w h1 h2 h3 h4 h5 h6 (by omega) hS hH (h11 rfl).1 (h11 rfl).2 (h12 rfl).1 (by simpa using (h12 rfl).2)
    | false =>
      obtain rfl := h9 rfl
      obtain rfl : n' = 0 := hH.1
      exact ccheck_TF a r sq t A A' n cp cp' S w h1 h2 h3 h4 h5 h6 (by omega) hS (h12 rfl).1 (by simpa using (h12 rfl).2)
end Go.Proofs.Ytfncpcmaplhojaa
