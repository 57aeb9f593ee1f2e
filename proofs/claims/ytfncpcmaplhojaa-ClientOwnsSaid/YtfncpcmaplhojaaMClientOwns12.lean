/- Rows of parts of the call's own, short, of short texts. Contracts of client.Check. Structs in boxes: whole rows loaded and stored. Rows of deltas of the call's own. Contracts of client.copied, Out, Edit. -/
import Derived.Test.YtfncpcmaplhojaaMClientOwns11
import Derived.Test.YtfncpcmaplhojaaMClientOwns8
import Derived.Test.YtfncpcmaplhojaaMClientOwns10
import Derived.Test.YtfncpcmaplhojaaMClientOwns4
import Derived.Test.YtfncpcmaplhojaaMClientOwns3
import Derived.Deep.Cut
import Derived.StillTailTactics
import Derived.Deep.MidRow
namespace Go.Proofs.Ytfncpcmaplhojaa
open Go.ChangeShapes Go.WideShapes Go.RowKit
set_option linter.unusedVariables false
set_option linter.unusedSimpArgs false
set_option maxRecDepth 100000
set_option maxHeartbeats 4000000

/-- a row of the call's own, short, of short texts -/
structure Mine (w : World) (B : Nat) (v : Value) (l : List Pt) : Prop where
  own : OwnP w B v l
  len : l.length ≤ 1600
  txt : ∀ p ∈ l, p.2.2.size ≤ 140737488351232
theorem small_of {l : List Pt} (h : chk l = 0 ∨ l = []) : l.length ≤ 1600 ∧ ∀ p ∈ l, p.2.2.size ≤ 140737488351232 := by
  rcases h with h | rfl
  · exact ⟨((good_iff l).1 h).1, text_good h⟩
  · exact ⟨by simp, by simp⟩
theorem small_norm (l : List Pt) : chk (normL l) = 0 ∨ normL l = [] := by
  by_cases h : normE l = 0
  · exact .inl (norm_chk h).1
  · exact .inr (norm_err h)
theorem small_comp (a b : List Pt) : chk (compL a b) = 0 ∨ compL a b = [] := by
  by_cases h : compE a b = 0
  · exact .inl (comp_chk h).2.2.2.2
  · exact .inr (comp_err h)
theorem small_meetC (a b : List Pt) : chk (meetC a b) = 0 ∨ meetC a b = [] := by
  by_cases h : meetE a b = 0
  · exact .inl (meet_good h).1
  · exact .inr (meet_err h).1
theorem small_meetD (a b : List Pt) : chk (meetD a b) = 0 ∨ meetD a b = [] := by
  by_cases h : meetE a b = 0
  · exact .inl (meet_good h).2
  · exact .inr (meet_err h).2
theorem Mine.of {w : World} {B : Nat} {v : Value} {l : List Pt} (h : OwnP w B v l) (hs : chk l = 0 ∨ l = []) : Mine w B v l := ⟨h, (small_of hs).1, (small_of hs).2⟩
theorem Mine.step {w w' : World} {B : Nat} {v : Value} {l : List Pt} (h : Mine w B v l) (hb : Below w.heap.size w w') : Mine w' B v l := ⟨h.own.below hb, h.len, h.txt⟩
theorem Mine.only {w w' : World} {B : Nat} {v : Value} {l : List Pt} {S : Nat → Prop} (h : Mine w B v l) (ho : Only w w' S) (hv : ∀ k, v.ownBlock = some k → ¬ S k) : Mine w' B v l := ⟨own_only h.own ho hv, h.len, h.txt⟩
theorem Mine.rd {w : World} {B : Nat} {v : Value} {l : List Pt} (h : Mine w B v l) : ∃ A c, v = .slice A l.length c ∧ RdP w w.heap.size A l.length c l := h.own.rd h.txt
theorem Mine.form {w : World} {B : Nat} {v : Value} {l : List Pt} (h : Mine w B v l) : ∃ A n c, v = .slice A n c := by
  obtain ⟨A, c, e⟩ := h.own.form
  exact ⟨A, _, c, e⟩
theorem Mine.lt {w : World} {B : Nat} {v : Value} {l : List Pt} (h : Mine w B v l) : ∀ k, v.ownBlock = some k → B ≤ k ∧ k < w.heap.size := World.ownsRow.lt h.own
theorem Try.info_pl : (Try.prog.info? 27).map (fun i => (i.zero, i.size, i.bytes)) = some (some (.slice none 0 0), 1, 24) := by kernel_rfl
theorem own_ne_ {w : World} {B B' : Nat} {e e' : TypeId} {size size' n n' : Nat} {v v' : Value} {xs xs' : List Value} (h : w.ownsRow B e size v n xs) (h' : w.ownsRow B' e' size' v' n' xs') (hne : e ≠ e') : v.ownBlock = none ∨ v.ownBlock ≠ v'.ownBlock := by
  rcases h.2 with ⟨rfl, _⟩ | ⟨g, cap, cur, rfl, _, hg, _⟩
  · exact .inl rfl
  · rcases h'.2 with ⟨rfl, _⟩ | ⟨g', cap', cur', rfl, _, hg', _⟩
    · exact .inr (by simp [Value.ownBlock])
    · refine .inr fun he => ?_
      simp only [Value.ownBlock, Option.some.injEq] at he
      subst he
      rw [hg] at hg'
      injection hg' with hg'
      injection hg' with _ h2
      exact hne h2
theorem Mine.grown {w w' : World} {B B' : Nat} {v v' : Value} {l : List Pt} {n' size' : Nat} {xs' : List Value} (h : Mine w B v l) (hr : w.ownsRow B' 27 size' v' n' xs') (hg : w.grownBy w' v'.ownBlock) : Mine w' B v l :=
  ⟨own_kept h.own hg (own_ne_ h.own hr (by decide)), h.len, h.txt⟩
end Go.Proofs.Ytfncpcmaplhojaa
namespace Go.Proofs.Ytfncpcmaplhojaa
open Go.ChangeShapes Go.WideShapes Go.RowKit
set_option linter.unusedVariables false
set_option linter.unusedSimpArgs false
set_option maxRecDepth 100000
set_option maxHeartbeats 4000000

/-- a client -/
structure Cl where
  who : Int
  rev : Int
  seq : Int
  text : ByteArray
  fly : Bool
  sent : List Pt
  wait : Bool
  held : List Pt
def clc (c : Cl) (s h : Sl) : Array Value := #[.int .i64 c.who, .int .i64 c.rev, .int .i64 c.seq, .string c.text, .bool c.fly, .slice s.1 s.2.1 s.2.2, .bool c.wait, .slice h.1 h.2.1 h.2.2]
def clv (c : Cl) (s h : Sl) : Value := .agg (clc c s h)
/-- a client that Check finds right -/
structure CkOk (c : Cl) : Prop where
  who0 : 0 ≤ c.who
  who7 : c.who ≤ 7
  rev0 : 0 ≤ c.rev
  rev1 : c.rev ≤ 2147483647
  seq0 : 0 ≤ c.seq
  seq1 : c.seq ≤ 2147483647
  text : c.text.size ≤ 500
  sent0 : c.fly = false → c.sent = []
  held0 : c.wait = false → c.held = []
  wf : c.wait = true → c.fly = true
  hk : c.wait = true → chk c.held = 0 ∧ nO (units c.held) = c.text.size
  sk : c.fly = true → chk c.sent = 0 ∧ nO (units c.sent) = (if c.wait then nI (units c.held) else c.text.size)
theorem ccheck_TT (a r s : Int) (t : ByteArray) (A A' : Option Addr) (n n' c c' : Nat) (S H : List Pt) (w : World) (a0 : 0 ≤ a) (a7 : a ≤ 7) (r0 : 0 ≤ r) (r1 : r ≤ 2147483647) (s0 : 0 ≤ s) (s1 : s ≤ 2147483647) (ht : (t.size : Int) ≤ 500)
    (hS : RdP w w.heap.size A n c S) (hH : RdP w w.heap.size A' n' c' H) (k1 : chk H = 0) (k2 : nO (units H) = t.size) (k3 : chk S = 0) (k4 : nO (units S) = nI (units H)) :
    Calls Try.prog 33 #[.agg #[.int .i64 a, .int .i64 r, .int .i64 s, .string t, .bool true, .slice A n c, .bool true, .slice A' n' c']] w fun e w' => e = .returned (.int .i64 0) ∧ Below w.heap.size w w' := by
  have HS := Lib.hid hS
  have HH := Lib.hid hH
  have K1 := Lib.hid k1
  have K2 := Lib.hid k2
  have K3 := Lib.hid k3
  have K4 := Lib.hid k4
  clear hS hH k1 k2 k3 k4
  go_enter Try.func33, Try.ntmps33
  go_wp2_with fail
  refine wp_loop_rounds 3 ?_
  rw [rounds_succ]
  have kb := (Blk.new (w.alloc (.cells #[.int .i64 a, .int .i64 r, .int .i64 s, .string t, .bool true, .slice A n c, .bool true, .slice A' n' c'] 52)) 132 #[.bool true, .slice A' n' c', .bool true, .slice A n c]).alloc (.cells #[.bool true, .slice A' n' c'] 132)
  simp only [World.size_alloc] at kb
  have hb0 := (((Below.refl w.heap.size w).alloc (Nat.le_refl _) (.cells #[.int .i64 a, .int .i64 r, .int .i64 s, .string t, .bool true, .slice A n c, .bool true, .slice A' n' c'] 52)).alloc (by simp) (.cells #[.bool true, .slice A' n' c', .bool true, .slice A n c] 132)).alloc (by simp; omega) (.cells #[.bool true, .slice A' n' c'] 132)
  go_wp2_with fail
  generalize ((w.alloc (.cells #[.int .i64 a, .int .i64 r, .int .i64 s, .string t, .bool true, .slice A n c, .bool true, .slice A' n' c'] 52)).alloc (.cells #[.bool true, .slice A' n' c', .bool true, .slice A n c] 132)).alloc (.cells #[.bool true, .slice A' n' c'] 132) = W at *
  have hc := psizes_good H A' n' c' w.heap.size W (HH.out.below hb0) hb0.size K1.out
  rw [K2.out] at hc
  refine hc.mono ?_
  rintro e w1 ⟨rfl, hb1⟩
  have hw1 := hb0.trans (hb1.mono hb0.size)
  have k1 := kb.below hb1 kb.lt
  have c2 := k1.cell 2
  have c3 := k1.cell 3
  have cl := k1.lt
  clear hb1 hb0 kb k1 hc
  go_wp2_with fail
  rw [rounds_succ]
  go_wp2_with fail
  have hc := psizes_good S A n c w.heap.size _ ((HS.out.below hw1).alloc hw1.size (.cells #[.bool true, .slice A n c] 132)) (by have := hw1.size; simp; omega) K3.out
  rw [K4.out] at hc
  refine hc.mono ?_
  rintro e w2 ⟨rfl, hb2⟩
  have hw2 := (hw1.alloc hw1.size (.cells #[.bool true, .slice A n c] 132)).trans (hb2.mono (by have := hw1.size; simp; omega))
  clear hb2 hc c2 c3 cl
  go_wp2_with fail
  rw [rounds_succ]
  go_wp2_with fail
  go_ret
  exact ⟨rfl, hw2⟩
theorem ccheck_TF (a r s : Int) (t : ByteArray) (A A' : Option Addr) (n c c' : Nat) (S : List Pt) (w : World) (a0 : 0 ≤ a) (a7 : a ≤ 7) (r0 : 0 ≤ r) (r1 : r ≤ 2147483647) (s0 : 0 ≤ s) (s1 : s ≤ 2147483647) (ht : (t.size : Int) ≤ 500)
    (hS : RdP w w.heap.size A n c S) (k3 : chk S = 0) (k4 : nO (units S) = t.size) :
    Calls Try.prog 33 #[.agg #[.int .i64 a, .int .i64 r, .int .i64 s, .string t, .bool true, .slice A n c, .bool false, .slice A' 0 c']] w fun e w' => e = .returned (.int .i64 0) ∧ Below w.heap.size w w' := by
  have HS := Lib.hid hS
  have K3 := Lib.hid k3
  have K4 := Lib.hid k4
  clear hS k3 k4
  go_enter Try.func33, Try.ntmps33
  go_wp2_with fail
  refine wp_loop_rounds 3 ?_
  rw [rounds_succ]
  go_wp2_with fail
  rw [rounds_succ]
  have hb0 := ((((Below.refl w.heap.size w).alloc (Nat.le_refl _) (.cells #[.int .i64 a, .int .i64 r, .int .i64 s, .string t, .bool true, .slice A n c, .bool false, .slice A' 0 c'] 52)).alloc (by simp) (.cells #[.bool false, .slice A' 0 c', .bool true, .slice A n c] 132)).alloc (by simp; omega) (.cells #[.bool false, .slice A' 0 c'] 132)).alloc (by simp; omega) (.cells #[.bool true, .slice A n c] 132)
  go_wp2_with fail
  generalize (((w.alloc (.cells #[.int .i64 a, .int .i64 r, .int .i64 s, .string t, .bool true, .slice A n c, .bool false, .slice A' 0 c'] 52)).alloc (.cells #[.bool false, .slice A' 0 c', .bool true, .slice A n c] 132)).alloc (.cells #[.bool false, .slice A' 0 c'] 132)).alloc (.cells #[.bool true, .slice A n c] 132) = W at *
  have hc := psizes_good S A n c w.heap.size W (HS.out.below hb0) hb0.size K3.out
  rw [K4.out] at hc
  refine hc.mono ?_
  rintro e w1 ⟨rfl, hb1⟩
  have hw1 := hb0.trans (hb1.mono hb0.size)
  clear hb1 hb0 hc
  go_wp2_with fail
  rw [rounds_succ]
  go_wp2_with fail
  go_ret
  exact ⟨rfl, hw1⟩
theorem ccheck_FF (a r s : Int) (t : ByteArray) (A A' : Option Addr) (c c' : Nat) (w : World) (a0 : 0 ≤ a) (a7 : a ≤ 7) (r0 : 0 ≤ r) (r1 : r ≤ 2147483647) (s0 : 0 ≤ s) (s1 : s ≤ 2147483647) (ht : (t.size : Int) ≤ 500) :
    Calls Try.prog 33 #[.agg #[.int .i64 a, .int .i64 r, .int .i64 s, .string t, .bool false, .slice A 0 c, .bool false, .slice A' 0 c']] w fun e w' => e = .returned (.int .i64 0) ∧ Below w.heap.size w w' := by
  go_enter Try.func33, Try.ntmps33
  go_wp2_with fail
  refine wp_loop_rounds 3 ?_
  rw [rounds_succ]
  go_wp2_with fail
  rw [rounds_succ]
  have hb0 := ((((Below.refl w.heap.size w).alloc (Nat.le_refl _) (.cells #[.int .i64 a, .int .i64 r, .int .i64 s, .string t, .bool false, .slice A 0 c, .bool false, .slice A' 0 c'] 52)).alloc (by simp) (.cells #[.bool false, .slice A' 0 c', .bool false, .slice A 0 c] 132)).alloc (by simp; omega) (.cells #[.bool false, .slice A' 0 c'] 132)).alloc (by simp; omega) (.cells #[.bool false, .slice A 0 c] 132)
  go_wp2_with fail
  rw [rounds_succ]
  go_wp2_with fail
  go_ret
  exact ⟨rfl, hb0⟩
theorem ccheck_large (a r s : Int) (t : ByteArray) (A A' : Option Addr) (n n' c c' : Nat) (f q : Bool) (w : World) (a0 : 0 ≤ a) (a7 : a ≤ 7) (r0 : 0 ≤ r) (r1 : r ≤ 2147483647) (s0 : 0 ≤ s) (s1 : s ≤ 2147483647) (ht : 500 < (t.size : Int)) :
    Calls Try.prog 33 #[.agg #[.int .i64 a, .int .i64 r, .int .i64 s, .string t, .bool f, .slice A n c, .bool q, .slice A' n' c']] w fun e w' => e = .returned (.int .i64 2) ∧ Below w.heap.size w w' := by
  have hb0 := ((Below.refl w.heap.size w).alloc (Nat.le_refl _) (.cells #[.int .i64 a, .int .i64 r, .int .i64 s, .string t, .bool f, .slice A n c, .bool q, .slice A' n' c'] 52))
  go_enter Try.func33, Try.ntmps33
  go_wp2_with fail
  go_ret
  exact ⟨rfl, hb0⟩
theorem ccheck_good (c : Cl) (s h : Sl) (w : World) (hk : CkOk c) (hS : RdP w w.heap.size s.1 s.2.1 s.2.2 c.sent) (hH : RdP w w.heap.size h.1 h.2.1 h.2.2 c.held) :
    Calls Try.prog 33 #[clv c s h] w fun e w' => e = .returned (.int .i64 0) ∧ Below w.heap.size w w' := by
  obtain ⟨a, r, sq, t, f, S, q, H⟩ := c
  obtain ⟨A, n, cp⟩ := s
  obtain ⟨A', n', cp'⟩ := h
  obtain ⟨h1, h2, h3, h4, h5, h6, h7, h8, h9, h10, h11, h12⟩ := hk
  simp only at *
  unfold clv clc
  simp only
  cases f with
  | false =>
    obtain rfl := h8 rfl
    cases q with
    | true => exact absurd (h10 rfl) (by decide)
    | false =>
      obtain rfl := h9 rfl
      obtain rfl : n = 0 := hS.1
      obtain rfl : n' = 0 := hH.1
      exact ccheck_FF a r sq t A A' cp cp' w h1 h2 h3 h4 h5 h6 (by omega)
  | true =>
    cases q with
    | true => exact ccheck_TT a r sq t A A' n n' cp cp' S H w h1 h2 h3 h4 h5 h6 (by omega) hS hH (h11 rfl).1 (h11 rfl).2 (h12 rfl).1 (by simpa using (h12 rfl).2)
    | false =>
      obtain rfl := h9 rfl
      obtain rfl : n' = 0 := hH.1
      exact ccheck_TF a r sq t A A' n cp cp' S w h1 h2 h3 h4 h5 h6 (by omega) hS (h12 rfl).1 (by simpa using (h12 rfl).2)
end Go.Proofs.Ytfncpcmaplhojaa
namespace Go.Proofs.Ytfncpcmaplhojaa
open Go.ChangeShapes Go.WideShapes Go.RowKit
set_option linter.unusedVariables false
set_option linter.unusedSimpArgs false
set_option maxRecDepth 100000
set_option maxHeartbeats 4000000

theorem Blk.row {w : World} {g : Nat} {t : TypeId} {cs : Array Value} (h : Blk w g t cs) (cs' : Array Value) : Blk (w.setRow g cs') g t cs' := setRow_heap w g cs cs' t (0, 0) h
theorem Blk.farRow {w : World} {g g' : Nat} {t : TypeId} {cs : Array Value} (h : Blk w g t cs) (hne : g ≠ g') (cs' : Array Value) : Blk (w.setRow g' cs') g t cs := (setRow_other w g' g cs' hne).trans h
theorem Only.setRow (w : World) (g : Nat) (cs : Array Value) : Only w (w.setRow g cs) (fun k => k = g) := ⟨rfl, rfl, rfl, by simp, fun k hk hn => setRow_other w g k cs hn⟩
theorem below_setRow {B : Nat} {w w' : World} (h : Below B w w') (g : Nat) (cs : Array Value) (hg : B ≤ g) : Below B w (w'.setRow g cs) :=
  ⟨h.os, h.tape, h.output, by simp; exact h.size, fun k hk => (setRow_other w' g k cs (by omega)).trans (h.block k hk)⟩
/-- a function's end: one result lies in block g -/
theorem row_end1 {fn : Func} {R : Ending → World → Prop} {a : Act} {W : World} {g : Nat} {ty : TypeId} {cs : Array Value} {p : Tmp} (hres : fn.results = #[.cell p ty])
    (hp : a.tmps.getD p undef = .pointer (some ⟨g, 0, none⟩)) (hd : a.defers = []) (hl : (loadVar ty ⟨g, 0, none⟩).run Try.prog W = .ok (.agg cs) W)
    (hR : R (.returned (.agg cs)) W) : bodyPost Try.prog fn R .ret a W := by
  refine bodyPost_ret (v := .agg cs) ?_ hd hR
  have hp' : a.tmps[p]?.getD undef = .pointer (some ⟨g, 0, none⟩) := by simpa using hp
  simp [results, hres, hp', asAddr, hl]
theorem row_end2 {fn : Func} {R : Ending → World → Prop} {a : Act} {W : World} {g : Nat} {ty : TypeId} {cs : Array Value} {p q : Tmp} {u : Value} (hres : fn.results = #[.cell p ty, .tmp q])
    (hp : a.tmps.getD p undef = .pointer (some ⟨g, 0, none⟩)) (hq : a.tmps.getD q undef = u) (hd : a.defers = []) (hl : (loadVar ty ⟨g, 0, none⟩).run Try.prog W = .ok (.agg cs) W)
    (hR : R (.returned (.tuple #[.agg cs, u])) W) : bodyPost Try.prog fn R .ret a W := by
  refine bodyPost_ret (v := .tuple #[.agg cs, u]) ?_ hd hR
  rw [results_cell_tmp hres, hp, hq]
  simp [asAddr, hl]
/-- a whole struct is loaded -/
theorem wpList_load_blk {ops : Array Oper} {rest : List Oper} {o : Oper} {a : Act} {w : World} {Q : Exit → Act → World → Prop} (hgd : o.guard = none) (ty : TypeId) (x : Operand) (ho : o.op = .load ty x)
    (g : Nat) (hx : a.eval x = .pointer (some ⟨g, 0, none⟩)) (cs : Array Value) (hl : (loadVar ty ⟨g, 0, none⟩).run Try.prog w = .ok (.agg cs) w)
    (h : wpList Try.prog ops Q rest (a.put o.dst (.agg cs)) w) : wpList Try.prog ops Q (o :: rest) a w :=
  wpList_plain hgd fun _ hK => by
    unfold Oper.wp execOp
    simp only [ho, hx, Instr.loadAt, Instr.sureAddr, Sem.run_bind, Sem.run_pure, Result.andThen_ok, hl]
    exact hK _ _ h
/-- a whole struct is stored -/
theorem wpList_store_blk {ops : Array Oper} {rest : List Oper} {o : Oper} {a : Act} {w : World} {Q : Exit → Act → World → Prop} (hgd : o.guard = none) (ty : TypeId) (x y : Operand) (ho : o.op = .store ty x y)
    (g : Nat) (cells : Array Value) (hx : a.eval x = .pointer (some ⟨g, 0, none⟩)) (hy : a.eval y = .agg cells)
    (t : TypeId) (old : Array Value) (hg : Blk w g t old) (hi : (Try.prog.info? ty).map (·.size) = some cells.size)
    (hold : old.size = cells.size) (h1 : cells.all (·.oneCell') = true)
    (h : wpList Try.prog ops Q rest (a.put o.dst undef) (w.setRow g cells)) : wpList Try.prog ops Q (o :: rest) a w :=
  wpList_store_row hgd ty x y ho g cells hx hy t old hg hi hold h1 h
/-- a struct is put together -/
theorem wpList_built {ops : Array Oper} {rest : List Oper} {o : Oper} {a : Act} {w : World} {Q : Exit → Act → World → Prop} (hgd : o.guard = none) (t : TypeId) (parts : Array (Nat × Operand)) (ho : o.op = .build t parts) (cells : Array Value)
    (hf : Try.prog.built t (parts.map fun (i, x) => (i, a.eval x)).toList = some cells)
    (h : wpList Try.prog ops Q rest (a.put o.dst (.agg cells)) w) : wpList Try.prog ops Q (o :: rest) a w :=
  wpList_build hgd t parts ho (by rw [hf]; rfl) (by rw [hf]; exact h)
/-- a whole struct is stored, in a region that draws -/
theorem step_store_blk {ops : Array Oper} {o : Oper} {a : Act} {K : Act → World → Prop} {Q : Exit → Act → World → Prop} {E : Prop} {w : World} (hgd : o.guard = none) (ty : TypeId) (x y : Operand) (ho : o.op = .store ty x y)
    (g : Nat) (cells : Array Value) (hx : a.eval x = .pointer (some ⟨g, 0, none⟩)) (hy : a.eval y = .agg cells)
    (t : TypeId) (old : Array Value) (hg : Blk w g t old) (hi : (Try.prog.info? ty).map (·.size) = some cells.size)
    (hold : old.size = cells.size) (h1 : cells.all (·.oneCell') = true)
    (h : K (a.put o.dst undef) (w.setRow g cells)) : if Region.wanted o (yielded ops a.tmps) = true then Oper.wp Try.prog o a w K Q else E := by
  have hw : Region.wanted o (yielded ops a.tmps) = true := by simp [Region.wanted, hgd]
  rw [if_pos hw]
  exact wp_store_row ty x y ho g cells hx hy t old hg hi hold h1 h
/-- a whole struct is loaded, in a region whose tail alone writes -/
theorem wpStill_load_blk {ops : Array Oper} {rest : List Oper} {o : Oper} {a : Act} {w : World} {Q : Act → Prop} (hgd : o.guard = none) (ty : TypeId) (x : Operand) (ho : o.op = .load ty x)
    (g : Nat) (hx : a.eval x = .pointer (some ⟨g, 0, none⟩)) (cs : Array Value) (hl : (loadVar ty ⟨g, 0, none⟩).run Try.prog w = .ok (.agg cs) w)
    (h : wpStill Try.prog ops w Q rest (a.put o.dst (.agg cs))) : wpStill Try.prog ops w Q (o :: rest) a := by
  refine wpStill_step (fun K hK => ?_)
  have hw : Region.wanted o (yielded ops a.tmps) = true := by simp [Region.wanted, hgd]
  rw [if_pos hw]
  unfold Oper.still execOp
  simp only [ho, hx, Instr.loadAt, Instr.sureAddr, Sem.run_bind, Sem.run_pure, Result.andThen_ok, hl, Oper.stillUpon]
  exact ⟨trivial, hK _ h⟩
theorem exec_load_blk {o : Oper} {a : Act} {w : World} (ty : TypeId) (x : Operand) (ho : o.op = .load ty x) (g : Nat) (hx : a.eval x = .pointer (some ⟨g, 0, none⟩)) (cs : Array Value)
    (hl : (loadVar ty ⟨g, 0, none⟩).run Try.prog w = .ok (.agg cs) w) : (execOp a.eval o).run Try.prog w = .ok (.value (.agg cs)) w := by
  unfold execOp
  simp only [ho, hx, Instr.loadAt, Instr.sureAddr, Sem.run_bind, Sem.run_pure, Result.andThen_ok, hl]
theorem wpAnyH_takeD {ops : Array Oper} {Q : Exit → Act → World → Prop} {md : Region.Mode} {S : World → Prop} {i : Nat} (t : Nat) {oi : Oper} {v : Value} {fuel : Nat} {listed : Array Bool} {a : Act} {w : World} (hi : ops[i]? = some oi) (hd : oi.dst = some t)
    (hs : Region.noSelect ops = true) (hf : Region.free md ops listed i = true) (hr : (Region.ready md ops listed).contains i = true)
    (hQ : ∀ c a w, Q (.panic c) (a.put (some t) v) w → Q (.panic c) a w) (hy : YieldsIf Try.prog ops S oi v a) (hS : S w)
    (h : wpAnyH Try.prog md ops Q S fuel (listed.setIfInBounds i true) (a.put (some t) v) w) : wpAnyH Try.prog md ops Q S (fuel + 1) listed a w :=
  wpAnyH_take hi hs hf hr (by rw [hd]; exact hQ) hy hS (by rw [hd]; exact h)
theorem wpOp_enter {ops : Array Oper} {i : Nat} (t : Nat) {o : Oper} {a : Act} {w : World} {K : Act → World → Prop} {Q : Exit → Act → World → Prop} (hi : ops[i]? = some o) (hw : Region.wanted o (yielded ops a.tmps) = true) (hd : o.dst = some t) (f : FuncId) (vs : Array Value)
    (hx : (execOp a.eval o).run Try.prog w = .ok (.enter f vs) w) (v : Value) (R : World → Prop) (hc : Calls Try.prog f vs w (fun e w' => e = .returned v ∧ R w')) (h : ∀ w', R w' → K (a.put (some t) v) w') : wpOp Try.prog ops Q i K a w := by
  unfold wpOp
  simp only [hi, hw, if_true]
  refine .inl ?_
  unfold Oper.wp
  rw [hx]
  simp only [Oper.upon]
  refine hc.mono ?_
  rintro e w' ⟨rfl, hr⟩
  rw [hd]
  exact h _ hr
theorem wpOp_store_blk {ops : Array Oper} {i : Nat} {o : Oper} {a : Act} {w : World} {K : Act → World → Prop} {Q : Exit → Act → World → Prop} (hi : ops[i]? = some o) (hgd : o.guard = none) (hd : o.dst = none) (ty : TypeId) (x y : Operand) (ho : o.op = .store ty x y)
    (g : Nat) (cells : Array Value) (hx : a.eval x = .pointer (some ⟨g, 0, none⟩)) (hy : a.eval y = .agg cells)
    (t : TypeId) (old : Array Value) (hg : Blk w g t old) (hinf : (Try.prog.info? ty).map (·.size) = some cells.size)
    (hold : old.size = cells.size) (h1 : cells.all (·.oneCell') = true)
    (h : K a (w.setRow g cells)) : wpOp Try.prog ops Q i K a w := by
  unfold wpOp
  have hw : Region.wanted o (yielded ops a.tmps) = true := by simp [Region.wanted, hgd]
  simp only [hi, hw, if_true]
  exact .inl (wp_store_row ty x y ho g cells hx hy t old hg hinf hold h1 (by rw [hd]; exact h))
/-- cells in the middle of a row are stored anew -/
def setL : Array Value → Nat → List Value → Array Value
  | cs, _, [] => cs
  | cs, o, v :: r => setL (cs.setIfInBounds o v) (o + 1) r
theorem Blk.setMany {w : World} {g : Nat} {t : TypeId} : ∀ (vs : List Value) (o : Nat) (w : World) (cs : Array Value), Blk w g t cs → Blk (w.setCells g o vs) g t (setL cs o vs)
  | [], o, w, cs, h => h
  | v :: r, o, w, cs, h => Blk.setMany (w := w) r (o + 1) _ _ (h.set_ o v)
theorem Blk.farMany {g g' : Nat} {t : TypeId} {cs : Array Value} (hne : g ≠ g') : ∀ (vs : List Value) (o : Nat) (w : World), Blk w g t cs → Blk (w.setCells g' o vs) g t cs
  | [], o, w, h => h
  | v :: r, o, w, h => Blk.farMany hne r (o + 1) _ (h.far (p := ⟨g', o, none⟩) hne v)
theorem Only.setMany (g : Nat) : ∀ (vs : List Value) (o : Nat) (w : World), Only w (w.setCells g o vs) (fun k => k = g)
  | [], o, w => Only.refl _ _
  | v :: r, o, w => (Only.setSelf w g o v).trans (Only.setMany g r (o + 1) _)
theorem Blk.range {w : World} {g o : Nat} {t : TypeId} {cs : Array Value} {vs : List Value} (h : Blk w g t cs) (hv : ∀ j v, vs[j]? = some v → cs[o + j]? = some v) : w.rangeAt g o vs :=
  fun j v hj => (h.cell (o + j)).trans (hv j v hj)
theorem Blk.there {w : World} {g o n : Nat} {t : TypeId} {cs : Array Value} (h : Blk w g t cs) (hn : o + n ≤ cs.size) : w.there g o n := fun j hj => by
  refine ⟨?_, h.frozen (o + j)⟩
  rw [h.cell, Array.getElem?_eq_getElem (by omega)]
  rfl
theorem setL_mid : ∀ (vs M P R : List Value), vs.length = M.length → setL (P ++ (M ++ R)).toArray P.length vs = (P ++ (vs ++ R)).toArray
  | [], [], P, R, _ => rfl
  | [], _ :: _, P, R, h => by simp at h
  | _ :: _, [], P, R, h => by simp at h
  | v :: vs, m :: M, P, R, h => by
    have e : (P ++ (m :: M ++ R)).toArray.setIfInBounds P.length v = ((P ++ [v]) ++ (M ++ R)).toArray := by
      simp [List.set_append_right]
    have := setL_mid vs M (P ++ [v]) R (by simpa using h)
    rw [setL, e]
    rw [List.length_append, List.length_singleton] at this
    rw [this]
    simp
end Go.Proofs.Ytfncpcmaplhojaa
namespace Go.Proofs.Ytfncpcmaplhojaa
open Go.ChangeShapes Go.WideShapes Go.RowKit
set_option linter.unusedVariables false
set_option linter.unusedSimpArgs false
set_option maxRecDepth 100000
set_option maxHeartbeats 4000000

/-- deltas of the call's own -/
structure Deltas (w : World) (B : Nat) (us : List Value) (ls : List (List Pt)) : Prop where
  len : us.length = ls.length
  at_ : ∀ (j : Nat) (u : Value) (l : List Pt), us[j]? = some u → ls[j]? = some l → Mine w B u l
/-- their blocks lie one behind the other -/
def Inc (us : List Value) : Prop := us.Pairwise fun u v => ∀ p q, u.ownBlock = some p → v.ownBlock = some q → p < q
theorem Deltas.nil (w : World) (B : Nat) : Deltas w B [] [] := ⟨rfl, fun j u l h => by simp at h⟩
theorem Deltas.step {w w' : World} {B : Nat} {us : List Value} {ls : List (List Pt)} (h : Deltas w B us ls) (hb : Below w.heap.size w w') : Deltas w' B us ls :=
  ⟨h.len, fun j u l h1 h2 => (h.at_ j u l h1 h2).step hb⟩
theorem Deltas.base {w : World} {B B' : Nat} {us : List Value} {ls : List (List Pt)} (h : Deltas w B us ls) (hB : B' ≤ B) : Deltas w B' us ls :=
  ⟨h.len, fun j u l h1 h2 => ⟨own_base (h.at_ j u l h1 h2).own hB, (h.at_ j u l h1 h2).len, (h.at_ j u l h1 h2).txt⟩⟩
theorem Deltas.grown {w w' : World} {B B' : Nat} {v' : Value} {us : List Value} {ls : List (List Pt)} {n' size' : Nat} {xs' : List Value} {t : TypeId} (h : Deltas w B us ls) (hr : w.ownsRow B' t size' v' n' xs')
    (hg : w.grownBy w' v'.ownBlock) (ht : 45 ≠ t) : Deltas w' B us ls :=
  ⟨h.len, fun j u l h1 h2 => ⟨own_kept (h.at_ j u l h1 h2).own hg (own_ne_ (h.at_ j u l h1 h2).own hr ht), (h.at_ j u l h1 h2).len, (h.at_ j u l h1 h2).txt⟩⟩
theorem Deltas.snoc {w : World} {B : Nat} {us : List Value} {ls : List (List Pt)} {u : Value} {l : List Pt} (h : Deltas w B us ls) (hm : Mine w B u l) : Deltas w B (us ++ [u]) (ls ++ [l]) := by
  refine ⟨by simp [h.len], fun j v m h1 h2 => ?_⟩
  rcases Nat.lt_or_ge j us.length with hj | hj
  · rw [List.getElem?_append_left hj] at h1
    rw [List.getElem?_append_left (by rw [← h.len]; exact hj)] at h2
    exact h.at_ j v m h1 h2
  · rw [List.getElem?_append_right hj] at h1
    rw [List.getElem?_append_right (by rw [← h.len]; exact hj)] at h2
    rw [h.len] at h1
    cases hd : j - ls.length with
    | zero =>
      rw [hd] at h1 h2
      simp only [List.getElem?_cons_zero, Option.some.injEq] at h1 h2
      subst h1; subst h2
      exact hm
    | succ d =>
      rw [hd] at h1
      simp at h1
theorem Deltas.lt {w : World} {B : Nat} {us : List Value} {ls : List (List Pt)} (h : Deltas w B us ls) : ∀ u ∈ us, ∀ k, u.ownBlock = some k → B ≤ k ∧ k < w.heap.size := by
  intro u hu k hk
  obtain ⟨j, hj, rfl⟩ := List.getElem_of_mem hu
  have h1 : us[j]? = some us[j] := List.getElem?_eq_getElem hj
  have h2 : ls[j]? = some (ls[j]'(by rw [← h.len]; exact hj)) := List.getElem?_eq_getElem (by rw [← h.len]; exact hj)
  exact (h.at_ j _ _ h1 h2).lt k hk
theorem Inc.snoc {us : List Value} {u : Value} {N : Nat} (h : Inc us) (h1 : ∀ v ∈ us, ∀ k, v.ownBlock = some k → k < N) (h2 : ∀ k, u.ownBlock = some k → N ≤ k) : Inc (us ++ [u]) := by
  unfold Inc
  rw [List.pairwise_append]
  refine ⟨h, List.pairwise_singleton _ _, fun a ha b hb p q hp hq => ?_⟩
  rw [List.mem_singleton] at hb
  subst hb
  have := h1 a ha p hp
  have := h2 q hq
  omega
/-- a row of deltas -/
def OwnRow (w : World) (B : Nat) (v : Value) (us : List Value) (ls : List (List Pt)) : Prop := w.ownsRow B 27 1 v us.length us ∧ Deltas w B us ls
theorem OwnRow.step {w w' : World} {B : Nat} {v : Value} {us : List Value} {ls : List (List Pt)} (h : OwnRow w B v us ls) (hb : Below w.heap.size w w') : OwnRow w' B v us ls := ⟨own_below h.1 hb, h.2.step hb⟩
theorem OwnRow.base {w : World} {B B' : Nat} {v : Value} {us : List Value} {ls : List (List Pt)} (h : OwnRow w B v us ls) (hB : B' ≤ B) : OwnRow w B' v us ls := ⟨own_base h.1 hB, h.2.base hB⟩
theorem OwnRow.grown {w w' : World} {B B' : Nat} {v v' : Value} {us : List Value} {ls : List (List Pt)} {n' size' : Nat} {xs' : List Value} {t : TypeId} (h : OwnRow w B v us ls) (hr : w.ownsRow B' t size' v' n' xs')
    (hg : w.grownBy w' v'.ownBlock) (ht : 45 ≠ t) (ht2 : 27 ≠ t) : OwnRow w' B v us ls := ⟨own_kept h.1 hg (own_ne_ h.1 hr ht2), h.2.grown hr hg ht⟩
/-- rows of deltas in a row -/
structure OwnTier (w : World) (B : Nat) (v : Value) (rs : List Value) (uss : List (List Value)) (lss : List (List (List Pt))) : Prop where
  own : w.ownsRow B 32 1 v rs.length rs
  len1 : rs.length = lss.length
  len2 : uss.length = lss.length
  at_ : ∀ (j : Nat) (r : Value) (us : List Value) (ls : List (List Pt)), rs[j]? = some r → uss[j]? = some us → lss[j]? = some ls → OwnRow w B r us ls
theorem OwnTier.step {w w' : World} {B : Nat} {v : Value} {rs : List Value} {uss : List (List Value)} {lss : List (List (List Pt))} (h : OwnTier w B v rs uss lss) (hb : Below w.heap.size w w') : OwnTier w' B v rs uss lss :=
  ⟨own_below h.own hb, h.len1, h.len2, fun j r us ls h1 h2 h3 => (h.at_ j r us ls h1 h2 h3).step hb⟩
theorem OwnTier.nil (w : World) (B : Nat) : OwnTier w B (.slice none 0 0) [] [] [] := ⟨World.ownsRow_nil _ _ _ _, rfl, rfl, fun j r us ls h => by simp at h⟩
theorem OwnTier.snoc {w w' : World} {B : Nat} {v v' r : Value} {rs us : List Value} {uss : List (List Value)} {lss : List (List (List Pt))} {ls : List (List Pt)} (h : OwnTier w B v rs uss lss) (hr : OwnRow w B r us ls)
    (ho : w'.ownsRow B 32 1 v' (rs.length + 1) (rs ++ [r])) (hg : w.grownBy w' v.ownBlock) : OwnTier w' B v' (rs ++ [r]) (uss ++ [us]) (lss ++ [ls]) := by
  refine ⟨by simpa using ho, by simp [h.len1], by simp [h.len2], fun j r2 us2 ls2 h1 h2 h3 => ?_⟩
  rcases Nat.lt_or_ge j lss.length with hj | hj
  · rw [List.getElem?_append_left (by rw [h.len1]; exact hj)] at h1
    rw [List.getElem?_append_left (by rw [h.len2]; exact hj)] at h2
    rw [List.getElem?_append_left hj] at h3
    exact (h.at_ j r2 us2 ls2 h1 h2 h3).grown h.own hg (by decide) (by decide)
  · rw [List.getElem?_append_right (by rw [h.len1]; exact hj), h.len1] at h1
    rw [List.getElem?_append_right (by rw [h.len2]; exact hj), h.len2] at h2
    rw [List.getElem?_append_right hj] at h3
    cases hd : j - lss.length with
    | zero =>
      rw [hd] at h1 h2 h3
      simp only [List.getElem?_cons_zero, Option.some.injEq] at h1 h2 h3
      subst h1; subst h2; subst h3
      exact hr.grown h.own hg (by decide) (by decide)
    | succ d =>
      rw [hd] at h1
      simp at h1
end Go.Proofs.Ytfncpcmaplhojaa
namespace Go.Proofs.Ytfncpcmaplhojaa
open Go.ChangeShapes Go.WideShapes Go.RowKit
set_option linter.unusedVariables false
set_option linter.unusedSimpArgs false
set_option maxRecDepth 100000
set_option maxHeartbeats 4000000

theorem client_row {W : World} {g : Nat} {cs : Array Value} (h : Blk W g 52 cs) (hs : cs.size = 8) : (loadVar 52 ⟨g, 0, none⟩).run Try.prog W = .ok (.agg cs) W :=
  run_loadVar_row (P := Try.prog) W g 52 52 _ _ _ h Try.underlying52 rfl (by rw [hs]; kernel_rfl)
theorem client_info : (Try.prog.info? 52).map (·.size) = some 8 := by kernel_rfl
theorem ccopied_any (c : Cl) (s h : Sl) (w : World) (hS : RdP w w.heap.size s.1 s.2.1 s.2.2 c.sent) (hH : RdP w w.heap.size h.1 h.2.1 h.2.2 c.held) (hs : s.2.1 ≤ 4000000) (hh : h.2.1 ≤ 4000000) :
    Calls Try.prog 70 #[clv c s h] w fun e w' => ∃ A1 n1 c1 A2 n2 c2, e = .returned (clv c (A1, n1, c1) (A2, n2, c2)) ∧ OwnP w' w.heap.size (.slice A1 n1 c1) c.sent ∧ OwnP w' w.heap.size (.slice A2 n2 c2) c.held ∧ Inc [.slice A1 n1 c1, .slice A2 n2 c2] ∧ Below w.heap.size w w' := by
  obtain ⟨a, r, sq, t, f, S, q, H⟩ := c
  obtain ⟨A, n, cp⟩ := s
  obtain ⟨A', n', cp'⟩ := h
  simp only at hS hH hs hh ⊢
  have HS := Lib.hid hS
  have HH := Lib.hid hH
  have hb0 := ((Below.refl w.heap.size w).alloc (Nat.le_refl _) (.cells (clc ⟨a, r, sq, t, f, S, q, H⟩ (A, n, cp) (A', n', cp')) 52)).alloc (by simp) (.cells #[.int .i64 0, .int .i64 0, .int .i64 0, .string ⟨#[]⟩, .bool false, .slice none 0 0, .bool false, .slice none 0 0] 52)
  have kc := (Blk.new w 52 (clc ⟨a, r, sq, t, f, S, q, H⟩ (A, n, cp) (A', n', cp'))).alloc (.cells #[.int .i64 0, .int .i64 0, .int .i64 0, .string ⟨#[]⟩, .bool false, .slice none 0 0, .bool false, .slice none 0 0] 52)
  have kr := Blk.new (w.alloc (.cells (clc ⟨a, r, sq, t, f, S, q, H⟩ (A, n, cp) (A', n', cp')) 52)) 52 #[.int .i64 0, .int .i64 0, .int .i64 0, .string ⟨#[]⟩, .bool false, .slice none 0 0, .bool false, .slice none 0 0]
  unfold clv at *
  unfold clc at *
  simp only [World.size_alloc] at *
  clear hS hH
  go_enter Try.func70, Try.ntmps70
  go_upto_region 1 with (fail)
  generalize (w.alloc (.cells #[.int .i64 a, .int .i64 r, .int .i64 sq, .string t, .bool f, .slice A n cp, .bool q, .slice A' n' cp'] 52)).alloc (.cells #[.int .i64 0, .int .i64 0, .int .i64 0, .string ⟨#[]⟩, .bool false, .slice none 0 0, .bool false, .slice none 0 0] 52) = W at *
  obtain ⟨g, hg⟩ : ∃ g, w.heap.size = g := ⟨_, rfl⟩
  rw [hg] at kc kr hb0
  have c5 := kc.cell 5
  have cl := kc.lt
  have hS1 := Lib.hid (hg ▸ (HS.out.below (hg.symm ▸ hb0)))
  have hH1 := Lib.hid (hg ▸ (HH.out.below (hg.symm ▸ hb0)))
  have hgW : g ≤ W.heap.size := by have := hb0.size; omega
  rw [hg]
  go_upto_region 2 with (first
    | (at_builtin; go_loud (refine wpList_app_partsC _ rfl (.const (.slice none 0 0)) (.tmp 4) rfl W.heap.size _ [] rfl (OwnP.nil _ _) A n cp _ S rfl hS1.out (by simp; omega) (Nat.le_refl _) ?_; intro v1 w1 q1 q2; rw [List.nil_append] at q1; obtain ⟨A1, c1, rfl⟩ := q1.form_ (n := n) hS1.out.1.symm; have e1 := kc.below q2 kc.lt; have d5 := e1.cell 5; have f5 := e1.frozen 5; have l1 := e1.lt)))
  have hb2 : Below g w (w1.setCell ⟨g, 5, none⟩ (.slice A1 n c1)) := (hb0.trans (q2.mono hgW)).setCell (p := ⟨g, 5, none⟩) (Nat.le_refl g) _
  have kc2 : Blk (w1.setCell ⟨g, 5, none⟩ (.slice A1 n c1)) g 52 #[.int .i64 a, .int .i64 r, .int .i64 sq, .string t, .bool f, .slice A1 n c1, .bool q, .slice A' n' cp'] := e1.set_ 5 _
  have kr2 : Blk (w1.setCell ⟨g, 5, none⟩ (.slice A1 n c1)) (g + 1) 52 #[.int .i64 0, .int .i64 0, .int .i64 0, .string ⟨#[]⟩, .bool false, .slice none 0 0, .bool false, .slice none 0 0] := (kr.below q2 kr.lt).far (p := ⟨g, 5, none⟩) (by simp only; omega) _
  have hW2 : W.heap.size ≤ (w1.setCell ⟨g, 5, none⟩ (.slice A1 n c1)).heap.size := by simp; exact q2.size
  have o2 := Lib.hid (own_only q1 (Only.setSelf w1 g 5 (.slice A1 n c1)) (fun k hk => by have := (World.ownsRow.lt q1 k hk).1; omega))
  have hg1 : g + 1 < W.heap.size := kr.lt
  clear e1 d5 f5 l1 c5 cl q1 hb0 kc kr hS1
  generalize (w1.setCell ⟨g, 5, none⟩ (.slice A1 n c1)) = W2 at *
  have hgW2 : g ≤ W2.heap.size := by omega
  have hH2 := Lib.hid (hg ▸ (HH.out.below (hg.symm ▸ hb2)))
  have c7 := kc2.cell 7
  have cl := kc2.lt
  go_upto_region 3 with (first
    | (at_builtin; go_loud (refine wpList_app_partsC _ rfl (.const (.slice none 0 0)) (.tmp 8) rfl W2.heap.size _ [] rfl (OwnP.nil _ _) A' n' cp' _ H rfl hH2.out (by simp; omega) (Nat.le_refl _) ?_; intro v2 w2 q1 q3; rw [List.nil_append] at q1; obtain ⟨A2, c2, rfl⟩ := q1.form_ (n := n') hH2.out.1.symm; have e1 := kc2.below q3 kc2.lt; have d7 := e1.cell 7; have f7 := e1.frozen 7; have l1 := e1.lt)))
  have hb3 : Below g w (w2.setCell ⟨g, 7, none⟩ (.slice A2 n' c2)) := (hb2.trans (q3.mono hgW2)).setCell (p := ⟨g, 7, none⟩) (Nat.le_refl g) _
  have kc3 : Blk (w2.setCell ⟨g, 7, none⟩ (.slice A2 n' c2)) g 52 #[.int .i64 a, .int .i64 r, .int .i64 sq, .string t, .bool f, .slice A1 n c1, .bool q, .slice A2 n' c2] := e1.set_ 7 _
  have kr3 : Blk (w2.setCell ⟨g, 7, none⟩ (.slice A2 n' c2)) (g + 1) 52 #[.int .i64 0, .int .i64 0, .int .i64 0, .string ⟨#[]⟩, .bool false, .slice none 0 0, .bool false, .slice none 0 0] := (kr2.below q3 kr2.lt).far (p := ⟨g, 7, none⟩) (by simp only; omega) _
  have hWW : W.heap.size ≤ W2.heap.size := hW2
  have o3 := Lib.hid (own_only (own_below o2.out q3) (Only.setSelf w2 g 7 (.slice A2 n' c2)) (fun k hk => by have := (World.ownsRow.lt o2.out k hk).1; omega))
  have o4 := Lib.hid (own_only q1 (Only.setSelf w2 g 7 (.slice A2 n' c2)) (fun k hk => by have := (World.ownsRow.lt q1 k hk).1; omega))
  have ho2 := o2
  clear e1 d7 f7 l1 c7 cl q1 hb2 kc2 kr2 hH2 o2
  generalize (w2.setCell ⟨g, 7, none⟩ (.slice A2 n' c2)) = W3 at *
  have hinc : Inc [.slice A1 n c1, .slice A2 n' c2] := by
    refine List.Pairwise.cons (fun u hu p q hp hq => ?_) (List.Pairwise.cons (fun u hu => by cases hu) List.Pairwise.nil)
    rw [List.mem_singleton] at hu
    subst hu
    have h1 := (World.ownsRow.lt (ho2.out) p hp).2
    have h2 := (World.ownsRow.lt o4.out q hq).1
    omega
  go_wp2_with (first
    | (refine wpList_load_blk rfl _ (.tmp 1) rfl g rfl _ (client_row kc3 rfl) ?_)
    | (refine wpList_store_blk rfl _ (.tmp 2) (.tmp 11) rfl (g + 1) _ rfl rfl _ _ kr3 client_info rfl (by simp [Value.oneCell']) ?_))

  refine row_end1 rfl rfl rfl (client_row (kr3.row #[.int .i64 a, .int .i64 r, .int .i64 sq, .string t, .bool f, .slice A1 n c1, .bool q, .slice A2 n' c2]) rfl) ?_
  refine ⟨_, _, _, _, _, _, rfl, ?_, ?_, hinc, hg ▸ below_setRow hb3 (g + 1) _ (by omega)⟩
  · exact own_base (own_only o3.out (Only.setRow W3 (g + 1) _) (fun k hk => by have := (World.ownsRow.lt o3.out k hk).1; omega)) (by omega)
  · exact own_base (own_only o4.out (Only.setRow W3 (g + 1) _) (fun k hk => by have := (World.ownsRow.lt o4.out k hk).1; omega)) (by omega)
end Go.Proofs.Ytfncpcmaplhojaa
