/- Contracts of part.Idle and revs.Between. Contracts of catchup.Of. Who comes late; plain lists, no program. Contracts of client.Check. Rows of deltas of the call's own. Contracts of client.copied, Out, Edit. -/
import Derived.Test.YtokngfinnieccaaO4
import Derived.Test.YtokngfinnieccaaO7
import Derived.Test.YtokngfinnieccaaO10
import Derived.Test.YtokngfinnieccaaO8
import Derived.Test.YtokngfinnieccaaO9
import Derived.Test.YtokngfinnieccaaO3
namespace Go.Proofs.Ytokngfinnieccaa
open Go.ChangeShapes Go.WideShapes Go.RowKit
set_option linter.unusedVariables false
set_option linter.unusedSimpArgs false
set_option maxRecDepth 100000
set_option maxHeartbeats 4000000


end Go.Proofs.Ytokngfinnieccaa
namespace Go.Proofs.Ytokngfinnieccaa
set_option linter.unusedVariables false
set_option linter.unusedSimpArgs false
set_option maxRecDepth 100000
set_option maxHeartbeats 4000000
theorem meet_do {a b : List Pt} {s : ByteArray} (h : meetE a b = 0) (h1 : doE a s = 0) (h2 : doE b s = 0) : doE (meetD a b) (doS a s) = 0 ∧ doE (meetC a b) (doS b s) = 0 ∧ doS (meetD a b) (doS a s) = doS (meetC a b) (doS b s) := by
 have hg := meet_good h
 have hz := meet_sizes h
 have e1 : doE (meetD a b) (doS a s) = 0 := do_zero hg.2 (by rw [do_size h1, hz.2.1])
 have e2 : doE (meetC a b) (doS b s) = 0 := do_zero hg.1 (by rw [do_size h2, hz.1])
 refine ⟨e1, e2, ?_⟩
 rw [← (comp_do h1 e1).2.2, ← (comp_do h2 e2).2.2, (meet_comp h).2.2]
end Go.Proofs.Ytokngfinnieccaa
namespace Go.Proofs.Ytokngfinnieccaa
open Go.ChangeShapes Go.WideShapes Go.RowKit
set_option linter.unusedVariables false
set_option linter.unusedSimpArgs false
set_option maxRecDepth 100000
set_option maxHeartbeats 4000000
structure Cl where
 who : Int
 rev : Int
 seq : Int
 text : ByteArray
 fly : Bool
 sent : List Pt
 wait : Bool
 held : List Pt
def clc (c : Cl) (s h : Sl) : Array Value := #[.int .i64 c.who, .int .i64 c.rev, .int .i64 c.seq, .string c.text, .bool c.fly, .slice s.1 s.2.1 s.2.2, .bool c.wait, .slice h.1 h.2.1 h.2.2]
def clv (c : Cl) (s h : Sl) : Value := .agg (clc c s h)
structure CkOk (c : Cl) : Prop where
 who0 : 0 ≤ c.who
 who7 : c.who ≤ 7
 rev0 : 0 ≤ c.rev
 rev1 : c.rev ≤ 2147483647
 seq0 : 0 ≤ c.seq
 seq1 : c.seq ≤ 2147483647
 text : c.text.size ≤ 500
 sent0 : c.fly = false → c.sent = []
 held0 : c.wait = false → c.held = []
 wf : c.wait = true → c.fly = true
 hk : c.wait = true → chk c.held = 0 ∧ nO (units c.held) = c.text.size
 sk : c.fly = true → chk c.sent = 0 ∧ nO (units c.sent) = (if c.wait then nI (units c.held) else c.text.size)
theorem ccheck_TT (a r s : Int) (t : ByteArray) (A A' : Option Addr) (n n' c c' : Nat) (S H : List Pt) (w : World) (a0 : 0 ≤ a) (a7 : a ≤ 7) (r0 : 0 ≤ r) (r1 : r ≤ 2147483647) (s0 : 0 ≤ s) (s1 : s ≤ 2147483647) (ht : (t.size : Int) ≤ 500)
 (hS : RdP w w.heap.size A n c S) (hH : RdP w w.heap.size A' n' c' H) (k1 : chk H = 0) (k2 : nO (units H) = t.size) (k3 : chk S = 0) (k4 : nO (units S) = nI (units H)) :
 Calls Try.prog 101 #[.agg #[.int .i64 a, .int .i64 r, .int .i64 s, .string t, .bool true, .slice A n c, .bool true, .slice A' n' c']] w fun e w' => e = .returned (.int .i64 0) ∧ Below w.heap.size w w' := by
 have HS := Lib.hid hS
 have HH := Lib.hid hH
 have K1 := Lib.hid k1
 have K2 := Lib.hid k2
 have K3 := Lib.hid k3
 have K4 := Lib.hid k4
 clear hS hH k1 k2 k3 k4
 go_enter Try.func101, Try.ntmps101
 go_wp2_with fail
 refine wp_loop_rounds 3 ?_
 rw [rounds_succ]
 have kb := (Blk.new (w.alloc (.cells #[.int .i64 a, .int .i64 r, .int .i64 s, .string t, .bool true, .slice A n c, .bool true, .slice A' n' c'] 92)) 196 #[.bool true, .slice A' n' c', .bool true, .slice A n c]).alloc (.cells #[.bool true, .slice A' n' c'] 196)
 simp only [World.size_alloc] at kb
 have hb0 := (((Below.refl w.heap.size w).alloc (Nat.le_refl _) (.cells #[.int .i64 a, .int .i64 r, .int .i64 s, .string t, .bool true, .slice A n c, .bool true, .slice A' n' c'] 92)).alloc (by simp) (.cells #[.bool true, .slice A' n' c', .bool true, .slice A n c] 196)).alloc (by simp; omega) (.cells #[.bool true, .slice A' n' c'] 196)
 go_wp2_with fail
 generalize ((w.alloc (.cells #[.int .i64 a, .int .i64 r, .int .i64 s, .string t, .bool true, .slice A n c, .bool true, .slice A' n' c'] 92)).alloc (.cells #[.bool true, .slice A' n' c', .bool true, .slice A n c] 196)).alloc (.cells #[.bool true, .slice A' n' c'] 196) = W at *
 have hc := psizes_good H A' n' c' w.heap.size W (HH.out.below hb0) hb0.size K1.out
 rw [K2.out] at hc
 refine hc.mono ?_
 rintro e w1 ⟨rfl, hb1⟩
 have hw1 := hb0.trans (hb1.mono hb0.size)
 have k1 := kb.below hb1 kb.lt
 have c2 := k1.cell 2
 have c3 := k1.cell 3
 have cl := k1.lt
 clear hb1 hb0 kb k1 hc
 go_wp2_with fail
 rw [rounds_succ]
 go_wp2_with fail
 have hc := psizes_good S A n c w.heap.size _ ((HS.out.below hw1).alloc hw1.size (.cells #[.bool true, .slice A n c] 196)) (by have := hw1.size; simp; omega) K3.out
 rw [K4.out] at hc
 refine hc.mono ?_
 rintro e w2 ⟨rfl, hb2⟩
 have hw2 := (hw1.alloc hw1.size (.cells #[.bool true, .slice A n c] 196)).trans (hb2.mono (by have := hw1.size; simp; omega))
 clear hb2 hc c2 c3 cl
 go_wp2_with fail
 rw [rounds_succ]
 go_wp2_with fail
 go_ret
 exact ⟨rfl, hw2⟩
theorem ccheck_TF (a r s : Int) (t : ByteArray) (A A' : Option Addr) (n c c' : Nat) (S : List Pt) (w : World) (a0 : 0 ≤ a) (a7 : a ≤ 7) (r0 : 0 ≤ r) (r1 : r ≤ 2147483647) (s0 : 0 ≤ s) (s1 : s ≤ 2147483647) (ht : (t.size : Int) ≤ 500)
 (hS : RdP w w.heap.size A n c S) (k3 : chk S = 0) (k4 : nO (units S) = t.size) :
 Calls Try.prog 101 #[.agg #[.int .i64 a, .int .i64 r, .int .i64 s, .string t, .bool true, .slice A n c, .bool false, .slice A' 0 c']] w fun e w' => e = .returned (.int .i64 0) ∧ Below w.heap.size w w' := by
 have HS := Lib.hid hS
 have K3 := Lib.hid k3
 have K4 := Lib.hid k4
 clear hS k3 k4
 go_enter Try.func101, Try.ntmps101
 go_wp2_with fail
 refine wp_loop_rounds 3 ?_
 rw [rounds_succ]
 go_wp2_with fail
 rw [rounds_succ]
 have hb0 := ((((Below.refl w.heap.size w).alloc (Nat.le_refl _) (.cells #[.int .i64 a, .int .i64 r, .int .i64 s, .string t, .bool true, .slice A n c, .bool false, .slice A' 0 c'] 92)).alloc (by simp) (.cells #[.bool false, .slice A' 0 c', .bool true, .slice A n c] 196)).alloc (by simp; omega) (.cells #[.bool false, .slice A' 0 c'] 196)).alloc (by simp; omega) (.cells #[.bool true, .slice A n c] 196)
 go_wp2_with fail
 generalize (((w.alloc (.cells #[.int .i64 a, .int .i64 r, .int .i64 s, .string t, .bool true, .slice A n c, .bool false, .slice A' 0 c'] 92)).alloc (.cells #[.bool false, .slice A' 0 c', .bool true, .slice A n c] 196)).alloc (.cells #[.bool false, .slice A' 0 c'] 196)).alloc (.cells #[.bool true, .slice A n c] 196) = W at *
 have hc := psizes_good S A n c w.heap.size W (HS.out.below hb0) hb0.size K3.out
 rw [K4.out] at hc
 refine hc.mono ?_
 rintro e w1 ⟨rfl, hb1⟩
 have hw1 := hb0.trans (hb1.mono hb0.size)
 clear hb1 hb0 hc
 go_wp2_with fail
 rw [rounds_succ]
 go_wp2_with fail
 go_ret
 exact ⟨rfl, hw1⟩
theorem ccheck_FF (a r s : Int) (t : ByteArray) (A A' : Option Addr) (c c' : Nat) (w : World) (a0 : 0 ≤ a) (a7 : a ≤ 7) (r0 : 0 ≤ r) (r1 : r ≤ 2147483647) (s0 : 0 ≤ s) (s1 : s ≤ 2147483647) (ht : (t.size : Int) ≤ 500) :
 Calls Try.prog 101 #[.agg #[.int .i64 a, .int .i64 r, .int .i64 s, .string t, .bool false, .slice A 0 c, .bool false, .slice A' 0 c']] w fun e w' => e = .returned (.int .i64 0) ∧ Below w.heap.size w w' := by
 go_enter Try.func101, Try.ntmps101
 go_wp2_with fail
 refine wp_loop_rounds 3 ?_
 rw [rounds_succ]
 go_wp2_with fail
 rw [rounds_succ]
 have hb0 := ((((Below.refl w.heap.size w).alloc (Nat.le_refl _) (.cells #[.int .i64 a, .int .i64 r, .int .i64 s, .string t, .bool false, .slice A 0 c, .bool false, .slice A' 0 c'] 92)).alloc (by simp) (.cells #[.bool false, .slice A' 0 c', .bool false, .slice A 0 c] 196)).alloc (by simp; omega) (.cells #[.bool false, .slice A' 0 c'] 196)).alloc (by simp; omega) (.cells #[.bool false, .slice A 0 c] 196)
 go_wp2_with fail
 rw [rounds_succ]
 go_wp2_with fail
 go_ret
 exact ⟨rfl, hb0⟩
theorem ccheck_good (c : Cl) (s h : Sl) (w : World) (hk : CkOk c) (hS : RdP w w.heap.size s.1 s.2.1 s.2.2 c.sent) (hH : RdP w w.heap.size h.1 h.2.1 h.2.2 c.held) :
 Calls Try.prog 101 #[clv c s h] w fun e w' => e = .returned (.int .i64 0) ∧ Below w.heap.size w w' := by
 obtain ⟨a, r, sq, t, f, S, q, H⟩ := c
 obtain ⟨A, n, cp⟩ := s
 obtain ⟨A', n', cp'⟩ := h
 obtain ⟨h1, h2, h3, h4, h5, h6, h7, h8, h9, h10, h11, h12⟩ := hk
 simp only at *
 unfold clv clc
 simp only
 cases f with
 | false =>
   obtain rfl := h8 rfl
   cases q with
   | true => exact absurd (h10 rfl) (by decide)
   | false =>
     obtain rfl := h9 rfl
     obtain rfl : n = 0 := hS.1
     obtain rfl : n' = 0 := hH.1
     exact ccheck_FF a r sq t A A' cp cp' w h1 h2 h3 h4 h5 h6 (by omega)
 | true =>
   cases q with
   | true => exact ccheck_TT a r sq t A A' n n' cp cp' S H w h1 h2 h3 h4 h5 h6 (by omega) hS hH (h11 rfl).1 (h11 rfl).2 (h12 rfl).1 (by simpa using (h12 rfl).2)
   | false =>
     obtain rfl := h9 rfl
     obtain rfl : n' = 0 := hH.1
     exact ccheck_TF a r sq t A A' n cp cp' S w h1 h2 h3 h4 h5 h6 (by omega) hS (h12 rfl).1 (by simpa using (h12 rfl).2)
structure Deltas (w : World) (B : Nat) (us : List Value) (ls : List (List Pt)) : Prop where
 len : us.length = ls.length
 at_ : ∀ (j : Nat) (u : Value) (l : List Pt), us[j]? = some u → ls[j]? = some l → Mine w B u l
def Inc (us : List Value) : Prop := us.Pairwise fun u v => ∀ p q, u.ownBlock = some p → v.ownBlock = some q → p < q
theorem client_row {W : World} {g : Nat} {cs : Array Value} (h : Blk W g 92 cs) (hs : cs.size = 8) : (loadVar 92 ⟨g, 0, none⟩).run Try.prog W = .ok (.agg cs) W :=
 run_loadVar_row (P := Try.prog) W g 92 92 _ _ _ h Try.underlying92 rfl (by rw [hs]; kernel_rfl)
theorem client_info : (Try.prog.info? 92).map (·.size) = some 8 := by kernel_rfl
theorem ccopied_any (c : Cl) (s h : Sl) (w : World) (hS : RdP w w.heap.size s.1 s.2.1 s.2.2 c.sent) (hH : RdP w w.heap.size h.1 h.2.1 h.2.2 c.held) (hs : s.2.1 ≤ 4000000) (hh : h.2.1 ≤ 4000000) :
 Calls Try.prog 102 #[clv c s h] w fun e w' => ∃ A1 n1 c1 A2 n2 c2, e = .returned (clv c (A1, n1, c1) (A2, n2, c2)) ∧ OwnP w' w.heap.size (.slice A1 n1 c1) c.sent ∧ OwnP w' w.heap.size (.slice A2 n2 c2) c.held ∧ Inc [.slice A1 n1 c1, .slice A2 n2 c2] ∧ Below w.heap.size w w' := by
 obtain ⟨a, r, sq, t, f, S, q, H⟩ := c
 obtain ⟨A, n, cp⟩ := s
 obtain ⟨A', n', cp'⟩ := h
 simp only at hS hH hs hh ⊢
 have HS := Lib.hid hS
 have HH := Lib.hid hH
 have hb0 := ((Below.refl w.heap.size w).alloc (Nat.le_refl _) (.cells (clc ⟨a, r, sq, t, f, S, q, H⟩ (A, n, cp) (A', n', cp')) 92)).alloc (by simp) (.cells #[.int .i64 0, .int .i64 0, .int .i64 0, .string ⟨#[]⟩, .bool false, .slice none 0 0, .bool false, .slice none 0 0] 92)
 have kc := (Blk.new w 92 (clc ⟨a, r, sq, t, f, S, q, H⟩ (A, n, cp) (A', n', cp'))).alloc (.cells #[.int .i64 0, .int .i64 0, .int .i64 0, .string ⟨#[]⟩, .bool false, .slice none 0 0, .bool false, .slice none 0 0] 92)
 have kr := Blk.new (w.alloc (.cells (clc ⟨a, r, sq, t, f, S, q, H⟩ (A, n, cp) (A', n', cp')) 92)) 92 #[.int .i64 0, .int .i64 0, .int .i64 0, .string ⟨#[]⟩, .bool false, .slice none 0 0, .bool false, .slice none 0 0]
 unfold clv at *
 unfold clc at *
 simp only [World.size_alloc] at *
 clear hS hH
 go_enter Try.func102, Try.ntmps102
 go_upto_region 1 with (fail)
 generalize (w.alloc (.cells #[.int .i64 a, .int .i64 r, .int .i64 sq, .string t, .bool f, .slice A n cp, .bool q, .slice A' n' cp'] 92)).alloc (.cells #[.int .i64 0, .int .i64 0, .int .i64 0, .string ⟨#[]⟩, .bool false, .slice none 0 0, .bool false, .slice none 0 0] 92) = W at *
 obtain ⟨g, hg⟩ : ∃ g, w.heap.size = g := ⟨_, rfl⟩
 rw [hg] at kc kr hb0
 have c5 := kc.cell 5
 have cl := kc.lt
 have hS1 := Lib.hid (hg ▸ (HS.out.below (hg.symm ▸ hb0)))
 have hH1 := Lib.hid (hg ▸ (HH.out.below (hg.symm ▸ hb0)))
 have hgW : g ≤ W.heap.size := by have := hb0.size; omega
 rw [hg]
 go_upto_region 2 with (first
  | (at_builtin; go_loud (refine wpList_app_partsC _ rfl (.const (.slice none 0 0)) (.tmp 4) rfl W.heap.size _ [] rfl (OwnP.nil _ _) A n cp _ S rfl hS1.out (by simp; omega) (Nat.le_refl _) ?_; intro v1 w1 q1 q2; rw [List.nil_append] at q1; obtain ⟨A1, c1, rfl⟩ := q1.form_ (n := n) hS1.out.1.symm; have e1 := kc.below q2 kc.lt; have d5 := e1.cell 5; have f5 := e1.frozen 5; have l1 := e1.lt)))
 have hb2 : Below g w (w1.setCell ⟨g, 5, none⟩ (.slice A1 n c1)) := (hb0.trans (q2.mono hgW)).setCell (p := ⟨g, 5, none⟩) (Nat.le_refl g) _
 have kc2 : Blk (w1.setCell ⟨g, 5, none⟩ (.slice A1 n c1)) g 92 #[.int .i64 a, .int .i64 r, .int .i64 sq, .string t, .bool f, .slice A1 n c1, .bool q, .slice A' n' cp'] := e1.set_ 5 _
 have kr2 : Blk (w1.setCell ⟨g, 5, none⟩ (.slice A1 n c1)) (g + 1) 92 #[.int .i64 0, .int .i64 0, .int .i64 0, .string ⟨#[]⟩, .bool false, .slice none 0 0, .bool false, .slice none 0 0] := (kr.below q2 kr.lt).far (p := ⟨g, 5, none⟩) (by simp only; omega) _
 have hW2 : W.heap.size ≤ (w1.setCell ⟨g, 5, none⟩ (.slice A1 n c1)).heap.size := by simp; exact q2.size
 have o2 := Lib.hid (own_only q1 (Only.setSelf w1 g 5 (.slice A1 n c1)) (fun k hk => by have := (World.ownsRow.lt q1 k hk).1; omega))
 have hg1 : g + 1 < W.heap.size := kr.lt
 clear e1 d5 f5 l1 c5 cl q1 hb0 kc kr hS1
 generalize (w1.setCell ⟨g, 5, none⟩ (.slice A1 n c1)) = W2 at *
 have hgW2 : g ≤ W2.heap.size := by omega
 have hH2 := Lib.hid (hg ▸ (HH.out.below (hg.symm ▸ hb2)))
 have c7 := kc2.cell 7
 have cl := kc2.lt
 go_upto_region 3 with (first
  | (at_builtin; go_loud (refine wpList_app_partsC _ rfl (.const (.slice none 0 0)) (.tmp 8) rfl W2.heap.size _ [] rfl (OwnP.nil _ _) A' n' cp' _ H rfl hH2.out (by simp; omega) (Nat.le_refl _) ?_; intro v2 w2 q1 q3; rw [List.nil_append] at q1; obtain ⟨A2, c2, rfl⟩ := q1.form_ (n := n') hH2.out.1.symm; have e1 := kc2.below q3 kc2.lt; have d7 := e1.cell 7; have f7 := e1.frozen 7; have l1 := e1.lt)))
 have hb3 : Below g w (w2.setCell ⟨g, 7, none⟩ (.slice A2 n' c2)) := (hb2.trans (q3.mono hgW2)).setCell (p := ⟨g, 7, none⟩) (Nat.le_refl g) _
 have kc3 : Blk (w2.setCell ⟨g, 7, none⟩ (.slice A2 n' c2)) g 92 #[.int .i64 a, .int .i64 r, .int .i64 sq, .string t, .bool f, .slice A1 n c1, .bool q, .slice A2 n' c2] := e1.set_ 7 _
 have kr3 : Blk (w2.setCell ⟨g, 7, none⟩ (.slice A2 n' c2)) (g + 1) 92 #[.int .i64 0, .int .i64 0, .int .i64 0, .string ⟨#[]⟩, .bool false, .slice none 0 0, .bool false, .slice none 0 0] := (kr2.below q3 kr2.lt).far (p := ⟨g, 7, none⟩) (by simp only; omega) _
 have hWW : W.heap.size ≤ W2.heap.size := hW2
 have o3 := Lib.hid (own_only (own_below o2.out q3) (Only.setSelf w2 g 7 (.slice A2 n' c2)) (fun k hk => by have := (World.ownsRow.lt o2.out k hk).1; omega))
 have o4 := Lib.hid (own_only q1 (Only.setSelf w2 g 7 (.slice A2 n' c2)) (fun k hk => by have := (World.ownsRow.lt q1 k hk).1; omega))
 have ho2 := o2
 clear e1 d7 f7 l1 c7 cl q1 hb2 kc2 kr2 hH2 o2
 generalize (w2.setCell ⟨g, 7, none⟩ (.slice A2 n' c2)) = W3 at *
 have hinc : Inc [.slice A1 n c1, .slice A2 n' c2] := by
  refine List.Pairwise.cons (fun u hu p q hp hq => ?_) (List.Pairwise.cons (fun u hu => by cases hu) List.Pairwise.nil)
  rw [List.mem_singleton] at hu
  subst hu
  have h1 := (World.ownsRow.lt (ho2.out) p hp).2
  have h2 := (World.ownsRow.lt o4.out q hq).1
  omega
 go_wp2_with (first
  | (refine wpList_load_blk rfl _ (.tmp 1) rfl g rfl _ (client_row kc3 rfl) ?_)
  | (refine wpList_store_blk rfl _ (.tmp 2) (.tmp 11) rfl (g + 1) _ rfl rfl _ _ kr3 client_info rfl (by simp [Value.oneCell']) ?_))
 refine row_end1 rfl rfl rfl (client_row (kr3.row #[.int .i64 a, .int .i64 r, .int .i64 sq, .string t, .bool f, .slice A1 n c1, .bool q, .slice A2 n' c2]) rfl) ?_
 refine ⟨_, _, _, _, _, _, rfl, ?_, ?_, hinc, hg ▸ below_setRow hb3 (g + 1) _ (by omega)⟩
 · exact own_base (own_only o3.out (Only.setRow W3 (g + 1) _) (fun k hk => by have := (World.ownsRow.lt o3.out k hk).1; omega)) (by omega)
 · exact own_base (own_only o4.out (Only.setRow W3 (g + 1) _) (fun k hk => by have := (World.ownsRow.lt o4.out k hk).1; omega)) (by omega)
end Go.Proofs.Ytokngfinnieccaa
