/- Contracts of scrivref.SameRev and SameRevs, where both are the same. Contract of scrivref.SameLog, where both are the same. Contract of the laws' helper Within: a number from 0 to n-1. Histories, opened. walk of scrivkeep.HotBack. -/
import Derived.Test.YtfncpcmaplhojaaMHotBack6
import Derived.Test.YtfncpcmaplhojaaMHotBack10
import Derived.Test.YtfncpcmaplhojaaMHotBack22
import Derived.Test.YtfncpcmaplhojaaMHotBack1
import Derived.Test.YtfncpcmaplhojaaMHotBack18
import Derived.Test.YtfncpcmaplhojaaMHotBack21
import Derived.Test.YtfncpcmaplhojaaMHotBack20
namespace Go.Proofs.Ytfncpcmaplhojaa
open Go.ChangeShapes Go.WideShapes Go.RowKit
set_option linter.unusedVariables false
set_option linter.unusedSimpArgs false
set_option maxRecDepth 100000
set_option maxHeartbeats 4000000

theorem samerev_true (a b : Int) (d : List Pt) (A A' : Option Addr) (n n' c c' : Nat) (w : World) (h : RdP w w.heap.size A n c d) (h' : RdP w w.heap.size A' n' c' d) :
    Calls Try.prog 27 #[.agg #[.int .i64 a, .int .i64 b, .slice A n c], .agg #[.int .i64 a, .int .i64 b, .slice A' n' c']] w fun e w' => e = .returned (.bool true) ∧ Below w.heap.size w w' := by
  have hb1 := (Below.refl w.heap.size w).alloc (Nat.le_refl _) (.cells #[.int .i64 a, .int .i64 b, .slice A n c] 29)
  have hb0 := hb1.alloc hb1.size (.cells #[.int .i64 a, .int .i64 b, .slice A' n' c'] 29)
  have hc := same_true d d A A' n n' c c' _ _ _ ((h.stepA (.cells #[.int .i64 a, .int .i64 b, .slice A n c] 29)).stepA (.cells #[.int .i64 a, .int .i64 b, .slice A' n' c'] 29)) ((h'.stepA (.cells #[.int .i64 a, .int .i64 b, .slice A n c] 29)).stepA (.cells #[.int .i64 a, .int .i64 b, .slice A' n' c'] 29)) rfl
  have Hc := Lib.hid hc
  clear hc h h' hb1
  go_enter Try.func27, Try.ntmps27
  go_wp2_with fail
  refine Hc.out.mono ?_
  rintro e w1 ⟨rfl, hb⟩
  have hw := hb0.trans (hb.mono hb0.size)
  go_wp2_with fail
  go_ret
  exact ⟨rfl, hw⟩
theorem eqrevs_true (l : List Rv) (A A' : Option Addr) (n n' c c' : Nat) (w : World) (h : RdR w w.heap.size A n c l) (h' : RdR w w.heap.size A' n' c' l) :
    Calls Try.prog 77 #[.slice A n c, .slice A' n' c', .func (.func 27) #[] #[]] w fun e w' => e = .returned (.bool true) ∧ Below w.heap.size w w' := by
  obtain rfl : n' = n := by rw [h'.1, h.1]
  have hle := h.le
  have Hn := Lib.hid h.1
  have H := Lib.hid h
  have H' := Lib.hid h'
  clear h h'
  go_enter Try.func77, Try.ntmps77
  go_wp2_with fail
  go_loopw [7, 8, 9, 17] (fun x y z i wr => ∃ (k : Nat), k ≤ n' ∧ i = .int .i64 k ∧ Hid (Below w.heap.size w wr)) (fun _ _ _ i _ => n' - (intOf i).toNat)
  case atStart => exact ⟨0, by omega, rfl, Lib.hid (Below.refl _ _)⟩
  case round =>
    obtain ⟨k, hk, rfl, hbw⟩ := hrel
    by_cases hlt : k < n'
    · have hkl : k < l.length := by have := Hn.out; omega
      obtain ⟨g, o, A1, n1, c1, rfl, hg, d0, d1, d2, hrd⟩ := (H.out.below hbw.out).at_ k hlt
      obtain ⟨g', o', A2, n2, c2, rfl, hg', d0', d1', d2', hrd'⟩ := (H'.out.below hbw.out).at_ k hlt
      obtain ⟨p, hp⟩ : ∃ p, p = l[k] := ⟨_, rfl⟩
      rw [← hp] at d0 d1 hrd d0' d1' hrd'
      clear hp
      obtain ⟨ra, rb, d⟩ := p
      simp only at d0 d1 d2 hrd d0' d1' d2' hrd'
      have hk0 : (0 : Int) ≤ (k : Int) := by omega
      have hkn : (k : Int) < (n' : Int) := by omega
      have hws := hbw.out.size
      have hgw : g < wr.heap.size := by omega
      have hgw' : g' < wr.heap.size := by omega
      have hb1 := (Below.refl wr.heap.size wr).alloc (Nat.le_refl _) (.cells #[.int .i64 ra, .int .i64 rb, .slice A1 n1 c1] 29)
      have hb0 := hb1.alloc hb1.size (.cells #[.int .i64 ra, .int .i64 rb, .slice A2 n2 c2] 29)
      have hc := samerev_true ra rb d A1 A2 n1 n2 c1 c2 _ (((hrd.more hws).stepA (.cells #[.int .i64 ra, .int .i64 rb, .slice A1 n1 c1] 29)).stepA (.cells #[.int .i64 ra, .int .i64 rb, .slice A2 n2 c2] 29)) (((hrd'.more hws).stepA (.cells #[.int .i64 ra, .int .i64 rb, .slice A1 n1 c1] 29)).stepA (.cells #[.int .i64 ra, .int .i64 rb, .slice A2 n2 c2] 29))
      have Hc := Lib.hid hc
      have Hb0 := Lib.hid hb0
      clear hc hrd hrd' hb1 hb0 hws
      go_wp2_with fail
      refine Hc.out.mono ?_
      rintro e w2 ⟨rfl, hb2⟩
      have hw2 := hbw.out.trans ((Hb0.out.trans (hb2.mono Hb0.out.size)).mono hbw.out.size)
      clear hb2
      go_wp2_with fail
      go_roundw
      case rel => exact ⟨k + 1, by omega, by go_num, Lib.hid hw2⟩
      case measure => simp [intOf]; omega
    · obtain rfl : k = n' := by omega
      go_wp2_with fail
      go_ret
      exact ⟨rfl, hbw.out⟩
theorem samerevs_true (l : List Rv) (A A' : Option Addr) (n n' c c' : Nat) (w : World) (h : RdR w w.heap.size A n c l) (h' : RdR w w.heap.size A' n' c' l) :
    Calls Try.prog 39 #[.slice A n c, .slice A' n' c'] w fun e w' => e = .returned (.bool true) ∧ Below w.heap.size w w' := by
  have hc := eqrevs_true l A A' n n' c c' w h h'
  have Hc := Lib.hid hc
  clear hc h h'
  go_enter Try.func39, Try.ntmps39
  go_wp2_with fail
  refine Hc.out.mono ?_
  rintro e w1 ⟨rfl, hb⟩
  go_wp2_with fail
  go_ret
  exact ⟨rfl, hb⟩
end Go.Proofs.Ytfncpcmaplhojaa
namespace Go.Proofs.Ytfncpcmaplhojaa
open Go.ChangeShapes Go.WideShapes Go.RowKit
set_option linter.unusedVariables false
set_option linter.unusedSimpArgs false
set_option maxRecDepth 100000
set_option maxHeartbeats 4000000

theorem run_eq_tab (d : Nat) (xs ys : Array Value) (w : World) : (Op.equalIn (d + 1) 68 (.agg xs) (.agg ys)).run Try.prog w = (Op.eqItems d 67 2 xs ys [0, 1, 2, 3, 4, 5, 6, 7]).run Try.prog w := by
  have hi : (Try.prog.info? 67).isSome = true := by kernel_rfl
  obtain ⟨i, hi⟩ := Option.isSome_iff_exists.1 hi
  have hc : Try.prog.cellsOf 67 = 2 := by kernel_rfl
  rw [run_equalIn_array w d xs ys Try.underlying68 hi, hc]
  rfl
section
attribute [local go_sem] run_eq_tab Op.eqItems
theorem eqtab (t : Tb) (h : t.length = 8) (w : World) : (binOp .eql 68 (.agg (tc t).toArray) (.agg (tc t).toArray)).run Try.prog w = .ok (.bool true) w := by
  match t, h with
  | [p0, p1, p2, p3, p4, p5, p6, p7], _ =>
    have e : Op.maxDepth = 9999 + 1 := rfl
    simp only [binOp, Op.equal, e, tc, List.flatMap_cons, List.flatMap_nil, List.cons_append, List.nil_append]
    rw [Sem.run_bind, run_eq_tab]
    simp [go_sem]
end
theorem log_table_range {w : World} {g : Nat} {l : Lg} {s : Sl} (h : Blk w g 70 (lgc l s)) (h8 : Lg8 l) : w.rangeAt g 19 (tc l.table) := h.range fun j v hj => by
  have hjl : j < 16 := by have := (List.getElem?_eq_some_iff.1 hj).1; rw [tc_len, h8.2] at this; exact this
  rw [lgc_at, lgl_table h8 j hjl]; exact hj
theorem wpList_load_midW {ops : Array Oper} {rest : List Oper} {op : Oper} {a : Act} {w : World} {Q : Exit → Act → World → Prop} (hgd : Region.wanted op (yielded ops a.tmps) = true) (ty : TypeId) (x : Operand) (ho : op.op = .load ty x)
    (b o : Nat) (hx : a.eval x = .pointer (some ⟨b, o, none⟩)) (cs : List Value) (d : TypeDesc) (hc : w.rangeAt b o cs)
    (hu : Try.prog.underlying ty = some d) (hd : d.isRow = true) (hi : (Try.prog.info? ty).map (·.size) = some cs.length)
    (h : wpList Try.prog ops Q rest (a.put op.dst (.agg cs.toArray)) w) : wpList Try.prog ops Q (op :: rest) a w :=
  BigFrame.wpList_want hgd fun _ hK => wp_load_mid ty x ho b o hx cs d hc hu hd hi (hK _ _ h)
theorem wpList_eqlW {ops : Array Oper} {rest : List Oper} {o : Oper} {a : Act} {w : World} {Q : Exit → Act → World → Prop} (hgd : Region.wanted o (yielded ops a.tmps) = true) (ty ty' : TypeId) (x y : Operand) (ho : o.op = .binOp .eql ty x y ty')
    (xs ys : Array Value) (r : Value) (hx : a.eval x = .agg xs) (hy : a.eval y = .agg ys) (hm : Try.prog.eqGuardType Try.prog.depth ty = false) (hr : (binOp .eql ty (.agg xs) (.agg ys)).run Try.prog w = .ok r w)
    (h : wpList Try.prog ops Q rest (a.put o.dst r) w) : wpList Try.prog ops Q (o :: rest) a w :=
  BigFrame.wpList_want hgd fun _ hK => by
    unfold Oper.wp execOp
    simp only [ho, hx, hy, Sem.run_bind, Sem.run_pure, run_eqGuard_agg _ _ _ _ _ _ _ hm, Result.andThen_ok, hr]
    exact hK _ _ h
theorem samelog_true (l : Lg) (s s' : Sl) (w : World) (h8 : Lg8 l) (h : RdR w w.heap.size s.1 s.2.1 s.2.2 l.revs) (h' : RdR w w.heap.size s'.1 s'.2.1 s'.2.2 l.revs) :
    Calls Try.prog 38 #[.agg (lgc l s), .agg (lgc l s')] w fun e w' => e = .returned (.bool true) ∧ Below w.heap.size w w' := by
  have hb1 := (Below.refl w.heap.size w).alloc (Nat.le_refl _) (.cells (lgc l s) 70)
  have hb0 := hb1.alloc hb1.size (.cells (lgc l s') 70)
  have k1 := (Blk.new w 70 (lgc l s)).alloc (.cells (lgc l s') 70)
  have k2 := Blk.new (w.alloc (.cells (lgc l s) 70)) 70 (lgc l s')
  have hc := samerevs_true l.revs s.1 s'.1 s.2.1 s'.2.1 s.2.2 s'.2.2 _ ((h.stepA (.cells (lgc l s) 70)).stepA (.cells (lgc l s') 70)) ((h'.stepA (.cells (lgc l s) 70)).stepA (.cells (lgc l s') 70))
  have Hc := Lib.hid hc
  clear hc h h' hb1
  go_enter Try.func38, Try.ntmps38
  go_upto_region 1 with (fail)
  rw [World.size_alloc] at k2
  obtain ⟨W, hW⟩ : ∃ W, (w.alloc (.cells (lgc l s) 70)).alloc (.cells (lgc l s') 70) = W := ⟨_, rfl⟩
  rw [hW] at hb0 k1 k2 Hc ⊢
  clear hW
  obtain ⟨g, hg⟩ : ∃ g, w.heap.size = g := ⟨_, rfl⟩
  rw [hg] at k1 k2 ⊢
  have l1 := k1.lt
  have l2 := k2.lt
  have a0 := k1.cell 0
  have a1 := k1.cell 1
  have a2 := k1.cell 2
  have a35 := k1.cell 35
  have a36 := k1.cell 36
  have a37 := k1.cell 37
  have b0 := k2.cell 0
  have b1 := k2.cell 1
  have b2 := k2.cell 2
  have b35 := k2.cell 35
  have b36 := k2.cell 36
  have b37 := k2.cell 37
  rw [lgc_gen] at a0 b0
  rw [lgc_base] at a1 b1
  rw [lgc_text] at a2 b2
  rw [lgc_revs h8] at a35 b35
  rw [lgc_whole h8] at a36 b36
  rw [lgc_good h8] at a37 b37
  have r1 := Lib.hid (log_first_range k1 h8)
  have r2 := Lib.hid (log_first_range k2 h8)
  have t1 := Lib.hid (log_table_range k1 h8)
  have t2 := Lib.hid (log_table_range k2 h8)
  have q1 := Lib.hid (eqtab l.first h8.1 W)
  have q2 := Lib.hid (eqtab l.table h8.2 W)
  have H1 := Lib.hid h8.1
  have H2 := Lib.hid h8.2
  have Hb := Lib.hid hb0
  clear h8 k1 k2 hb0
  obtain ⟨gen, hgen⟩ : ∃ x, l.gen = x := ⟨_, rfl⟩
  obtain ⟨base, hbase⟩ : ∃ x, l.base = x := ⟨_, rfl⟩
  obtain ⟨text, htext⟩ : ∃ x, l.text = x := ⟨_, rfl⟩
  obtain ⟨whole, hwhole⟩ : ∃ x, l.whole = x := ⟨_, rfl⟩
  obtain ⟨good, hgood⟩ : ∃ x, l.good = x := ⟨_, rfl⟩
  rw [hgen] at a0 b0
  rw [hbase] at a1 b1
  rw [htext] at a2 b2
  rw [hwhole] at a36 b36
  rw [hgood] at a37 b37
  clear hgen hbase htext hwhole hgood
  go_wp2_with (first | (refine wpList_load_midW (by simp [Region.wanted, yielded, Act.put]) _ (.tmp 25) rfl g 3 rfl (tc l.first) _ r1.out Try.underlying68 rfl (by rw [tc_len, H1.out]; exact tabS_info) ?_) | (refine wpList_load_midW (by simp [Region.wanted, yielded, Act.put]) _ (.tmp 27) rfl (g + 1) 3 rfl (tc l.first) _ r2.out Try.underlying68 rfl (by rw [tc_len, H1.out]; exact tabS_info) ?_) | (refine wpList_load_midW (by simp [Region.wanted, yielded, Act.put]) _ (.tmp 32) rfl g 19 rfl (tc l.table) _ t1.out Try.underlying68 rfl (by rw [tc_len, H2.out]; exact tabS_info) ?_) | (refine wpList_load_midW (by simp [Region.wanted, yielded, Act.put]) _ (.tmp 34) rfl (g + 1) 19 rfl (tc l.table) _ t2.out Try.underlying68 rfl (by rw [tc_len, H2.out]; exact tabS_info) ?_) | (refine wpList_eqlW (by simp [Region.wanted, yielded, Act.put]) _ _ (.tmp 26) (.tmp 28) rfl _ _ _ rfl rfl (by kernel_rfl) q1.out ?_) | (refine wpList_eqlW (by simp [Region.wanted, yielded, Act.put]) _ _ (.tmp 33) (.tmp 35) rfl _ _ _ rfl rfl (by kernel_rfl) q2.out ?_))
  refine Hc.out.mono ?_
  rintro e w1 ⟨rfl, hb⟩
  have hw := Hb.out.trans (hb.mono Hb.out.size)
  have e36 : w1.cell? ⟨g, 36, none⟩ = some (.bool whole) := (hb.cell l1).trans a36
  have f36 : w1.cell? ⟨g + 1, 36, none⟩ = some (.bool whole) := (hb.cell l2).trans b36
  have e37 : w1.cell? ⟨g, 37, none⟩ = some (.int .i64 good) := (hb.cell l1).trans a37
  have f37 : w1.cell? ⟨g + 1, 37, none⟩ = some (.int .i64 good) := (hb.cell l2).trans b37
  have m1 : g < w1.heap.size := Nat.lt_of_lt_of_le l1 hb.size
  have m2 : g + 1 < w1.heap.size := Nat.lt_of_lt_of_le l2 hb.size
  clear hb
  go_wp2_with fail
  go_ret
  exact ⟨rfl, hw⟩
end Go.Proofs.Ytfncpcmaplhojaa
namespace Go.Proofs.Ytfncpcmaplhojaa
open Go.ChangeShapes Go.WideShapes Go.RowKit
set_option linter.unusedVariables false
set_option linter.unusedSimpArgs false
set_option maxRecDepth 100000
set_option maxHeartbeats 4000000

def wi (k : Int) (n : Nat) : Nat := (IntKind.u64.wrap k).toNat % n
theorem wi_lt (k : Int) (n : Nat) (h : 0 < n) : wi k n < n := Nat.mod_lt _ h

theorem within_any (k : Int) (n : Nat) (w : World) (h1 : 0 < n) (h2 : (n : Int) ≤ 1000000000000000000) :
    Calls Try.prog 20 #[.int .i64 k, .int .i64 n] w fun e w' => e = .returned (.int .i64 (wi k n)) ∧ w = w' := by
  go_enter Try.func20, Try.ntmps20
  go_wp2_with fail
  go_ret
  refine ⟨?_, rfl⟩
  have h0 : 0 ≤ IntKind.u64.wrap k := by
    simp only [IntKind.wrap, IntKind.signed, IntKind.bits]
    exact Int.emod_nonneg _ (by decide)
  obtain ⟨x, hx⟩ := Int.eq_ofNat_of_zero_le h0
  have hlt : x % n < n := Nat.mod_lt _ h1
  have e : wrap64 ((IntKind.u64.wrap k).tmod n) = (wi k n : Int) := by
    unfold wi
    rw [hx, Int.toNat_natCast, show (x : Int).tmod n = ((x % n : Nat) : Int) from rfl]
    exact IntWalk.wrap64_in _ ⟨by omega, by omega⟩
  show Ending.returned (.int .i64 (wrap64 ((IntKind.u64.wrap k).tmod n))) = _
  rw [e]
end Go.Proofs.Ytfncpcmaplhojaa
namespace Go.Proofs.Ytfncpcmaplhojaa
open Go.ChangeShapes Go.WideShapes Go.RowKit Go.Joins Go.Deep
set_option linter.unusedVariables false
set_option linter.unusedSimpArgs false
set_option maxRecDepth 100000

/-- a history as it came in -/
def IsRevs (w : World) (v : Value) (l : List Rv) : Prop := ∃ A n c, v = .slice A n c ∧ RdR w w.heap.size A n c l
section
variable {H : Type} {enc : TypeId × Value → H} {w : World} {base : Nat} {spare : Nat → Bool} {held : Bool}
theorem read_revs {fuel : Nat} {v : Value} {x : DataW H × List MemPlace} (h : DataW.trod enc Try.prog w base spare held fuel 22 [v] = some x) (hb : ∀ n ∈ DataW.weights Try.prog 22 x.1, n ≤ 140737488351232) : ∃ l, IsRevs w v l := by
  rcases open_slice_fields Try.underlying22 Try.underlying29 (by kernel_rfl) (by kernel_rfl) h with ⟨hc, _⟩ | ⟨a, len, cap, m, D, Pl, hc, _, h1, h2, h3, hx, h4⟩
  · simp only [List.cons.injEq, and_true] at hc
    exact ⟨[], _, _, _, hc, RdR.nil _ _⟩
  · simp only [List.cons.injEq, and_true] at hc
    have hl : len ≤ m := by rw [h3]; split <;> omega
    subst hx
    have h5 : ∀ i, i < len → ∃ p : Rv × Sl, w.cell? (a.add (i * 3)) = some (.int .i64 p.1.1) ∧ w.cell? (a.add (i * 3 + 1)) = some (.int .i64 p.1.2.1) ∧ w.cell? (a.add (i * 3 + 2)) = some (.slice p.2.1 p.2.2.1 p.2.2.2) ∧ RdP w w.heap.size p.2.1 p.2.2.1 p.2.2.2 p.1.2.2 := by
      intro i hi
      obtain ⟨ys, n, hD, _, hyl, hf⟩ := h4 i (by omega)
      obtain ⟨v0, y0, c0, e0, t0⟩ := hf 0 _ rfl
      obtain ⟨v1, y1, c1, e1, t1⟩ := hf 1 _ rfl
      obtain ⟨v2, y2, c2, e2, t2⟩ := hf 2 _ rfl
      obtain ⟨k0, z0, rfl, _⟩ := DataW.trod_int Try.underlying3 t0
      obtain ⟨k1, z1, rfl, _⟩ := DataW.trod_int Try.underlying3 t1
      simp only [List.cons.injEq, and_true] at z0 z1
      subst z0 z1
      match ys, hyl with
      | [a0, a1, a2], _ =>
        simp only [List.getElem?_cons_zero, List.getElem?_cons_succ, Option.some.injEq] at e0 e1 e2
        subst e0 e1 e2
        obtain ⟨d, A2, n2, c2', rfl, hr2⟩ := read_parts t2 (fun q hq => hb q (by
          have hmem : q ∈ DataW.weights Try.prog 29 (D i) := by
            rw [hD]
            simp only [DataW.weights, Try.underlying29, List.map_cons, List.map_nil, DataW.weightsEach, List.nil_append, List.append_nil, List.mem_append]
            exact hq
          simp only [DataW.weights, Try.underlying22, List.mem_cons, List.mem_append]
          exact .inr (.inl (weights_all_mem hmem (List.mem_map.2 ⟨i, List.mem_range.2 hi, rfl⟩)))))
        exact ⟨((k0, k1, d), (A2, n2, c2')), c0, c1, c2, hr2⟩
    obtain ⟨l, hll, hp⟩ := pick_lt (((0, 0, []), (none, 0, 0)) : Rv × Sl) h5
    refine ⟨l.map (·.1), _, len, cap, hc, by rw [List.length_map]; exact hll.symm, l.map (·.2), by simp, rd_of (by omega) h1 h2 (by rw [rc_len _ _ (by simp), List.length_map, hll]) fun j u hj => ?_, fun k hk => ?_⟩
    · have hrl := rc_len (l.map (·.1)) (l.map (·.2)) (by simp)
      have hjl : j < l.length * 3 := by
        rcases Nat.lt_or_ge j (rc (l.map (·.1)) (l.map (·.2))).length with hlt | hge
        · rw [hrl, List.length_map] at hlt; exact hlt
        · rw [List.getElem?_eq_none hge] at hj; cases hj
      obtain ⟨q0, q1, q2⟩ := rc_at (l.map (·.1)) (l.map (·.2)) (by simp) (j / 3) (by rw [List.length_map]; omega)
      obtain ⟨b0, b1, b2, _⟩ := hp (j / 3) (by omega)
      simp only [List.getElem_map] at q0 q1 q2
      have e : j = j / 3 * 3 + j % 3 := by omega
      rcases (show j % 3 = 0 ∨ j % 3 = 1 ∨ j % 3 = 2 by omega) with h | h | h
      · rw [e, h, Nat.add_zero] at hj ⊢; rw [q0] at hj; rw [b0]; exact hj
      · rw [e, h] at hj ⊢; rw [q1] at hj; rw [b1]; exact hj
      · rw [e, h] at hj ⊢; rw [q2] at hj; rw [b2]; exact hj
    · rw [List.length_map] at hk
      have := (hp k hk).2.2.2
      simpa using this
theorem open_revs_said {r : Reach} {b0 : Nat} {v : Value} {d : DataW H} {p : List MemPlace} (hv : Value.okWide Try.prog w r b0 22 v) (h : DataW.Trod enc Try.prog w base spare held 22 v d p) (_ : ∀ x ∈ p, x.block < w.heap.size)
    (hb : ∀ x ∈ DataW.weights Try.prog 22 d, x ≤ 140737488351232) : ∃ x, IsRevs w v x := by
  obtain ⟨A, n, c, rfl⟩ := okWide_slice Try.underlying22 hv
  obtain ⟨fuel, hf⟩ := h
  exact read_revs hf hb
end
end Go.Proofs.Ytfncpcmaplhojaa
namespace Go.Proofs.Ytfncpcmaplhojaa
open Go.ChangeShapes Go.WideShapes Go.RowKit
set_option linter.unusedVariables false
set_option linter.unusedSimpArgs false
set_option maxRecDepth 100000
set_option maxHeartbeats 4000000

def abT : ByteArray := ⟨#[97, 98]⟩
theorem walk_HotBack (gn : Int) (wg : (Lit.int .i64 gn).wf = true) (bs : Int) (wb : (Lit.int .i64 bs).wf = true) (text : ByteArray) (htx : text.size ≤ 140737488351232) (v : Value) (l : List Rv) (w : World) (h : IsRevs w v l) :
    Calls Try.prog 10 #[.int .i64 gn, .int .i64 bs, .string text, v] w fun e w' => e = .returned (.bool true) ∧ Below w.heap.size w w' := by
  obtain ⟨A, n, c, rfl, hrd⟩ := h
  have hnl := hrd.1
  have hle := hrd.le
  -- the first head
  have hh1 := fun w => hhead_good 1 2 tz abT rfl (by decide) (by decide) tz_le w (by decide)
  have hz1 : (hdB 1 2 tz abT).size ≤ 700 := by
    have h1 : (hdB 1 2 tz abT).data.toList.length = (hdB 1 2 tz abT).size := rfl
    rw [hdB_tx, txF_len] at h1
    have h2 : (hf 1 2 tz abT).2.size ≤ 90 + abT.size := by
      show (headB ((1, 2) :: tz) abT).toArray.size ≤ _
      rw [List.size_toArray]
      exact headB_len 1 2 tz abT rfl (by decide) (by decide) tz_le
    have h3 : abT.size = 2 := rfl
    omega
  have hok1 := hf_ok 1 2 tz abT rfl (by decide) (by decide) tz_le (by decide)
  have hb1 := hot_back 1 2 tz abT [] rfl (by decide) (by decide) tz_le (by decide) trivial
  have hsz1 : (hdB 1 2 tz abT ++ doneT).size ≤ 140737488351232 := by have : doneT.size = 7 := rfl; simp; omega
  have hr1 := fun w => hread_fs (hdB 1 2 tz abT ++ doneT) (hf 1 2 tz abT :: ([].map frR ++ [doneF])) [] (by
      intro p hp
      simp only [List.map_nil, List.nil_append, List.mem_cons, List.not_mem_nil, or_false] at hp
      rcases hp with rfl | rfl
      · exact hok1
      · exact doneF_ok) (by rw [bs_append, hdB_tx, doneT_tx]; simp [flat, doneF]) gf_nil (by simp) hsz1 w
  rw [hb1.1, hb1.2] at hr1
  obtain ⟨H1, hH1⟩ : ∃ H1, hdB 1 2 tz abT = H1 := ⟨_, rfl⟩
  rw [hH1] at hh1 hr1 hz1
  have hD7 : doneT.size = 7 := rfl
  have hdn := fun w => hdone_any w
  obtain ⟨D, hD⟩ : ∃ D, doneT = D := ⟨_, rfl⟩
  rw [hD] at hr1 hdn hD7
  have h81 : Lg8 ({ addLs (L0 1 2 tz abT) [] with whole := true, good := (addLs (L0 1 2 tz abT) []).good + 7 } : Lg) := ⟨rfl, rfl⟩
  have hw1 : ({ addLs (L0 1 2 tz abT) [] with whole := true, good := (addLs (L0 1 2 tz abT) []).good + 7 } : Lg).whole = true := rfl
  have hbs1 : ({ addLs (L0 1 2 tz abT) [] with whole := true, good := (addLs (L0 1 2 tz abT) []).good + 7 } : Lg).base = 2 := rfl
  have htt1 : ({ addLs (L0 1 2 tz abT) [] with whole := true, good := (addLs (L0 1 2 tz abT) []).good + 7 } : Lg).text = ⟨#[97, 98]⟩ := rfl
  obtain ⟨X1, hX1⟩ : ∃ X1, ({ addLs (L0 1 2 tz abT) [] with whole := true, good := (addLs (L0 1 2 tz abT) []).good + 7 } : Lg) = X1 := ⟨_, rfl⟩
  rw [hX1] at hr1 h81 hw1 hbs1 htt1
  -- the second head
  obtain ⟨G, hG⟩ : ∃ G, wi gn 1000 = G := ⟨_, rfl⟩
  obtain ⟨Bs, hBs⟩ : ∃ Bs, wi bs 1000 = Bs := ⟨_, rfl⟩
  have hGl : G < 1000 := by rw [← hG]; exact wi_lt _ _ (by decide)
  have hBl : Bs < 1000 := by rw [← hBs]; exact wi_lt _ _ (by decide)
  have hwg := fun w => within_any gn 1000 w (by decide) (by decide)
  have hwb := fun w => within_any bs 1000 w (by decide) (by decide)
  rw [hG] at hwg
  rw [hBs] at hwb
  have hE1 : ∀ w, Calls Try.prog 40 #[.int .i64 1, .int .i64 2, .string ⟨#[97, 98]⟩, .agg (tc (tbN tz)).toArray] w fun e w' => e = .returned (.tuple #[.string H1, .int .i64 0]) ∧ Below w.heap.size w w' := hh1
  have Hh1 := Lib.hid hE1
  have Hr1 := Lib.hid hr1
  have Hdn := Lib.hid hdn
  have Hwg := Lib.hid hwg
  have Hwb := Lib.hid hwb
  have Hrd := Lib.hid hrd
  have Hnl := Lib.hid hnl
  have HD := Lib.hid hD
  have h81 := Lib.hid h81
  have hcat1 : (9223372036854775807 < H1.size + D.size) = False := by simp; omega
  have hbI : ((Bs : Int) == 2) = false ∨ True := .inr trivial
  clear hh1 hE1 hr1 hdn hwg hwb hrd hb1 hok1 hsz1 hH1 hX1 hG hBs hD hnl hbI
  go_enter Try.func10, Try.ntmps10
  go_wp2_with fail
  refine (Hh1.out w).mono ?_
  rintro e w1 ⟨rfl, hb⟩
  go_wp2_with fail
  refine (Hdn.out w1).mono ?_
  rintro e w2 ⟨rfl, hq⟩
  replace hb := hb.trans (hq.mono hb.size)
  clear hq
  go_wp2_with fail
  refine (Hr1.out w2).mono ?_
  rintro e w3 ⟨sl, ss, rfl, -, hq⟩
  replace hb := hb.trans (hq.mono hb.size)
  clear hq
  go_upto_region 3 with (first | (refine wpList_store_blk rfl _ (.tmp 11) (.tmp 30) rfl w3.heap.size (lgc X1 sl) rfl rfl _ _ (Blk.new w3 _ _) (by rw [lgc_size h81.out]; exact log_info) (by rw [lgc_size h81.out]; rfl) lgc_ones ?_))
  have kx := (Blk.new w3 70 #[.int .i64 0, .int .i64 0, .string ⟨#[]⟩, .int .i64 0, .int .i64 0, .int .i64 0, .int .i64 0, .int .i64 0, .int .i64 0, .int .i64 0, .int .i64 0, .int .i64 0, .int .i64 0, .int .i64 0, .int .i64 0, .int .i64 0, .int .i64 0, .int .i64 0, .int .i64 0, .int .i64 0, .int .i64 0, .int .i64 0, .int .i64 0, .int .i64 0, .int .i64 0, .int .i64 0, .int .i64 0, .int .i64 0, .int .i64 0, .int .i64 0, .int .i64 0, .int .i64 0, .int .i64 0, .int .i64 0, .int .i64 0, .slice none 0 0, .bool false, .int .i64 0]).row (lgc X1 sl)
  have hbv := below_setRow ((Below.refl w3.heap.size w3).alloc (Nat.le_refl _) (.cells #[.int .i64 0, .int .i64 0, .string ⟨#[]⟩, .int .i64 0, .int .i64 0, .int .i64 0, .int .i64 0, .int .i64 0, .int .i64 0, .int .i64 0, .int .i64 0, .int .i64 0, .int .i64 0, .int .i64 0, .int .i64 0, .int .i64 0, .int .i64 0, .int .i64 0, .int .i64 0, .int .i64 0, .int .i64 0, .int .i64 0, .int .i64 0, .int .i64 0, .int .i64 0, .int .i64 0, .int .i64 0, .int .i64 0, .int .i64 0, .int .i64 0, .int .i64 0, .int .i64 0, .int .i64 0, .int .i64 0, .int .i64 0, .slice none 0 0, .bool false, .int .i64 0] 70)) w3.heap.size (lgc X1 sl) (Nat.le_refl _)
  obtain ⟨W3, hW3⟩ : ∃ W3, (w3.alloc (.cells #[.int .i64 0, .int .i64 0, .string ⟨#[]⟩, .int .i64 0, .int .i64 0, .int .i64 0, .int .i64 0, .int .i64 0, .int .i64 0, .int .i64 0, .int .i64 0, .int .i64 0, .int .i64 0, .int .i64 0, .int .i64 0, .int .i64 0, .int .i64 0, .int .i64 0, .int .i64 0, .int .i64 0, .int .i64 0, .int .i64 0, .int .i64 0, .int .i64 0, .int .i64 0, .int .i64 0, .int .i64 0, .int .i64 0, .int .i64 0, .int .i64 0, .int .i64 0, .int .i64 0, .int .i64 0, .int .i64 0, .int .i64 0, .slice none 0 0, .bool false, .int .i64 0] 70)).setRow w3.heap.size (lgc X1 sl) = W3 := ⟨_, rfl⟩
  rw [hW3] at kx hbv ⊢
  replace hb := hb.trans (hbv.mono hb.size)
  clear hW3 hbv
  obtain ⟨x, hx⟩ : ∃ x, w3.heap.size = x := ⟨_, rfl⟩
  rw [hx] at kx ⊢
  clear hx
  have lx := kx.lt
  have a1 := kx.cell 1
  have a2 := kx.cell 2
  have a36 := kx.cell 36
  rw [lgc_base, hbs1] at a1
  rw [lgc_text, htt1] at a2
  rw [lgc_whole h81.out, hw1] at a36
  clear kx hw1 hbs1 htt1
  go_wp2_with fail
  refine (Hwg.out W3).mono ?_
  rintro e w4 ⟨rfl, rfl⟩
  go_wp2_with fail
  refine (Hwb.out W3).mono ?_
  rintro e w5 ⟨rfl, rfl⟩
  clear a1 a2 a36 lx
  by_cases hx5 : 500 < text.size
  · have hh2 := hhead_large G Bs tz text rfl (by omega) (by omega) tz_le W3 hx5 (by omega)
    have hE2 : Calls Try.prog 40 #[.int .i64 G, .int .i64 Bs, .string text, .agg (tc (tbN tz)).toArray] W3 fun e w' => e = .returned (.tuple #[.string ⟨#[]⟩, .int .i64 2]) ∧ Below W3.heap.size W3 w' := hh2
    have Hh2 := Lib.hid hE2
    clear hh2 hE2
    go_wp2_with fail
    refine Hh2.out.mono ?_
    rintro e w6 ⟨rfl, hq⟩
    go_wp2_with fail
    go_ret
    exact ⟨rfl, hb.trans (hq.mono hb.size)⟩
  · have hx5' : text.size ≤ 500 := by omega
    have hh2 := hhead_good G Bs tz text rfl (by omega) (by omega) tz_le W3 hx5'
    have hfok := hf_ok G Bs tz text rfl (by omega) (by omega) tz_le hx5'
    have hfl : (hdB G Bs tz text).size ≤ 600 := by
      have h1 : (hdB G Bs tz text).data.toList.length = (hdB G Bs tz text).size := rfl
      rw [hdB_tx, txF_len] at h1
      have h2 : (hf G Bs tz text).2.size ≤ 90 + text.size := by
        show (headB ((G, Bs) :: tz) text).toArray.size ≤ _
        rw [List.size_toArray]
        exact headB_len G Bs tz text rfl (by omega) (by omega) tz_le
      omega
    have hHB := hdB_tx G Bs tz text
    obtain ⟨HB, hHBe⟩ : ∃ HB, hdB G Bs tz text = HB := ⟨_, rfl⟩
    rw [hHBe] at hh2 hfl hHB
    have hE2 : Calls Try.prog 40 #[.int .i64 G, .int .i64 Bs, .string text, .agg (tc (tbN tz)).toArray] W3 fun e w' => e = .returned (.tuple #[.string HB, .int .i64 0]) ∧ Below W3.heap.size W3 w' := hh2
    have Hh2 := Lib.hid hE2
    have HHB := Lib.hid hHB
    have Hfok := Lib.hid hfok
    clear hh2 hE2 hHBe hHB hfok
    go_wp2_with fail
    refine Hh2.out.mono ?_
    rintro e w6 ⟨rfl, hq⟩
    replace hb := hb.trans (hq.mono hb.size)
    clear hq Hh2
    have hchk := rcheck_any text l A n c w.heap.size w6 (Hrd.out.below hb) hb.size (by omega)
    obtain ⟨E, hE⟩ : ∃ E, txE text l = E := ⟨_, rfl⟩
    rw [hE] at hchk
    have Hchk := Lib.hid hchk
    clear hchk
    go_wp2_with fail
    refine Hchk.out.mono ?_
    rintro e w7 ⟨rfl, hq⟩
    replace hb := hb.trans (hq.mono hb.size)
    clear hq Hchk
    by_cases hE0 : E = 0
    · subst hE0
      obtain ⟨-, hlen, htr⟩ := txE_parts hE
      rw [← Hnl.out] at hlen
      have Htr := Lib.hid htr
      clear htr hE hle
      go_upto_region 11 with (fail)
      have kb := Blk.new w7 79 #[.int .i64 0, .int .i64 0, .int .i64 0, .int .i64 0, .int .i64 0, .int .i64 0, .int .i64 0, .int .i64 0]
      have hb8 := hb.alloc hb.size (.cells #[.int .i64 0, .int .i64 0, .int .i64 0, .int .i64 0, .int .i64 0, .int .i64 0, .int .i64 0, .int .i64 0] 79)
      obtain ⟨W8, hW8⟩ : ∃ W8, w7.alloc (.cells #[.int .i64 0, .int .i64 0, .int .i64 0, .int .i64 0, .int .i64 0, .int .i64 0, .int .i64 0, .int .i64 0] 79) = W8 := ⟨_, rfl⟩
      rw [hW8] at kb hb8 ⊢
      clear hW8
      obtain ⟨y, hy⟩ : ∃ y, w7.heap.size = y := ⟨_, rfl⟩
      rw [hy] at kb ⊢
      have hwy : Hid (w.heap.size ≤ y) := Lib.hid (by rw [← hy]; exact hb.size)
      have Kb : Hid (Blk W8 y 79 ((lastOf (addLs (L0 G Bs tz text) (l.take 0)).table).map (Value.int .i64)).toArray) := Lib.hid kb
      have Hb8 := Lib.hid hb8
      have HS0 : Hid (HB.data.toList = flat (hf G Bs tz text :: (l.take 0).map frR)) := Lib.hid (by rw [HHB.out]; simp [flat])
      clear kb hb8 hb hy
      go_loopw [13, 16, 17, 18, 75] (fun sv q1 q2 q3 iv wr => ∃ (k : Nat) (S : ByteArray), k ≤ n ∧ iv = .int .i64 k ∧ sv = .string S ∧ S.size ≤ 600 + 4007 * k ∧ Hid (S.data.toList = flat (hf G Bs tz text :: (l.take k).map frR)) ∧ Hid (okRs (L0 G Bs tz text) text (l.take k)) ∧ Hid (Blk wr y 79 ((lastOf (addLs (L0 G Bs tz text) (l.take k)).table).map (Value.int .i64)).toArray) ∧ Hid (Below w.heap.size w wr)) (fun _ _ _ _ iv _ => n - (intOf iv).toNat)
      case atStart => exact ⟨0, HB, by omega, rfl, rfl, hfl, HS0, Lib.hid trivial, Kb, Hb8⟩
      case round =>
        obtain ⟨k, S, hk, rfl, rfl, hS6, hS, hok, hkb, hbw⟩ := hrel
        have hlk : (l.take k).length = k := by rw [List.length_take]; have := Hnl.out; omega
        have hsame := addLs_same (l.take k) (L0 G Bs tz text)
        have h8k : (addLs (L0 G Bs tz text) (l.take k)).table.length = 8 := by
          have := hkb.out
          have h9 : ∀ (rs : List Rv) (L : Lg), (addLs L rs).table.length = L.table.length := by
            intro rs
            induction rs with
            | nil => intro L; rfl
            | cons r rs ih => intro L; show (addLs _ rs).table.length = _; rw [ih]; simp [addL]
          rw [h9]
          rfl
        by_cases hlt : k < n
        · have hkl : k < l.length := by have := Hnl.out; omega
          obtain ⟨g, o, A1, n1, c1, rfl, hg, d0, d1, d2, hrd⟩ := (Hrd.out.below hbw.out).at_ k hlt
          obtain ⟨ho1, hdo, -⟩ := txr_at l text k hkl Htr.out
          have htk : l.take (k + 1) = l.take k ++ [l[k]] := List.take_succ_eq_append_getElem hkl
          have htx2 : txt text (l.take k) (l.take k).length = txt text l k := by rw [hlk]; exact txt_take l text k k (Nat.le_refl _)
          obtain ⟨p, hp⟩ : ∃ p, p = l[k] := ⟨_, rfl⟩
          rw [← hp] at ho1 hdo htk d0 d1 hrd
          clear hp
          obtain ⟨ra, rb, d⟩ := p
          obtain ⟨p1, p2, p3, p4, p5⟩ := one_parts ho1
          simp only at p1 p2 p3 p4 p5 d0 d1 d2 hrd hdo
          obtain ⟨x, rfl⟩ := Int.eq_ofNat_of_zero_le p1
          have hx8 : x < 8 := by omega
          have hk0 : (0 : Int) ≤ (k : Int) := by omega
          have hkn : (k : Int) < (n : Int) := by omega
          have hgw : g < wr.heap.size := by have := hbw.out.size; omega
          obtain ⟨q, hq⟩ : ∃ q, ((addLs (L0 G Bs tz text) (l.take k)).table.getD x (0, 0)).1 = q := ⟨_, rfl⟩
          have hnx : q < rb → nextE (addLs (L0 G Bs tz text) (l.take k)) (txt text (l.take k) (l.take k).length).size ((x : Int), rb, d) = 0 := by
            intro hqb
            unfold nextE
            rw [if_neg (by rw [ho1]; decide)]
            have e1 : (addLs (L0 G Bs tz text) (l.take k)).revs.length = k := by rw [hsame.2.2.2.2.1]; show ([] ++ l.take k).length = k; rw [List.nil_append]; exact hlk
            have e2 : (addLs (L0 G Bs tz text) (l.take k)).base = (Bs : Int) := hsame.2.1
            rw [e1, e2, if_neg (by simp only [Int.toNat_natCast]; rw [hq]; omega), if_neg (by omega), htx2]
            exact hdo
          have Hnx := Lib.hid hnx
          have Ho1 := Lib.hid ho1
          have Htk := Lib.hid htk
          have Hq := Lib.hid hq
          have Hp5 := Lib.hid p5
          have Hrdk := Lib.hid (hrd.more (show w.heap.size ≤ wr.heap.size from hbw.out.size))
          clear hnx ho1 htk hq p5 hrd hdo htx2 hsame
          go_upto_region 13 with (fail)
          have kq := Blk.new wr 29 #[.int .i64 x, .int .i64 rb, .slice A1 n1 c1]
          have kb := hkb.out.alloc (.cells #[.int .i64 x, .int .i64 rb, .slice A1 n1 c1] 29)
          have lby := hkb.out.lt
          have Hrdk := Lib.hid (Hrdk.out.stepA (.cells #[.int .i64 x, .int .i64 rb, .slice A1 n1 c1] 29))
          have hb := hbw.out.alloc hbw.out.size (.cells #[.int .i64 x, .int .i64 rb, .slice A1 n1 c1] 29)
          obtain ⟨U, hU⟩ : ∃ U, wr.alloc (.cells #[.int .i64 x, .int .i64 rb, .slice A1 n1 c1] 29) = U := ⟨_, rfl⟩
          rw [hU] at kq kb Hrdk hb ⊢
          clear hU d0 d1 d2 hgw hkb hbw
          obtain ⟨z, hz⟩ : ∃ z, wr.heap.size = z := ⟨_, rfl⟩
          rw [hz] at kq lby ⊢
          clear hz
          have hcr := hrev_good (x : Int) rb d A1 n1 c1 U Hrdk.out Ho1.out
          have hFB := frB_tx ((x : Int), rb, d)
          obtain ⟨FB, hFBe⟩ : ∃ FB, frB ((x : Int), rb, d) = FB := ⟨_, rfl⟩
          rw [hFBe] at hcr hFB
          have hFs : FB.size ≤ 4007 := by
            have h1 : FB.data.toList.length = FB.size := rfl
            rw [hFB, txF_len] at h1
            have := (frR_ok Ho1.out).2.2
            omega
          have HFB := Lib.hid hFB
          have Hcr := Lib.hid hcr
          clear hcr hFB hFBe
          have c0 := kq.cell 0
          have c1' := kq.cell 1
          have c2 := kq.cell 2
          have lq := kq.lt
          go_wp2_with fail
          refine Hcr.out.mono ?_
          rintro e v1 ⟨rfl, hq1⟩
          replace kq := kq.below hq1 lq
          replace kb := kb.below hq1 kb.lt
          replace hb := hb.trans (hq1.mono hb.size)
          clear c0 c1' c2 lq hq1 Hcr Hrdk
          have c0 := kq.cell 0
          have c1' := kq.cell 1
          have lq := kq.lt
          have lb := kb.lt
          have b0 := kb.cell x
          have hlx : x < (lastOf (addLs (L0 G Bs tz text) (l.take k)).table).length := by simp [lastOf, h8k]; omega
          have hbx : (((lastOf (addLs (L0 G Bs tz text) (l.take k)).table).map (Value.int .i64)).toArray)[x]? = some (.int .i64 q) := by
            rw [List.getElem?_toArray, List.getElem?_map, List.getElem?_eq_getElem hlx, lastOf_at _ _ (by rw [h8k]; omega), Hq.out]
            rfl
          rw [hbx] at b0
          have hx0 : (0 : Int) ≤ (x : Int) := by omega
          have hx8' : (x : Int) < 8 := by omega
          go_upto_region 16 with (fail)
          by_cases hqb : rb ≤ q
          · go_quiet (fail)
            go_wp2_with fail
            go_ret
            exact ⟨rfl, below_drewN_ hb _⟩
          · have hqb' : q < rb := by omega
            go_quiet (fail)
            clear c0 c1' b0
            replace kq := kq.drewN nq
            replace kb := kb.drewN nq
            replace hb := below_drewN_ hb nq
            obtain ⟨wn, hU_⟩ : ∃ U_, v1.drewN nq = U_ := ⟨_, rfl⟩
            rw [hU_] at kq kb hb ⊢
            clear hU_
            have c0 := kq.cell 0
            have c1' := kq.cell 1
            have b0 := kb.cell x
            rw [hbx] at b0
            have f0 := kb.frozen x
            have lq := kq.lt
            have lb := kb.lt
            have hsz : (9223372036854775807 < S.size + FB.size) = False := by simp; omega
            go_wp2_with fail
            go_roundw
            case rel =>
              have kb2 := kb.set_ x (.int .i64 rb)
              have hcs : (((lastOf (addLs (L0 G Bs tz text) (l.take k)).table).map (Value.int .i64)).toArray).setIfInBounds x (.int .i64 rb) = ((lastOf (addLs (L0 G Bs tz text) (l.take (k + 1))).table).map (Value.int .i64)).toArray := by
                rw [Htk.out, addLs_snoc]
                simp only [addL, Int.toNat_natCast]
                rw [lastOf_set, List.map_set, List.setIfInBounds_toArray]
              rw [hcs] at kb2
              refine ⟨k + 1, S ++ FB, by omega, by go_num, rfl, by simp; omega, Lib.hid ?_, Lib.hid ?_, Lib.hid kb2, Lib.hid (hb.setCell (p := ⟨y, x, none⟩) hwy.out _)⟩
              · rw [bs_append, hS.out, HFB.out, Htk.out, List.map_append]
                simp [flat, flat_app]
              · rw [Htk.out]
                exact okRs_snoc _ _ _ _ hok.out Ho1.out (Hnx.out hqb')
            case measure => simp [intOf]; omega
        · obtain rfl : k = n := by omega
          have htl : l.take k = l := List.take_of_length_le (by have := Hnl.out; omega)
          rw [htl] at hS hok hsame
          have hone : ∀ r ∈ l, oneE r = 0 := by
            intro r hr
            obtain ⟨i, hi, rfl⟩ := List.getElem_of_mem hr
            exact (txr_at l text i hi Htr.out).1
          obtain ⟨e1, e2⟩ := hot_back G Bs tz text l rfl (by omega) (by omega) tz_le hx5' hok.out
          have hflat : (S ++ D).data.toList = flat (hf G Bs tz text :: (l.map frR ++ [doneF])) ++ [] := by
            rw [bs_append, hS.out, ← HD.out, doneT_tx]
            simp [flat, flat_app, doneF]
          have hszS : (S ++ D).size ≤ 140737488351232 := by simp; omega
          have hr2 := fun w => hread_fs (S ++ D) (hf G Bs tz text :: (l.map frR ++ [doneF])) [] (by
            intro p hp
            rcases List.mem_cons.1 hp with rfl | hp
            · exact Hfok.out
            · rcases List.mem_append.1 hp with hp | hp
              · exact frs_ok l hone p hp
              · rw [List.mem_singleton] at hp; rw [hp]; exact doneF_ok) hflat gf_nil (by simp only [List.length_cons, List.length_append, List.length_map, List.length_nil]; have := Hnl.out; omega) hszS w
          have hgood : ({ addLs (L0 G Bs tz text) l with whole := true, good := (addLs (L0 G Bs tz text) l).good + 7 } : Lg).good = ((S ++ D).size : Int) := by
            have h1 : (S ++ D).data.toList.length = (S ++ D).size := rfl
            rw [← h1, bs_append, hS.out, ← HD.out, doneT_tx]
            show (addLs (L0 G Bs tz text) l).good + 7 = _
            rw [hsame.2.2.2.2.2.2]
            have h2 : (hf G Bs tz text).2.size = (headB ((G, Bs) :: tz) text).length := by show (headB ((G, Bs) :: tz) text).toArray.size = _; rw [List.size_toArray]
            have h3 : (txF (3, ⟨#[]⟩)).length = 7 := txF_len _
            simp only [flat, List.length_append, txF_len, h2, h3, L0]
            omega
          rw [e1, e2] at hr2
          have hgn : ({ addLs (L0 G Bs tz text) l with whole := true, good := (addLs (L0 G Bs tz text) l).good + 7 } : Lg).gen = (G : Int) := hsame.1
          have hbs : ({ addLs (L0 G Bs tz text) l with whole := true, good := (addLs (L0 G Bs tz text) l).good + 7 } : Lg).base = (Bs : Int) := hsame.2.1
          have htt : ({ addLs (L0 G Bs tz text) l with whole := true, good := (addLs (L0 G Bs tz text) l).good + 7 } : Lg).text = text := hsame.2.2.1
          have hrv : ({ addLs (L0 G Bs tz text) l with whole := true, good := (addLs (L0 G Bs tz text) l).good + 7 } : Lg).revs = l := by
            show (addLs (L0 G Bs tz text) l).revs = l
            rw [hsame.2.2.2.2.1]; exact List.nil_append l
          have hwh : ({ addLs (L0 G Bs tz text) l with whole := true, good := (addLs (L0 G Bs tz text) l).good + 7 } : Lg).whole = true := rfl
          have h8X : Lg8 ({ addLs (L0 G Bs tz text) l with whole := true, good := (addLs (L0 G Bs tz text) l).good + 7 } : Lg) := by
            have := hotL8 (hf G Bs tz text :: (l.map frR ++ [doneF]))
            rw [e2] at this
            exact this
          obtain ⟨X, hX⟩ : ∃ X, ({ addLs (L0 G Bs tz text) l with whole := true, good := (addLs (L0 G Bs tz text) l).good + 7 } : Lg) = X := ⟨_, rfl⟩
          rw [hX] at hr2 hgood hgn hbs htt hrv hwh h8X
          have Hr2 := Lib.hid hr2
          have hcat2 : (9223372036854775807 < S.size + D.size) = False := by simp; omega
          have hb := hbw.out
          clear hr2 e1 e2 hX hflat hszS hone hkb hbw hsame h8k hlk htl
          go_wp2_with fail
          refine (Hdn.out wr).mono ?_
          rintro e u1 ⟨rfl, hq⟩
          replace hb := hb.trans (hq.mono hb.size)
          clear hq
          go_wp2_with fail
          refine (Hr2.out u1).mono ?_
          rintro e u2 ⟨sl2, ss2, rfl, hv, hq⟩
          replace hb := hb.trans (hq.mono hb.size)
          have hvr := OwnV.rd hv
          rw [hrv] at hvr
          clear hq hv
          go_upto_region 23 with (first | (refine wpList_store_blk rfl _ (.tmp 19) (.tmp 108) rfl u2.heap.size (lgc X sl2) rfl rfl _ _ (Blk.new u2 _ _) (by rw [lgc_size h8X]; exact log_info) (by rw [lgc_size h8X]; rfl) lgc_ones ?_))
          have kx := (Blk.new u2 70 #[.int .i64 0, .int .i64 0, .string ⟨#[]⟩, .int .i64 0, .int .i64 0, .int .i64 0, .int .i64 0, .int .i64 0, .int .i64 0, .int .i64 0, .int .i64 0, .int .i64 0, .int .i64 0, .int .i64 0, .int .i64 0, .int .i64 0, .int .i64 0, .int .i64 0, .int .i64 0, .int .i64 0, .int .i64 0, .int .i64 0, .int .i64 0, .int .i64 0, .int .i64 0, .int .i64 0, .int .i64 0, .int .i64 0, .int .i64 0, .int .i64 0, .int .i64 0, .int .i64 0, .int .i64 0, .int .i64 0, .int .i64 0, .slice none 0 0, .bool false, .int .i64 0]).row (lgc X sl2)
          have hbv := below_setRow ((Below.refl u2.heap.size u2).alloc (Nat.le_refl _) (.cells #[.int .i64 0, .int .i64 0, .string ⟨#[]⟩, .int .i64 0, .int .i64 0, .int .i64 0, .int .i64 0, .int .i64 0, .int .i64 0, .int .i64 0, .int .i64 0, .int .i64 0, .int .i64 0, .int .i64 0, .int .i64 0, .int .i64 0, .int .i64 0, .int .i64 0, .int .i64 0, .int .i64 0, .int .i64 0, .int .i64 0, .int .i64 0, .int .i64 0, .int .i64 0, .int .i64 0, .int .i64 0, .int .i64 0, .int .i64 0, .int .i64 0, .int .i64 0, .int .i64 0, .int .i64 0, .int .i64 0, .int .i64 0, .slice none 0 0, .bool false, .int .i64 0] 70)) u2.heap.size (lgc X sl2) (Nat.le_refl _)
          obtain ⟨W9, hW9⟩ : ∃ W9, (u2.alloc (.cells #[.int .i64 0, .int .i64 0, .string ⟨#[]⟩, .int .i64 0, .int .i64 0, .int .i64 0, .int .i64 0, .int .i64 0, .int .i64 0, .int .i64 0, .int .i64 0, .int .i64 0, .int .i64 0, .int .i64 0, .int .i64 0, .int .i64 0, .int .i64 0, .int .i64 0, .int .i64 0, .int .i64 0, .int .i64 0, .int .i64 0, .int .i64 0, .int .i64 0, .int .i64 0, .int .i64 0, .int .i64 0, .int .i64 0, .int .i64 0, .int .i64 0, .int .i64 0, .int .i64 0, .int .i64 0, .int .i64 0, .int .i64 0, .slice none 0 0, .bool false, .int .i64 0] 70)).setRow u2.heap.size (lgc X sl2) = W9 := ⟨_, rfl⟩
          rw [hW9] at kx hbv ⊢
          replace hb := hb.trans (hbv.mono hb.size)
          replace hvr := hvr.step hbv
          clear hW9 hbv
          obtain ⟨z, hz⟩ : ∃ z, u2.heap.size = z := ⟨_, rfl⟩
          rw [hz] at kx ⊢
          clear hz
          have lx := kx.lt
          have hsm := samerevs_true l sl2.1 A sl2.2.1 k sl2.2.2 c W9 hvr ((Hrd.out.below hb).more hb.size)
          have Hsm := Lib.hid hsm
          clear hsm hvr
          have a0 := kx.cell 0
          have a1 := kx.cell 1
          have a2 := kx.cell 2
          have a35 := kx.cell 35
          rw [lgc_gen, hgn] at a0
          rw [lgc_base, hbs] at a1
          rw [lgc_text, htt] at a2
          rw [lgc_revs h8X] at a35
          go_wp2_with fail
          refine Hsm.out.mono ?_
          rintro e u3 ⟨rfl, hq⟩
          replace hb := hb.trans (hq.mono hb.size)
          replace kx := kx.below hq lx
          clear hq a0 a1 a2 a35 lx Hsm
          have lx := kx.lt
          have a36 := kx.cell 36
          have a37 := kx.cell 37
          rw [lgc_whole h8X, hwh] at a36
          rw [lgc_good h8X, hgood] at a37
          clear hgn hbs htt hrv hwh hgood
          go_wp2_with fail
          go_ret
          exact ⟨rfl, hb⟩
    · have hEn : (E != 0) = true := by simpa using hE0
      go_wp2_with fail
      go_ret
      exact ⟨rfl, hb⟩
end Go.Proofs.Ytfncpcmaplhojaa
