/- Contracts of scrivref.SameRev and SameRevs, where both are the same. Contract of scrivref.SameLog, where both are the same. Slices of parts of no great bulk, opened. Histories, opened. One revision of no great bulk, opened. -/
import Derived.Test.YtfncpcmaplhojaaMHotMore6
import Derived.Test.YtfncpcmaplhojaaMHotMore10
import Derived.Test.YtfncpcmaplhojaaMHotMore22
import Derived.Test.YtfncpcmaplhojaaMHotMore18
import Derived.OpenShut
namespace Go.Proofs.Ytfncpcmaplhojaa
open Go.ChangeShapes Go.WideShapes Go.RowKit
set_option linter.unusedVariables false
set_option linter.unusedSimpArgs false
set_option maxRecDepth 100000
set_option maxHeartbeats 4000000

theorem samerev_true (a b : Int) (d : List Pt) (A A' : Option Addr) (n n' c c' : Nat) (w : World) (h : RdP w w.heap.size A n c d) (h' : RdP w w.heap.size A' n' c' d) :
    Calls Try.prog 27 #[.agg #[.int .i64 a, .int .i64 b, .slice A n c], .agg #[.int .i64 a, .int .i64 b, .slice A' n' c']] w fun e w' => e = .returned (.bool true) ∧ Below w.heap.size w w' := by
  have hb1 := (Below.refl w.heap.size w).alloc (Nat.le_refl _) (.cells #[.int .i64 a, .int .i64 b, .slice A n c] 29)
  have hb0 := hb1.alloc hb1.size (.cells #[.int .i64 a, .int .i64 b, .slice A' n' c'] 29)
  have hc := same_true d d A A' n n' c c' _ _ _ ((h.stepA (.cells #[.int .i64 a, .int .i64 b, .slice A n c] 29)).stepA (.cells #[.int .i64 a, .int .i64 b, .slice A' n' c'] 29)) ((h'.stepA (.cells #[.int .i64 a, .int .i64 b, .slice A n c] 29)).stepA (.cells #[.int .i64 a, .int .i64 b, .slice A' n' c'] 29)) rfl
  have Hc := Lib.hid hc
  clear hc h h' hb1
  go_enter Try.func27, Try.ntmps27
  go_wp2_with fail
  refine Hc.out.mono ?_
  rintro e w1 ⟨rfl, hb⟩
  have hw := hb0.trans (hb.mono hb0.size)
  go_wp2_with fail
  go_ret
  exact ⟨rfl, hw⟩
theorem eqrevs_true (l : List Rv) (A A' : Option Addr) (n n' c c' : Nat) (w : World) (h : RdR w w.heap.size A n c l) (h' : RdR w w.heap.size A' n' c' l) :
    Calls Try.prog 77 #[.slice A n c, .slice A' n' c', .func (.func 27) #[] #[]] w fun e w' => e = .returned (.bool true) ∧ Below w.heap.size w w' := by
  obtain rfl : n' = n := by rw [h'.1, h.1]
  have hle := h.le
  have Hn := Lib.hid h.1
  have H := Lib.hid h
  have H' := Lib.hid h'
  clear h h'
  go_enter Try.func77, Try.ntmps77
  go_wp2_with fail
  go_loopw [7, 8, 9, 17] (fun x y z i wr => ∃ (k : Nat), k ≤ n' ∧ i = .int .i64 k ∧ Hid (Below w.heap.size w wr)) (fun _ _ _ i _ => n' - (intOf i).toNat)
  case atStart => exact ⟨0, by omega, rfl, Lib.hid (Below.refl _ _)⟩
  case round =>
    obtain ⟨k, hk, rfl, hbw⟩ := hrel
    by_cases hlt : k < n'
    · have hkl : k < l.length := by have := Hn.out; omega
      obtain ⟨g, o, A1, n1, c1, rfl, hg, d0, d1, d2, hrd⟩ := (H.out.below hbw.out).at_ k hlt
      obtain ⟨g', o', A2, n2, c2, rfl, hg', d0', d1', d2', hrd'⟩ := (H'.out.below hbw.out).at_ k hlt
      obtain ⟨p, hp⟩ : ∃ p, p = l[k] := ⟨_, rfl⟩
      rw [← hp] at d0 d1 hrd d0' d1' hrd'
      clear hp
      obtain ⟨ra, rb, d⟩ := p
      simp only at d0 d1 d2 hrd d0' d1' d2' hrd'
      have hk0 : (0 : Int) ≤ (k : Int) := by omega
      have hkn : (k : Int) < (n' : Int) := by omega
      have hws := hbw.out.size
      have hgw : g < wr.heap.size := by omega
      have hgw' : g' < wr.heap.size := by omega
      have hb1 := (Below.refl wr.heap.size wr).alloc (Nat.le_refl _) (.cells #[.int .i64 ra, .int .i64 rb, .slice A1 n1 c1] 29)
      have hb0 := hb1.alloc hb1.size (.cells #[.int .i64 ra, .int .i64 rb, .slice A2 n2 c2] 29)
      have hc := samerev_true ra rb d A1 A2 n1 n2 c1 c2 _ (((hrd.more hws).stepA (.cells #[.int .i64 ra, .int .i64 rb, .slice A1 n1 c1] 29)).stepA (.cells #[.int .i64 ra, .int .i64 rb, .slice A2 n2 c2] 29)) (((hrd'.more hws).stepA (.cells #[.int .i64 ra, .int .i64 rb, .slice A1 n1 c1] 29)).stepA (.cells #[.int .i64 ra, .int .i64 rb, .slice A2 n2 c2] 29))
      have Hc := Lib.hid hc
      have Hb0 := Lib.hid hb0
      clear hc hrd hrd' hb1 hb0 hws
      go_wp2_with fail
      refine Hc.out.mono ?_
      rintro e w2 ⟨rfl, hb2⟩
      have hw2 := hbw.out.trans ((Hb0.out.trans (hb2.mono Hb0.out.size)).mono hbw.out.size)
      clear hb2
      go_wp2_with fail
      go_roundw
      case rel => exact ⟨k + 1, by omega, by go_num, Lib.hid hw2⟩
      case measure => simp [intOf]; omega
    · obtain rfl : k = n' := by omega
      go_wp2_with fail
      go_ret
      exact ⟨rfl, hbw.out⟩
theorem samerevs_true (l : List Rv) (A A' : Option Addr) (n n' c c' : Nat) (w : World) (h : RdR w w.heap.size A n c l) (h' : RdR w w.heap.size A' n' c' l) :
    Calls Try.prog 39 #[.slice A n c, .slice A' n' c'] w fun e w' => e = .returned (.bool true) ∧ Below w.heap.size w w' := by
  have hc := eqrevs_true l A A' n n' c c' w h h'
  have Hc := Lib.hid hc
  clear hc h h'
  go_enter Try.func39, Try.ntmps39
  go_wp2_with fail
  refine Hc.out.mono ?_
  rintro e w1 ⟨rfl, hb⟩
  go_wp2_with fail
  go_ret
  exact ⟨rfl, hb⟩
end Go.Proofs.Ytfncpcmaplhojaa
namespace Go.Proofs.Ytfncpcmaplhojaa
open Go.ChangeShapes Go.WideShapes Go.RowKit
set_option linter.unusedVariables false
set_option linter.unusedSimpArgs false
set_option maxRecDepth 100000
set_option maxHeartbeats 4000000

theorem run_eq_tab (d : Nat) (xs ys : Array Value) (w : World) : (Op.equalIn (d + 1) 68 (.agg xs) (.agg ys)).run Try.prog w = (Op.eqItems d 67 2 xs ys [0, 1, 2, 3, 4, 5, 6, 7]).run Try.prog w := by
  have hi : (Try.prog.info? 67).isSome = true := by kernel_rfl
  obtain ⟨i, hi⟩ := Option.isSome_iff_exists.1 hi
  have hc : Try.prog.cellsOf 67 = 2 := by kernel_rfl
  rw [run_equalIn_array w d xs ys Try.underlying68 hi, hc]
  rfl
section
attribute [local go_sem] run_eq_tab Op.eqItems
theorem eqtab (t : Tb) (h : t.length = 8) (w : World) : (binOp .eql 68 (.agg (tc t).toArray) (.agg (tc t).toArray)).run Try.prog w = .ok (.bool true) w := by
  match t, h with
  | [p0, p1, p2, p3, p4, p5, p6, p7], _ =>
    have e : Op.maxDepth = 9999 + 1 := rfl
    simp only [binOp, Op.equal, e, tc, List.flatMap_cons, List.flatMap_nil, List.cons_append, List.nil_append]
    rw [Sem.run_bind, run_eq_tab]
    simp [go_sem]
end
theorem log_table_range {w : World} {g : Nat} {l : Lg} {s : Sl} (h : Blk w g 70 (lgc l s)) (h8 : Lg8 l) : w.rangeAt g 19 (tc l.table) := h.range fun j v hj => by
  have hjl : j < 16 := by have := (List.getElem?_eq_some_iff.1 hj).1; rw [tc_len, h8.2] at this; exact this
  rw [lgc_at, lgl_table h8 j hjl]; exact hj
theorem wpList_load_midW {ops : Array Oper} {rest : List Oper} {op : Oper} {a : Act} {w : World} {Q : Exit → Act → World → Prop} (hgd : Region.wanted op (yielded ops a.tmps) = true) (ty : TypeId) (x : Operand) (ho : op.op = .load ty x)
    (b o : Nat) (hx : a.eval x = .pointer (some ⟨b, o, none⟩)) (cs : List Value) (d : TypeDesc) (hc : w.rangeAt b o cs)
    (hu : Try.prog.underlying ty = some d) (hd : d.isRow = true) (hi : (Try.prog.info? ty).map (·.size) = some cs.length)
    (h : wpList Try.prog ops Q rest (a.put op.dst (.agg cs.toArray)) w) : wpList Try.prog ops Q (op :: rest) a w :=
  BigFrame.wpList_want hgd fun _ hK => wp_load_mid ty x ho b o hx cs d hc hu hd hi (hK _ _ h)
theorem wpList_eqlW {ops : Array Oper} {rest : List Oper} {o : Oper} {a : Act} {w : World} {Q : Exit → Act → World → Prop} (hgd : Region.wanted o (yielded ops a.tmps) = true) (ty ty' : TypeId) (x y : Operand) (ho : o.op = .binOp .eql ty x y ty')
    (xs ys : Array Value) (r : Value) (hx : a.eval x = .agg xs) (hy : a.eval y = .agg ys) (hm : Try.prog.eqGuardType Try.prog.depth ty = false) (hr : (binOp .eql ty (.agg xs) (.agg ys)).run Try.prog w = .ok r w)
    (h : wpList Try.prog ops Q rest (a.put o.dst r) w) : wpList Try.prog ops Q (o :: rest) a w :=
  BigFrame.wpList_want hgd fun _ hK => by
    unfold Oper.wp execOp
    simp only [ho, hx, hy, Sem.run_bind, Sem.run_pure, run_eqGuard_agg _ _ _ _ _ _ _ hm, Result.andThen_ok, hr]
    exact hK _ _ h
theorem samelog_true (l : Lg) (s s' : Sl) (w : World) (h8 : Lg8 l) (h : RdR w w.heap.size s.1 s.2.1 s.2.2 l.revs) (h' : RdR w w.heap.size s'.1 s'.2.1 s'.2.2 l.revs) :
    Calls Try.prog 38 #[.agg (lgc l s), .agg (lgc l s')] w fun e w' => e = .returned (.bool true) ∧ Below w.heap.size w w' := by
  have hb1 := (Below.refl w.heap.size w).alloc (Nat.le_refl _) (.cells (lgc l s) 70)
  have hb0 := hb1.alloc hb1.size (.cells (lgc l s') 70)
  have k1 := (Blk.new w 70 (lgc l s)).alloc (.cells (lgc l s') 70)
  have k2 := Blk.new (w.alloc (.cells (lgc l s) 70)) 70 (lgc l s')
  have hc := samerevs_true l.revs s.1 s'.1 s.2.1 s'.2.1 s.2.2 s'.2.2 _ ((h.stepA (.cells (lgc l s) 70)).stepA (.cells (lgc l s') 70)) ((h'.stepA (.cells (lgc l s) 70)).stepA (.cells (lgc l s') 70))
  have Hc := Lib.hid hc
  clear hc h h' hb1
  go_enter Try.func38, Try.ntmps38
  go_upto_region 1 with (fail)
  rw [World.size_alloc] at k2
  obtain ⟨W, hW⟩ : ∃ W, (w.alloc (.cells (lgc l s) 70)).alloc (.cells (lgc l s') 70) = W := ⟨_, rfl⟩
  rw [hW] at hb0 k1 k2 Hc ⊢
  clear hW
  obtain ⟨g, hg⟩ : ∃ g, w.heap.size = g := ⟨_, rfl⟩
  rw [hg] at k1 k2 ⊢
  have l1 := k1.lt
  have l2 := k2.lt
  have a0 := k1.cell 0
  have a1 := k1.cell 1
  have a2 := k1.cell 2
  have a35 := k1.cell 35
  have a36 := k1.cell 36
  have a37 := k1.cell 37
  have b0 := k2.cell 0
  have b1 := k2.cell 1
  have b2 := k2.cell 2
  have b35 := k2.cell 35
  have b36 := k2.cell 36
  have b37 := k2.cell 37
  rw [lgc_gen] at a0 b0
  rw [lgc_base] at a1 b1
  rw [lgc_text] at a2 b2
  rw [lgc_revs h8] at a35 b35
  rw [lgc_whole h8] at a36 b36
  rw [lgc_good h8] at a37 b37
  have r1 := Lib.hid (log_first_range k1 h8)
  have r2 := Lib.hid (log_first_range k2 h8)
  have t1 := Lib.hid (log_table_range k1 h8)
  have t2 := Lib.hid (log_table_range k2 h8)
  have q1 := Lib.hid (eqtab l.first h8.1 W)
  have q2 := Lib.hid (eqtab l.table h8.2 W)
  have H1 := Lib.hid h8.1
  have H2 := Lib.hid h8.2
  have Hb := Lib.hid hb0
  clear h8 k1 k2 hb0
  obtain ⟨gen, hgen⟩ : ∃ x, l.gen = x := ⟨_, rfl⟩
  obtain ⟨base, hbase⟩ : ∃ x, l.base = x := ⟨_, rfl⟩
  obtain ⟨text, htext⟩ : ∃ x, l.text = x := ⟨_, rfl⟩
  obtain ⟨whole, hwhole⟩ : ∃ x, l.whole = x := ⟨_, rfl⟩
  obtain ⟨good, hgood⟩ : ∃ x, l.good = x := ⟨_, rfl⟩
  rw [hgen] at a0 b0
  rw [hbase] at a1 b1
  rw [htext] at a2 b2
  rw [hwhole] at a36 b36
  rw [hgood] at a37 b37
  clear hgen hbase htext hwhole hgood
  go_wp2_with (first | (refine wpList_load_midW (by simp [Region.wanted, yielded, Act.put]) _ (.tmp 25) rfl g 3 rfl (tc l.first) _ r1.out Try.underlying68 rfl (by rw [tc_len, H1.out]; exact tabS_info) ?_) | (refine wpList_load_midW (by simp [Region.wanted, yielded, Act.put]) _ (.tmp 27) rfl (g + 1) 3 rfl (tc l.first) _ r2.out Try.underlying68 rfl (by rw [tc_len, H1.out]; exact tabS_info) ?_) | (refine wpList_load_midW (by simp [Region.wanted, yielded, Act.put]) _ (.tmp 32) rfl g 19 rfl (tc l.table) _ t1.out Try.underlying68 rfl (by rw [tc_len, H2.out]; exact tabS_info) ?_) | (refine wpList_load_midW (by simp [Region.wanted, yielded, Act.put]) _ (.tmp 34) rfl (g + 1) 19 rfl (tc l.table) _ t2.out Try.underlying68 rfl (by rw [tc_len, H2.out]; exact tabS_info) ?_) | (refine wpList_eqlW (by simp [Region.wanted, yielded, Act.put]) _ _ (.tmp 26) (.tmp 28) rfl _ _ _ rfl rfl (by kernel_rfl) q1.out ?_) | (refine wpList_eqlW (by simp [Region.wanted, yielded, Act.put]) _ _ (.tmp 33) (.tmp 35) rfl _ _ _ rfl rfl (by kernel_rfl) q2.out ?_))
  refine Hc.out.mono ?_
  rintro e w1 ⟨rfl, hb⟩
  have hw := Hb.out.trans (hb.mono Hb.out.size)
  have e36 : w1.cell? ⟨g, 36, none⟩ = some (.bool whole) := (hb.cell l1).trans a36
  have f36 : w1.cell? ⟨g + 1, 36, none⟩ = some (.bool whole) := (hb.cell l2).trans b36
  have e37 : w1.cell? ⟨g, 37, none⟩ = some (.int .i64 good) := (hb.cell l1).trans a37
  have f37 : w1.cell? ⟨g + 1, 37, none⟩ = some (.int .i64 good) := (hb.cell l2).trans b37
  have m1 : g < w1.heap.size := Nat.lt_of_lt_of_le l1 hb.size
  have m2 : g + 1 < w1.heap.size := Nat.lt_of_lt_of_le l2 hb.size
  clear hb
  go_wp2_with fail
  go_ret
  exact ⟨rfl, hw⟩
end Go.Proofs.Ytfncpcmaplhojaa
namespace Go.Proofs.Ytfncpcmaplhojaa
open Go.ChangeShapes Go.WideShapes Go.RowKit Go.Joins Go.Deep
set_option linter.unusedVariables false
set_option linter.unusedSimpArgs false
set_option maxRecDepth 100000

/-- a list of parts as it came in, of no great bulk -/
def IsPartsU (w : World) (v : Value) (l : List Pt) : Prop := ∃ A n c, v = .slice A n c ∧ RdP w w.heap.size A n c l ∧ (n : Int) ≤ 1048576
section
variable {H : Type} {enc : TypeId × Value → H} {w : World} {base : Nat} {spare : Nat → Bool} {held : Bool}
theorem bulk_mem_ {d : DataW H} : ∀ {l : List (DataW H)}, d ∈ l → Rows.uptoBulk d ≤ Rows.uptoBulkAll l := fun h => bulk_mem h
theorem open_parts_upto {r : Reach} {b0 : Nat} {v : Value} {d : DataW H} {p : List MemPlace} (hv : Value.okWide Try.prog w r b0 27 v) (h0 : DataW.Trod enc Try.prog w base spare held 27 v d p) (_ : ∀ x ∈ p, x.block < w.heap.size)
    (hb : Rows.uptoBulk d ≤ 1048576) : ∃ x, IsPartsU w v x := by
  obtain ⟨A0, n0, c0, rfl⟩ := okWide_slice Try.underlying27 hv
  obtain ⟨fuel, h⟩ := h0
  rcases open_slice_fields Try.underlying27 Try.underlying45 (by kernel_rfl) (by kernel_rfl) h with ⟨hc, _⟩ | ⟨a, len, cap, m, D, Pl, hc, _, h1, h2, h3, hx, h4⟩
  · simp only [Value.cells, List.cons.injEq, and_true] at hc
    exact ⟨[], _, _, _, by simpa using hc, ⟨rfl, Rd.nil _ _ _, by simp⟩, by decide⟩
  · have hl : len ≤ m := by rw [h3]; split <;> omega
    have hd : d = .slice ((List.range len).map D) ((List.range (m - len)).map fun j => D (len + j)) := by injection hx
    subst hd
    simp only [Rows.uptoBulk] at hb
    have hlen : len ≤ 1048576 := by
      have := bulk_length ((List.range len).map D)
      rw [List.length_map, List.length_range] at this
      omega
    have h5 : ∀ i, i < len → ∃ p : Pt, w.cell? (a.add (i * 3)) = some (.int .i64 p.1) ∧ w.cell? (a.add (i * 3 + 1)) = some (.int .i64 p.2.1) ∧ w.cell? (a.add (i * 3 + 2)) = some (.string p.2.2) ∧ p.2.2.size ≤ 140737488351232 := by
      intro i hi
      obtain ⟨ys, n, hD, _, hyl, hf⟩ := h4 i (by omega)
      obtain ⟨v0, y0, c0, e0, t0⟩ := hf 0 _ rfl
      obtain ⟨v1, y1, c1, e1, t1⟩ := hf 1 _ rfl
      obtain ⟨v2, y2, c2, e2, t2⟩ := hf 2 _ rfl
      obtain ⟨k0, z0, rfl, _⟩ := DataW.trod_int Try.underlying3 t0
      obtain ⟨k1, z1, rfl, _⟩ := DataW.trod_int Try.underlying3 t1
      obtain ⟨s, z2, rfl, _⟩ := DataW.trod_string Try.underlying9 t2
      simp only [List.cons.injEq, and_true] at z0 z1 z2
      subst z0 z1 z2
      refine ⟨(k0, k1, s), c0, c1, c2, ?_⟩
      match ys, hyl with
      | [a0, a1, a2], _ =>
        simp only [List.getElem?_cons_zero, List.getElem?_cons_succ, Option.some.injEq] at e0 e1 e2
        subst e0 e1 e2
        have hm := bulk_mem_ (List.mem_map.2 ⟨i, List.mem_range.2 hi, rfl⟩ : D i ∈ (List.range len).map D)
        rw [hD] at hm
        simp only [List.map_cons, List.map_nil, Rows.uptoBulk, Rows.uptoBulkAll, Array.length_toList] at hm
        have : s.size = s.data.size := rfl
        simp only
        omega
    obtain ⟨l, hll, hp⟩ := pick_lt ((0, 0, emp) : Pt) h5
    simp only [Value.cells] at hc
    refine ⟨l, _, len, cap, by simpa using hc, ⟨hll.symm, rd_of (by omega) h1 h2 (by rw [pc_len, hll]) fun j u hj => ?_, fun p hp' => ?_⟩, by omega⟩
    · have hjl : j < l.length * 3 := by
        rcases Nat.lt_or_ge j (pc l).length with hlt | hge
        · rw [pc_len] at hlt; exact hlt
        · rw [List.getElem?_eq_none hge] at hj; cases hj
      obtain ⟨q0, q1, q2⟩ := pc_at l (j / 3) (by omega)
      obtain ⟨b0, b1, b2, _⟩ := hp (j / 3) (by omega)
      have e : j = j / 3 * 3 + j % 3 := by omega
      rcases (show j % 3 = 0 ∨ j % 3 = 1 ∨ j % 3 = 2 by omega) with h | h | h
      · rw [e, h, Nat.add_zero] at hj ⊢; rw [q0] at hj; rw [b0]; exact hj
      · rw [e, h] at hj ⊢; rw [q1] at hj; rw [b1]; exact hj
      · rw [e, h] at hj ⊢; rw [q2] at hj; rw [b2]; exact hj
    · obtain ⟨i, hi, rfl⟩ := List.getElem_of_mem hp'
      exact (hp i hi).2.2.2
end
end Go.Proofs.Ytfncpcmaplhojaa
namespace Go.Proofs.Ytfncpcmaplhojaa
open Go.ChangeShapes Go.WideShapes Go.RowKit Go.Joins Go.Deep
set_option linter.unusedVariables false
set_option linter.unusedSimpArgs false
set_option maxRecDepth 100000

/-- a history as it came in -/
def IsRevs (w : World) (v : Value) (l : List Rv) : Prop := ∃ A n c, v = .slice A n c ∧ RdR w w.heap.size A n c l
section
variable {H : Type} {enc : TypeId × Value → H} {w : World} {base : Nat} {spare : Nat → Bool} {held : Bool}
theorem read_revs {fuel : Nat} {v : Value} {x : DataW H × List MemPlace} (h : DataW.trod enc Try.prog w base spare held fuel 22 [v] = some x) (hb : ∀ n ∈ DataW.weights Try.prog 22 x.1, n ≤ 140737488351232) : ∃ l, IsRevs w v l := by
  rcases open_slice_fields Try.underlying22 Try.underlying29 (by kernel_rfl) (by kernel_rfl) h with ⟨hc, _⟩ | ⟨a, len, cap, m, D, Pl, hc, _, h1, h2, h3, hx, h4⟩
  · simp only [List.cons.injEq, and_true] at hc
    exact ⟨[], _, _, _, hc, RdR.nil _ _⟩
  · simp only [List.cons.injEq, and_true] at hc
    have hl : len ≤ m := by rw [h3]; split <;> omega
    subst hx
    have h5 : ∀ i, i < len → ∃ p : Rv × Sl, w.cell? (a.add (i * 3)) = some (.int .i64 p.1.1) ∧ w.cell? (a.add (i * 3 + 1)) = some (.int .i64 p.1.2.1) ∧ w.cell? (a.add (i * 3 + 2)) = some (.slice p.2.1 p.2.2.1 p.2.2.2) ∧ RdP w w.heap.size p.2.1 p.2.2.1 p.2.2.2 p.1.2.2 := by
      intro i hi
      obtain ⟨ys, n, hD, _, hyl, hf⟩ := h4 i (by omega)
      obtain ⟨v0, y0, c0, e0, t0⟩ := hf 0 _ rfl
      obtain ⟨v1, y1, c1, e1, t1⟩ := hf 1 _ rfl
      obtain ⟨v2, y2, c2, e2, t2⟩ := hf 2 _ rfl
      obtain ⟨k0, z0, rfl, _⟩ := DataW.trod_int Try.underlying3 t0
      obtain ⟨k1, z1, rfl, _⟩ := DataW.trod_int Try.underlying3 t1
      simp only [List.cons.injEq, and_true] at z0 z1
      subst z0 z1
      match ys, hyl with
      | [a0, a1, a2], _ =>
        simp only [List.getElem?_cons_zero, List.getElem?_cons_succ, Option.some.injEq] at e0 e1 e2
        subst e0 e1 e2
        obtain ⟨d, A2, n2, c2', rfl, hr2⟩ := read_parts t2 (fun q hq => hb q (by
          have hmem : q ∈ DataW.weights Try.prog 29 (D i) := by
            rw [hD]
            simp only [DataW.weights, Try.underlying29, List.map_cons, List.map_nil, DataW.weightsEach, List.nil_append, List.append_nil, List.mem_append]
            exact hq
          simp only [DataW.weights, Try.underlying22, List.mem_cons, List.mem_append]
          exact .inr (.inl (weights_all_mem hmem (List.mem_map.2 ⟨i, List.mem_range.2 hi, rfl⟩)))))
        exact ⟨((k0, k1, d), (A2, n2, c2')), c0, c1, c2, hr2⟩
    obtain ⟨l, hll, hp⟩ := pick_lt (((0, 0, []), (none, 0, 0)) : Rv × Sl) h5
    refine ⟨l.map (·.1), _, len, cap, hc, by rw [List.length_map]; exact hll.symm, l.map (·.2), by simp, rd_of (by omega) h1 h2 (by rw [rc_len _ _ (by simp), List.length_map, hll]) fun j u hj => ?_, fun k hk => ?_⟩
    · have hrl := rc_len (l.map (·.1)) (l.map (·.2)) (by simp)
      have hjl : j < l.length * 3 := by
        rcases Nat.lt_or_ge j (rc (l.map (·.1)) (l.map (·.2))).length with hlt | hge
        · rw [hrl, List.length_map] at hlt; exact hlt
        · rw [List.getElem?_eq_none hge] at hj; cases hj
      obtain ⟨q0, q1, q2⟩ := rc_at (l.map (·.1)) (l.map (·.2)) (by simp) (j / 3) (by rw [List.length_map]; omega)
      obtain ⟨b0, b1, b2, _⟩ := hp (j / 3) (by omega)
      simp only [List.getElem_map] at q0 q1 q2
      have e : j = j / 3 * 3 + j % 3 := by omega
      rcases (show j % 3 = 0 ∨ j % 3 = 1 ∨ j % 3 = 2 by omega) with h | h | h
      · rw [e, h, Nat.add_zero] at hj ⊢; rw [q0] at hj; rw [b0]; exact hj
      · rw [e, h] at hj ⊢; rw [q1] at hj; rw [b1]; exact hj
      · rw [e, h] at hj ⊢; rw [q2] at hj; rw [b2]; exact hj
    · rw [List.length_map] at hk
      have := (hp k hk).2.2.2
      simpa using this
theorem open_revs_said {r : Reach} {b0 : Nat} {v : Value} {d : DataW H} {p : List MemPlace} (hv : Value.okWide Try.prog w r b0 22 v) (h : DataW.Trod enc Try.prog w base spare held 22 v d p) (_ : ∀ x ∈ p, x.block < w.heap.size)
    (hb : ∀ x ∈ DataW.weights Try.prog 22 d, x ≤ 140737488351232) : ∃ x, IsRevs w v x := by
  obtain ⟨A, n, c, rfl⟩ := okWide_slice Try.underlying22 hv
  obtain ⟨fuel, hf⟩ := h
  exact read_revs hf hb
end
end Go.Proofs.Ytfncpcmaplhojaa
namespace Go.Proofs.Ytfncpcmaplhojaa
open Go.ChangeShapes Go.WideShapes Go.RowKit Go.Joins Go.Deep
set_option linter.unusedVariables false
set_option linter.unusedSimpArgs false
set_option maxRecDepth 100000

/-- a revision as it came in -/
def IsRev1 (w : World) (v : Value) (r : Rv) : Prop := ∃ A n c, v = .agg #[.int .i64 r.1, .int .i64 r.2.1, .slice A n c] ∧ RdP w w.heap.size A n c r.2.2
section
variable {H : Type} {enc : TypeId × Value → H} {w : World} {base : Nat} {spare : Nat → Bool} {held : Bool}
theorem read_parts_upto {fuel : Nat} {v : Value} {x : DataW H × List MemPlace} (h : DataW.trod enc Try.prog w base spare held fuel 27 [v] = some x) (hb : Rows.uptoBulk x.1 ≤ 1048576) : ∃ l, IsPartsU w v l := by
  rcases open_slice_fields Try.underlying27 Try.underlying45 (by kernel_rfl) (by kernel_rfl) h with ⟨hc, _⟩ | ⟨a, len, cap, m, D, Pl, hc, _, h1, h2, h3, hx, h4⟩
  · simp only [List.cons.injEq, and_true] at hc
    exact ⟨[], _, _, _, hc, ⟨rfl, Rd.nil _ _ _, by simp⟩, by decide⟩
  · simp only [List.cons.injEq, and_true] at hc
    have hl : len ≤ m := by rw [h3]; split <;> omega
    subst hx
    simp only [Rows.uptoBulk] at hb
    have hlen : len ≤ 1048576 := by
      have := bulk_length ((List.range len).map D)
      rw [List.length_map, List.length_range] at this
      omega
    have h5 : ∀ i, i < len → ∃ p : Pt, w.cell? (a.add (i * 3)) = some (.int .i64 p.1) ∧ w.cell? (a.add (i * 3 + 1)) = some (.int .i64 p.2.1) ∧ w.cell? (a.add (i * 3 + 2)) = some (.string p.2.2) ∧ p.2.2.size ≤ 140737488351232 := by
      intro i hi
      obtain ⟨ys, n, hD, _, hyl, hf⟩ := h4 i (by omega)
      obtain ⟨v0, y0, c0, e0, t0⟩ := hf 0 _ rfl
      obtain ⟨v1, y1, c1, e1, t1⟩ := hf 1 _ rfl
      obtain ⟨v2, y2, c2, e2, t2⟩ := hf 2 _ rfl
      obtain ⟨k0, z0, rfl, _⟩ := DataW.trod_int Try.underlying3 t0
      obtain ⟨k1, z1, rfl, _⟩ := DataW.trod_int Try.underlying3 t1
      obtain ⟨s, z2, rfl, _⟩ := DataW.trod_string Try.underlying9 t2
      simp only [List.cons.injEq, and_true] at z0 z1 z2
      subst z0 z1 z2
      refine ⟨(k0, k1, s), c0, c1, c2, ?_⟩
      match ys, hyl with
      | [a0, a1, a2], _ =>
        simp only [List.getElem?_cons_zero, List.getElem?_cons_succ, Option.some.injEq] at e0 e1 e2
        subst e0 e1 e2
        have hm := bulk_mem_ (List.mem_map.2 ⟨i, List.mem_range.2 hi, rfl⟩ : D i ∈ (List.range len).map D)
        rw [hD] at hm
        simp only [List.map_cons, List.map_nil, Rows.uptoBulk, Rows.uptoBulkAll, Array.length_toList] at hm
        have : s.size = s.data.size := rfl
        simp only
        omega
    obtain ⟨l, hll, hp⟩ := pick_lt ((0, 0, emp) : Pt) h5
    refine ⟨l, _, len, cap, hc, ⟨hll.symm, rd_of (by omega) h1 h2 (by rw [pc_len, hll]) fun j u hj => ?_, fun p hp' => ?_⟩, by omega⟩
    · have hjl : j < l.length * 3 := by
        rcases Nat.lt_or_ge j (pc l).length with hlt | hge
        · rw [pc_len] at hlt; exact hlt
        · rw [List.getElem?_eq_none hge] at hj; cases hj
      obtain ⟨q0, q1, q2⟩ := pc_at l (j / 3) (by omega)
      obtain ⟨b0, b1, b2, _⟩ := hp (j / 3) (by omega)
      have e : j = j / 3 * 3 + j % 3 := by omega
      rcases (show j % 3 = 0 ∨ j % 3 = 1 ∨ j % 3 = 2 by omega) with h | h | h
      · rw [e, h, Nat.add_zero] at hj ⊢; rw [q0] at hj; rw [b0]; exact hj
      · rw [e, h] at hj ⊢; rw [q1] at hj; rw [b1]; exact hj
      · rw [e, h] at hj ⊢; rw [q2] at hj; rw [b2]; exact hj
    · obtain ⟨i, hi, rfl⟩ := List.getElem_of_mem hp'
      exact (hp i hi).2.2.2
theorem open_rev_upto {r : Reach} {b0 : Nat} {v : Value} {d : DataW H} {p : List MemPlace} (hv : Value.okWide Try.prog w r b0 29 v) (h : DataW.Trod enc Try.prog w base spare held 29 v d p) (_ : ∀ x ∈ p, x.block < w.heap.size)
    (hb : Rows.uptoBulk d ≤ 1048576) : ∃ x, IsRev1 w v x := by
  obtain ⟨v0, v1, v2, y0, y1, y2, n, rfl, rfl, rfl, h0, h1, h2⟩ := open_agg3 Try.underlying29 (by kernel_rfl) (by kernel_rfl) hv h
  obtain ⟨a, e0, rfl, _⟩ := DataW.trod_int Try.underlying3 h0
  obtain ⟨b, e1, rfl, _⟩ := DataW.trod_int Try.underlying3 h1
  have hm : Rows.uptoBulk y2.1 ≤ 1048576 := by
    simp only [Rows.uptoBulk, Rows.uptoBulkAll] at hb
    omega
  obtain ⟨l, A, m, c, e2, hr, _⟩ := read_parts_upto h2 hm
  simp only [List.cons.injEq, and_true] at e0 e1
  subst e0 e1 e2
  exact ⟨(a, b, l), A, m, c, rfl, hr⟩
end
end Go.Proofs.Ytfncpcmaplhojaa
