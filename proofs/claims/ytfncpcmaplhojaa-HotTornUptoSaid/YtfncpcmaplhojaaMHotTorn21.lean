/- Contracts of scrivref.SameRev and SameRevs, where both are the same. Contract of scrivref.SameLog, where both are the same. Contract of the laws' helper Within: a number from 0 to n-1. walk of scrivkeep.HotTorn. -/
import Derived.Test.YtfncpcmaplhojaaMHotTorn6
import Derived.Test.YtfncpcmaplhojaaMHotTorn10
import Derived.Test.YtfncpcmaplhojaaMHotTorn20
import Derived.Test.YtfncpcmaplhojaaMHotTorn1
namespace Go.Proofs.Ytfncpcmaplhojaa
open Go.ChangeShapes Go.WideShapes Go.RowKit
set_option linter.unusedVariables false
set_option linter.unusedSimpArgs false
set_option maxRecDepth 100000
set_option maxHeartbeats 4000000

theorem samerev_true (a b : Int) (d : List Pt) (A A' : Option Addr) (n n' c c' : Nat) (w : World) (h : RdP w w.heap.size A n c d) (h' : RdP w w.heap.size A' n' c' d) :
    Calls Try.prog 27 #[.agg #[.int .i64 a, .int .i64 b, .slice A n c], .agg #[.int .i64 a, .int .i64 b, .slice A' n' c']] w fun e w' => e = .returned (.bool true) ∧ Below w.heap.size w w' := by
  have hb1 := (Below.refl w.heap.size w).alloc (Nat.le_refl _) (.cells #[.int .i64 a, .int .i64 b, .slice A n c] 29)
  have hb0 := hb1.alloc hb1.size (.cells #[.int .i64 a, .int .i64 b, .slice A' n' c'] 29)
  have hc := same_true d d A A' n n' c c' _ _ _ ((h.stepA (.cells #[.int .i64 a, .int .i64 b, .slice A n c] 29)).stepA (.cells #[.int .i64 a, .int .i64 b, .slice A' n' c'] 29)) ((h'.stepA (.cells #[.int .i64 a, .int .i64 b, .slice A n c] 29)).stepA (.cells #[.int .i64 a, .int .i64 b, .slice A' n' c'] 29)) rfl
  have Hc := Lib.hid hc
  clear hc h h' hb1
  go_enter Try.func27, Try.ntmps27
  go_wp2_with fail
  refine Hc.out.mono ?_
  rintro e w1 ⟨rfl, hb⟩
  have hw := hb0.trans (hb.mono hb0.size)
  go_wp2_with fail
  go_ret
  exact ⟨rfl, hw⟩
theorem eqrevs_true (l : List Rv) (A A' : Option Addr) (n n' c c' : Nat) (w : World) (h : RdR w w.heap.size A n c l) (h' : RdR w w.heap.size A' n' c' l) :
    Calls Try.prog 77 #[.slice A n c, .slice A' n' c', .func (.func 27) #[] #[]] w fun e w' => e = .returned (.bool true) ∧ Below w.heap.size w w' := by
  obtain rfl : n' = n := by rw [h'.1, h.1]
  have hle := h.le
  have Hn := Lib.hid h.1
  have H := Lib.hid h
  have H' := Lib.hid h'
  clear h h'
  go_enter Try.func77, Try.ntmps77
  go_wp2_with fail
  go_loopw [7, 8, 9, 17] (fun x y z i wr => ∃ (k : Nat), k ≤ n' ∧ i = .int .i64 k ∧ Hid (Below w.heap.size w wr)) (fun _ _ _ i _ => n' - (intOf i).toNat)
  case atStart => exact ⟨0, by omega, rfl, Lib.hid (Below.refl _ _)⟩
  case round =>
    obtain ⟨k, hk, rfl, hbw⟩ := hrel
    by_cases hlt : k < n'
    · have hkl : k < l.length := by have := Hn.out; omega
      obtain ⟨g, o, A1, n1, c1, rfl, hg, d0, d1, d2, hrd⟩ := (H.out.below hbw.out).at_ k hlt
      obtain ⟨g', o', A2, n2, c2, rfl, hg', d0', d1', d2', hrd'⟩ := (H'.out.below hbw.out).at_ k hlt
      obtain ⟨p, hp⟩ : ∃ p, p = l[k] := ⟨_, rfl⟩
      rw [← hp] at d0 d1 hrd d0' d1' hrd'
      clear hp
      obtain ⟨ra, rb, d⟩ := p
      simp only at d0 d1 d2 hrd d0' d1' d2' hrd'
      have hk0 : (0 : Int) ≤ (k : Int) := by omega
      have hkn : (k : Int) < (n' : Int) := by omega
      have hws := hbw.out.size
      have hgw : g < wr.heap.size := by omega
      have hgw' : g' < wr.heap.size := by omega
      have hb1 := (Below.refl wr.heap.size wr).alloc (Nat.le_refl _) (.cells #[.int .i64 ra, .int .i64 rb, .slice A1 n1 c1] 29)
      have hb0 := hb1.alloc hb1.size (.cells #[.int .i64 ra, .int .i64 rb, .slice A2 n2 c2] 29)
      have hc := samerev_true ra rb d A1 A2 n1 n2 c1 c2 _ (((hrd.more hws).stepA (.cells #[.int .i64 ra, .int .i64 rb, .slice A1 n1 c1] 29)).stepA (.cells #[.int .i64 ra, .int .i64 rb, .slice A2 n2 c2] 29)) (((hrd'.more hws).stepA (.cells #[.int .i64 ra, .int .i64 rb, .slice A1 n1 c1] 29)).stepA (.cells #[.int .i64 ra, .int .i64 rb, .slice A2 n2 c2] 29))
      have Hc := Lib.hid hc
      have Hb0 := Lib.hid hb0
      clear hc hrd hrd' hb1 hb0 hws
      go_wp2_with fail
      refine Hc.out.mono ?_
      rintro e w2 ⟨rfl, hb2⟩
      have hw2 := hbw.out.trans ((Hb0.out.trans (hb2.mono Hb0.out.size)).mono hbw.out.size)
      clear hb2
      go_wp2_with fail
      go_roundw
      case rel => exact ⟨k + 1, by omega, by go_num, Lib.hid hw2⟩
      case measure => simp [intOf]; omega
    · obtain rfl : k = n' := by omega
      go_wp2_with fail
      go_ret
      exact ⟨rfl, hbw.out⟩
theorem samerevs_true (l : List Rv) (A A' : Option Addr) (n n' c c' : Nat) (w : World) (h : RdR w w.heap.size A n c l) (h' : RdR w w.heap.size A' n' c' l) :
    Calls Try.prog 39 #[.slice A n c, .slice A' n' c'] w fun e w' => e = .returned (.bool true) ∧ Below w.heap.size w w' := by
  have hc := eqrevs_true l A A' n n' c c' w h h'
  have Hc := Lib.hid hc
  clear hc h h'
  go_enter Try.func39, Try.ntmps39
  go_wp2_with fail
  refine Hc.out.mono ?_
  rintro e w1 ⟨rfl, hb⟩
  go_wp2_with fail
  go_ret
  exact ⟨rfl, hb⟩
end Go.Proofs.Ytfncpcmaplhojaa
namespace Go.Proofs.Ytfncpcmaplhojaa
open Go.ChangeShapes Go.WideShapes Go.RowKit
set_option linter.unusedVariables false
set_option linter.unusedSimpArgs false
set_option maxRecDepth 100000
set_option maxHeartbeats 4000000

theorem run_eq_tab (d : Nat) (xs ys : Array Value) (w : World) : (Op.equalIn (d + 1) 68 (.agg xs) (.agg ys)).run Try.prog w = (Op.eqItems d 67 2 xs ys [0, 1, 2, 3, 4, 5, 6, 7]).run Try.prog w := by
  have hi : (Try.prog.info? 67).isSome = true := by kernel_rfl
  obtain ⟨i, hi⟩ := Option.isSome_iff_exists.1 hi
  have hc : Try.prog.cellsOf 67 = 2 := by kernel_rfl
  rw [run_equalIn_array w d xs ys Try.underlying68 hi, hc]
  rfl
section
attribute [local go_sem] run_eq_tab Op.eqItems
theorem eqtab (t : Tb) (h : t.length = 8) (w : World) : (binOp .eql 68 (.agg (tc t).toArray) (.agg (tc t).toArray)).run Try.prog w = .ok (.bool true) w := by
  match t, h with
  | [p0, p1, p2, p3, p4, p5, p6, p7], _ =>
    have e : Op.maxDepth = 9999 + 1 := rfl
    simp only [binOp, Op.equal, e, tc, List.flatMap_cons, List.flatMap_nil, List.cons_append, List.nil_append]
    rw [Sem.run_bind, run_eq_tab]
    simp [go_sem]
end
theorem log_table_range {w : World} {g : Nat} {l : Lg} {s : Sl} (h : Blk w g 70 (lgc l s)) (h8 : Lg8 l) : w.rangeAt g 19 (tc l.table) := h.range fun j v hj => by
  have hjl : j < 16 := by have := (List.getElem?_eq_some_iff.1 hj).1; rw [tc_len, h8.2] at this; exact this
  rw [lgc_at, lgl_table h8 j hjl]; exact hj
theorem wpList_load_midW {ops : Array Oper} {rest : List Oper} {op : Oper} {a : Act} {w : World} {Q : Exit → Act → World → Prop} (hgd : Region.wanted op (yielded ops a.tmps) = true) (ty : TypeId) (x : Operand) (ho : op.op = .load ty x)
    (b o : Nat) (hx : a.eval x = .pointer (some ⟨b, o, none⟩)) (cs : List Value) (d : TypeDesc) (hc : w.rangeAt b o cs)
    (hu : Try.prog.underlying ty = some d) (hd : d.isRow = true) (hi : (Try.prog.info? ty).map (·.size) = some cs.length)
    (h : wpList Try.prog ops Q rest (a.put op.dst (.agg cs.toArray)) w) : wpList Try.prog ops Q (op :: rest) a w :=
  BigFrame.wpList_want hgd fun _ hK => wp_load_mid ty x ho b o hx cs d hc hu hd hi (hK _ _ h)
theorem wpList_eqlW {ops : Array Oper} {rest : List Oper} {o : Oper} {a : Act} {w : World} {Q : Exit → Act → World → Prop} (hgd : Region.wanted o (yielded ops a.tmps) = true) (ty ty' : TypeId) (x y : Operand) (ho : o.op = .binOp .eql ty x y ty')
    (xs ys : Array Value) (r : Value) (hx : a.eval x = .agg xs) (hy : a.eval y = .agg ys) (hm : Try.prog.eqGuardType Try.prog.depth ty = false) (hr : (binOp .eql ty (.agg xs) (.agg ys)).run Try.prog w = .ok r w)
    (h : wpList Try.prog ops Q rest (a.put o.dst r) w) : wpList Try.prog ops Q (o :: rest) a w :=
  BigFrame.wpList_want hgd fun _ hK => by
    unfold Oper.wp execOp
    simp only [ho, hx, hy, Sem.run_bind, Sem.run_pure, run_eqGuard_agg _ _ _ _ _ _ _ hm, Result.andThen_ok, hr]
    exact hK _ _ h
theorem samelog_true (l : Lg) (s s' : Sl) (w : World) (h8 : Lg8 l) (h : RdR w w.heap.size s.1 s.2.1 s.2.2 l.revs) (h' : RdR w w.heap.size s'.1 s'.2.1 s'.2.2 l.revs) :
    Calls Try.prog 38 #[.agg (lgc l s), .agg (lgc l s')] w fun e w' => e = .returned (.bool true) ∧ Below w.heap.size w w' := by
  have hb1 := (Below.refl w.heap.size w).alloc (Nat.le_refl _) (.cells (lgc l s) 70)
  have hb0 := hb1.alloc hb1.size (.cells (lgc l s') 70)
  have k1 := (Blk.new w 70 (lgc l s)).alloc (.cells (lgc l s') 70)
  have k2 := Blk.new (w.alloc (.cells (lgc l s) 70)) 70 (lgc l s')
  have hc := samerevs_true l.revs s.1 s'.1 s.2.1 s'.2.1 s.2.2 s'.2.2 _ ((h.stepA (.cells (lgc l s) 70)).stepA (.cells (lgc l s') 70)) ((h'.stepA (.cells (lgc l s) 70)).stepA (.cells (lgc l s') 70))
  have Hc := Lib.hid hc
  clear hc h h' hb1
  go_enter Try.func38, Try.ntmps38
  go_upto_region 1 with (fail)
  rw [World.size_alloc] at k2
  obtain ⟨W, hW⟩ : ∃ W, (w.alloc (.cells (lgc l s) 70)).alloc (.cells (lgc l s') 70) = W := ⟨_, rfl⟩
  rw [hW] at hb0 k1 k2 Hc ⊢
  clear hW
  obtain ⟨g, hg⟩ : ∃ g, w.heap.size = g := ⟨_, rfl⟩
  rw [hg] at k1 k2 ⊢
  have l1 := k1.lt
  have l2 := k2.lt
  have a0 := k1.cell 0
  have a1 := k1.cell 1
  have a2 := k1.cell 2
  have a35 := k1.cell 35
  have a36 := k1.cell 36
  have a37 := k1.cell 37
  have b0 := k2.cell 0
  have b1 := k2.cell 1
  have b2 := k2.cell 2
  have b35 := k2.cell 35
  have b36 := k2.cell 36
  have b37 := k2.cell 37
  rw [lgc_gen] at a0 b0
  rw [lgc_base] at a1 b1
  rw [lgc_text] at a2 b2
  rw [lgc_revs h8] at a35 b35
  rw [lgc_whole h8] at a36 b36
  rw [lgc_good h8] at a37 b37
  have r1 := Lib.hid (log_first_range k1 h8)
  have r2 := Lib.hid (log_first_range k2 h8)
  have t1 := Lib.hid (log_table_range k1 h8)
  have t2 := Lib.hid (log_table_range k2 h8)
  have q1 := Lib.hid (eqtab l.first h8.1 W)
  have q2 := Lib.hid (eqtab l.table h8.2 W)
  have H1 := Lib.hid h8.1
  have H2 := Lib.hid h8.2
  have Hb := Lib.hid hb0
  clear h8 k1 k2 hb0
  obtain ⟨gen, hgen⟩ : ∃ x, l.gen = x := ⟨_, rfl⟩
  obtain ⟨base, hbase⟩ : ∃ x, l.base = x := ⟨_, rfl⟩
  obtain ⟨text, htext⟩ : ∃ x, l.text = x := ⟨_, rfl⟩
  obtain ⟨whole, hwhole⟩ : ∃ x, l.whole = x := ⟨_, rfl⟩
  obtain ⟨good, hgood⟩ : ∃ x, l.good = x := ⟨_, rfl⟩
  rw [hgen] at a0 b0
  rw [hbase] at a1 b1
  rw [htext] at a2 b2
  rw [hwhole] at a36 b36
  rw [hgood] at a37 b37
  clear hgen hbase htext hwhole hgood
  go_wp2_with (first | (refine wpList_load_midW (by simp [Region.wanted, yielded, Act.put]) _ (.tmp 25) rfl g 3 rfl (tc l.first) _ r1.out Try.underlying68 rfl (by rw [tc_len, H1.out]; exact tabS_info) ?_) | (refine wpList_load_midW (by simp [Region.wanted, yielded, Act.put]) _ (.tmp 27) rfl (g + 1) 3 rfl (tc l.first) _ r2.out Try.underlying68 rfl (by rw [tc_len, H1.out]; exact tabS_info) ?_) | (refine wpList_load_midW (by simp [Region.wanted, yielded, Act.put]) _ (.tmp 32) rfl g 19 rfl (tc l.table) _ t1.out Try.underlying68 rfl (by rw [tc_len, H2.out]; exact tabS_info) ?_) | (refine wpList_load_midW (by simp [Region.wanted, yielded, Act.put]) _ (.tmp 34) rfl (g + 1) 19 rfl (tc l.table) _ t2.out Try.underlying68 rfl (by rw [tc_len, H2.out]; exact tabS_info) ?_) | (refine wpList_eqlW (by simp [Region.wanted, yielded, Act.put]) _ _ (.tmp 26) (.tmp 28) rfl _ _ _ rfl rfl (by kernel_rfl) q1.out ?_) | (refine wpList_eqlW (by simp [Region.wanted, yielded, Act.put]) _ _ (.tmp 33) (.tmp 35) rfl _ _ _ rfl rfl (by kernel_rfl) q2.out ?_))
  refine Hc.out.mono ?_
  rintro e w1 ⟨rfl, hb⟩
  have hw := Hb.out.trans (hb.mono Hb.out.size)
  have e36 : w1.cell? ⟨g, 36, none⟩ = some (.bool whole) := (hb.cell l1).trans a36
  have f36 : w1.cell? ⟨g + 1, 36, none⟩ = some (.bool whole) := (hb.cell l2).trans b36
  have e37 : w1.cell? ⟨g, 37, none⟩ = some (.int .i64 good) := (hb.cell l1).trans a37
  have f37 : w1.cell? ⟨g + 1, 37, none⟩ = some (.int .i64 good) := (hb.cell l2).trans b37
  have m1 : g < w1.heap.size := Nat.lt_of_lt_of_le l1 hb.size
  have m2 : g + 1 < w1.heap.size := Nat.lt_of_lt_of_le l2 hb.size
  clear hb
  go_wp2_with fail
  go_ret
  exact ⟨rfl, hw⟩
end Go.Proofs.Ytfncpcmaplhojaa
namespace Go.Proofs.Ytfncpcmaplhojaa
open Go.ChangeShapes Go.WideShapes Go.RowKit
set_option linter.unusedVariables false
set_option linter.unusedSimpArgs false
set_option maxRecDepth 100000
set_option maxHeartbeats 4000000

def wi (k : Int) (n : Nat) : Nat := (IntKind.u64.wrap k).toNat % n
theorem wi_lt (k : Int) (n : Nat) (h : 0 < n) : wi k n < n := Nat.mod_lt _ h

theorem within_any (k : Int) (n : Nat) (w : World) (h1 : 0 < n) (h2 : (n : Int) ≤ 1000000000000000000) :
    Calls Try.prog 20 #[.int .i64 k, .int .i64 n] w fun e w' => e = .returned (.int .i64 (wi k n)) ∧ w = w' := by
  go_enter Try.func20, Try.ntmps20
  go_wp2_with fail
  go_ret
  refine ⟨?_, rfl⟩
  have h0 : 0 ≤ IntKind.u64.wrap k := by
    simp only [IntKind.wrap, IntKind.signed, IntKind.bits]
    exact Int.emod_nonneg _ (by decide)
  obtain ⟨x, hx⟩ := Int.eq_ofNat_of_zero_le h0
  have hlt : x % n < n := Nat.mod_lt _ h1
  have e : wrap64 ((IntKind.u64.wrap k).tmod n) = (wi k n : Int) := by
    unfold wi
    rw [hx, Int.toNat_natCast, show (x : Int).tmod n = ((x % n : Nat) : Int) from rfl]
    exact IntWalk.wrap64_in _ ⟨by omega, by omega⟩
  show Ending.returned (.int .i64 (wrap64 ((IntKind.u64.wrap k).tmod n))) = _
  rw [e]
end Go.Proofs.Ytfncpcmaplhojaa
namespace Go.Proofs.Ytfncpcmaplhojaa
open Go.ChangeShapes Go.WideShapes Go.RowKit
set_option linter.unusedVariables false
set_option linter.unusedSimpArgs false
set_option maxRecDepth 100000
set_option maxHeartbeats 4000000

/-- a reading of a log, put into a box -/
theorem hot_cases (fs : List Fm) : (hotE fs = 7 ∧ hotL fs = lg0) ∨ (hotE fs = 3 ∧ hotL fs = lg0) ∨ hotE fs = 0 := by
  cases fs with
  | nil => exact .inl ⟨rfl, rfl⟩
  | cons f fs =>
    simp only [hotE, hotL]
    by_cases hc : f.1 ≠ 1 ∨ hdOk f.2.data.toList = false
    · rw [if_pos hc, if_pos hc]; exact .inr (.inl ⟨rfl, rfl⟩)
    · rw [if_neg hc]; exact .inr (.inr rfl)
theorem readF_8 : ∀ (fs : List Fm) (l : Lg) (t : ByteArray), Lg8 l → Lg8 (readF l t fs)
  | fs, l, t, h => by
    obtain ⟨_, _, _, h4, _, _, h7⟩ := readF_same fs l t
    exact ⟨by rw [h4]; exact h.1, by rw [h7]; exact h.2⟩
theorem hotL_8 (fs : List Fm) : Lg8 (hotL fs) := by
  cases fs with
  | nil => exact lg0_8
  | cons f fs =>
    simp only [hotL]
    split
    · exact lg0_8
    · exact readF_8 _ _ _ (hdL_8 _)
theorem hot_x : (gf [120]).2.2.2 ≠ 0 := by decide
theorem walk_HotTorn (s : ByteArray) (hs : s.size ≤ 1048576) (k : Int) (wk : (Lit.int .i64 k).wf = true) (w : World) :
    Calls Try.prog 9 #[.string s, .int .i64 k] w fun e w' => e = .returned (.bool true) ∧ Below w.heap.size w w' := by
  obtain ⟨fs, rest, hsf, hok, hr⟩ := scan_ex s.data.toList
  have hfl : 7 * fs.length ≤ s.size := by
    have h1 := flat_frames fs
    have h2 : s.data.toList.length = s.size := rfl
    rw [hsf, List.length_append] at h2
    omega
  have hc1 := fun w => hread_none ⟨#[120]⟩ [120] hot_x (by decide) w rfl
  have hc2 := fun w => hread_fs s fs rest hok hsf hr (by omega) (by omega) w
  have h8 := hotL_8 fs
  obtain ⟨L, hL⟩ : ∃ L, hotL fs = L := ⟨_, rfl⟩
  obtain ⟨E, hE⟩ : ∃ E, hotE fs = E := ⟨_, rfl⟩
  have hcs := hot_cases fs
  rw [hE, hL] at hcs
  rw [hL, hE] at hc2
  rw [hL] at h8
  have Hc1 := Lib.hid hc1
  have Hc2 := Lib.hid hc2
  have Hcs := Lib.hid hcs
  have Hsf := Lib.hid hsf
  have Hok := Lib.hid hok
  have Hr := Lib.hid hr
  have HL := Lib.hid hL
  have HE := Lib.hid hE
  clear hc1 hc2 hcs hsf hok hr hL hE
  go_enter Try.func9, Try.ntmps9
  go_wp2_with fail
  refine (Hc1.out w).mono ?_
  rintro e v1 ⟨sl0, ss0, rfl, -, hb⟩
  go_upto_region 4 with (first | (refine wpList_store_blk rfl _ (.tmp 5) (.tmp 14) rfl v1.heap.size _ rfl rfl _ _ (Blk.new v1 _ _) (by rw [lgc_size lg0_8]; exact log_info) (by rw [lgc_size lg0_8]; rfl) lgc_ones ?_))
  replace hb := below_setRow (hb.alloc hb.size (.cells #[.int .i64 0, .int .i64 0, .string ⟨#[]⟩, .int .i64 0, .int .i64 0, .int .i64 0, .int .i64 0, .int .i64 0, .int .i64 0, .int .i64 0, .int .i64 0, .int .i64 0, .int .i64 0, .int .i64 0, .int .i64 0, .int .i64 0, .int .i64 0, .int .i64 0, .int .i64 0, .int .i64 0, .int .i64 0, .int .i64 0, .int .i64 0, .int .i64 0, .int .i64 0, .int .i64 0, .int .i64 0, .int .i64 0, .int .i64 0, .int .i64 0, .int .i64 0, .int .i64 0, .int .i64 0, .int .i64 0, .int .i64 0, .slice none 0 0, .bool false, .int .i64 0] 70)) v1.heap.size (lgc lg0 sl0) hb.size
  obtain ⟨W1, hW1⟩ : ∃ W1, (v1.alloc (.cells #[.int .i64 0, .int .i64 0, .string ⟨#[]⟩, .int .i64 0, .int .i64 0, .int .i64 0, .int .i64 0, .int .i64 0, .int .i64 0, .int .i64 0, .int .i64 0, .int .i64 0, .int .i64 0, .int .i64 0, .int .i64 0, .int .i64 0, .int .i64 0, .int .i64 0, .int .i64 0, .int .i64 0, .int .i64 0, .int .i64 0, .int .i64 0, .int .i64 0, .int .i64 0, .int .i64 0, .int .i64 0, .int .i64 0, .int .i64 0, .int .i64 0, .int .i64 0, .int .i64 0, .int .i64 0, .int .i64 0, .int .i64 0, .slice none 0 0, .bool false, .int .i64 0] 70)).setRow v1.heap.size (lgc lg0 sl0) = W1 := ⟨_, rfl⟩
  rw [hW1] at hb ⊢
  clear hW1 Hc1
  go_wp2_with fail
  refine (Hc2.out W1).mono ?_
  rintro e v2 ⟨sl, ss, rfl, hv, hq⟩
  replace hb := hb.trans (hq.mono hb.size)
  have hsl : sl.2.1 = L.revs.length := by obtain ⟨A9, c9, e9⟩ := hv.form; injection e9
  have Hv := Lib.hid (OwnV.rd hv)
  clear hv hq
  go_upto_region 5 with (first | (refine wpList_store_blk rfl _ (.tmp 7) (.tmp 21) rfl v2.heap.size (lgc L sl) rfl rfl _ _ (Blk.new v2 _ _) (by rw [lgc_size h8]; exact log_info) (by rw [lgc_size h8]; rfl) lgc_ones ?_))
  have ka := (Blk.new v2 70 #[.int .i64 0, .int .i64 0, .string ⟨#[]⟩, .int .i64 0, .int .i64 0, .int .i64 0, .int .i64 0, .int .i64 0, .int .i64 0, .int .i64 0, .int .i64 0, .int .i64 0, .int .i64 0, .int .i64 0, .int .i64 0, .int .i64 0, .int .i64 0, .int .i64 0, .int .i64 0, .int .i64 0, .int .i64 0, .int .i64 0, .int .i64 0, .int .i64 0, .int .i64 0, .int .i64 0, .int .i64 0, .int .i64 0, .int .i64 0, .int .i64 0, .int .i64 0, .int .i64 0, .int .i64 0, .int .i64 0, .int .i64 0, .slice none 0 0, .bool false, .int .i64 0]).row (lgc L sl)
  have hbv := below_setRow ((Below.refl v2.heap.size v2).alloc (Nat.le_refl _) (.cells #[.int .i64 0, .int .i64 0, .string ⟨#[]⟩, .int .i64 0, .int .i64 0, .int .i64 0, .int .i64 0, .int .i64 0, .int .i64 0, .int .i64 0, .int .i64 0, .int .i64 0, .int .i64 0, .int .i64 0, .int .i64 0, .int .i64 0, .int .i64 0, .int .i64 0, .int .i64 0, .int .i64 0, .int .i64 0, .int .i64 0, .int .i64 0, .int .i64 0, .int .i64 0, .int .i64 0, .int .i64 0, .int .i64 0, .int .i64 0, .int .i64 0, .int .i64 0, .int .i64 0, .int .i64 0, .int .i64 0, .int .i64 0, .slice none 0 0, .bool false, .int .i64 0] 70)) v2.heap.size (lgc L sl) (Nat.le_refl _)
  obtain ⟨W2, hW2⟩ : ∃ W2, (v2.alloc (.cells #[.int .i64 0, .int .i64 0, .string ⟨#[]⟩, .int .i64 0, .int .i64 0, .int .i64 0, .int .i64 0, .int .i64 0, .int .i64 0, .int .i64 0, .int .i64 0, .int .i64 0, .int .i64 0, .int .i64 0, .int .i64 0, .int .i64 0, .int .i64 0, .int .i64 0, .int .i64 0, .int .i64 0, .int .i64 0, .int .i64 0, .int .i64 0, .int .i64 0, .int .i64 0, .int .i64 0, .int .i64 0, .int .i64 0, .int .i64 0, .int .i64 0, .int .i64 0, .int .i64 0, .int .i64 0, .int .i64 0, .int .i64 0, .slice none 0 0, .bool false, .int .i64 0] 70)).setRow v2.heap.size (lgc L sl) = W2 := ⟨_, rfl⟩
  rw [hW2] at ka hbv ⊢
  replace hb := hb.trans (hbv.mono hb.size)
  replace Hv := Lib.hid (Hv.out.step hbv)
  clear hW2 hbv Hc2
  obtain ⟨y, hy⟩ : ∃ y, v2.heap.size = y := ⟨_, rfl⟩
  rw [hy] at ka ⊢
  clear hy
  have la := ka.lt
  by_cases hE0 : E = 0
  · subst hE0
    obtain ⟨j, hj, g1, g2, g3, g4⟩ := hot_good fs HE.out
    rw [HL.out] at g2 g3 g4
    obtain ⟨m, hm⟩ : ∃ m, (flat (fs.take j)).length = m := ⟨_, rfl⟩
    rw [hm] at g3
    have hpre : flat fs = flat (fs.take j) ++ flat (fs.drop j) := by rw [← flat_app, List.take_append_drop]
    have hms : m ≤ s.size := by
      have h2 : s.data.toList.length = s.size := rfl
      rw [Hsf.out, hpre, List.length_append, List.length_append] at h2
      omega
    have hcut : (s.extract 0 m).data.toList = flat (fs.take j) ++ [] := by
      rw [bs_extract, Hsf.out, hpre, List.drop_zero, List.append_assoc, List.take_append_of_le_length (by omega), List.take_of_length_le (by omega), List.append_nil]
    have hszm : (s.extract 0 m).size ≤ 140737488351232 := by
      have h2 : (s.extract 0 m).data.toList.length = (s.extract 0 m).size := rfl
      rw [hcut, List.append_nil, hm] at h2
      omega
    have hc3 := fun w => hread_fs (s.extract 0 m) (fs.take j) [] (fun p hp => Hok.out p (List.mem_of_mem_take hp)) hcut gf_nil (by rw [List.length_take]; omega) hszm w
    rw [g1, g2] at hc3
    have Hc3 := Lib.hid hc3
    have hm7 : (7 : Int) ≤ (m : Int) := by omega
    have hmI : (m : Int) ≤ (s.size : Int) := by omega
    have c37 := ka.cell 37
    rw [lgc_good h8, g3] at c37
    have HG := Lib.hid g3
    clear hc3 g1 g2 g3 g4 hpre hcut hszm hm hj
    go_wp2_with fail
    refine (Hc3.out W2).mono ?_
    rintro e v3 ⟨sl3, ss3, rfl, hv3, hq⟩
    replace hb := hb.trans (hq.mono hb.size)
    replace ka := ka.below hq la
    replace Hv := Lib.hid (Hv.out.step hq)
    have Hv3 := Lib.hid (OwnV.rd hv3)
    clear hv3 hq c37 Hc3
    go_upto_region 10 with (first | (refine wpList_store_blk rfl _ (.tmp 9) (.tmp 44) rfl v3.heap.size (lgc L sl3) rfl rfl _ _ (Blk.new v3 _ _) (by rw [lgc_size h8]; exact log_info) (by rw [lgc_size h8]; rfl) lgc_ones ?_))
    have kc := (Blk.new v3 70 #[.int .i64 0, .int .i64 0, .string ⟨#[]⟩, .int .i64 0, .int .i64 0, .int .i64 0, .int .i64 0, .int .i64 0, .int .i64 0, .int .i64 0, .int .i64 0, .int .i64 0, .int .i64 0, .int .i64 0, .int .i64 0, .int .i64 0, .int .i64 0, .int .i64 0, .int .i64 0, .int .i64 0, .int .i64 0, .int .i64 0, .int .i64 0, .int .i64 0, .int .i64 0, .int .i64 0, .int .i64 0, .int .i64 0, .int .i64 0, .int .i64 0, .int .i64 0, .int .i64 0, .int .i64 0, .int .i64 0, .int .i64 0, .slice none 0 0, .bool false, .int .i64 0]).row (lgc L sl3)
    have hbv := below_setRow ((Below.refl v3.heap.size v3).alloc (Nat.le_refl _) (.cells #[.int .i64 0, .int .i64 0, .string ⟨#[]⟩, .int .i64 0, .int .i64 0, .int .i64 0, .int .i64 0, .int .i64 0, .int .i64 0, .int .i64 0, .int .i64 0, .int .i64 0, .int .i64 0, .int .i64 0, .int .i64 0, .int .i64 0, .int .i64 0, .int .i64 0, .int .i64 0, .int .i64 0, .int .i64 0, .int .i64 0, .int .i64 0, .int .i64 0, .int .i64 0, .int .i64 0, .int .i64 0, .int .i64 0, .int .i64 0, .int .i64 0, .int .i64 0, .int .i64 0, .int .i64 0, .int .i64 0, .int .i64 0, .slice none 0 0, .bool false, .int .i64 0] 70)) v3.heap.size (lgc L sl3) (Nat.le_refl _)
    obtain ⟨W3, hW3⟩ : ∃ W3, (v3.alloc (.cells #[.int .i64 0, .int .i64 0, .string ⟨#[]⟩, .int .i64 0, .int .i64 0, .int .i64 0, .int .i64 0, .int .i64 0, .int .i64 0, .int .i64 0, .int .i64 0, .int .i64 0, .int .i64 0, .int .i64 0, .int .i64 0, .int .i64 0, .int .i64 0, .int .i64 0, .int .i64 0, .int .i64 0, .int .i64 0, .int .i64 0, .int .i64 0, .int .i64 0, .int .i64 0, .int .i64 0, .int .i64 0, .int .i64 0, .int .i64 0, .int .i64 0, .int .i64 0, .int .i64 0, .int .i64 0, .int .i64 0, .int .i64 0, .slice none 0 0, .bool false, .int .i64 0] 70)).setRow v3.heap.size (lgc L sl3) = W3 := ⟨_, rfl⟩
    rw [hW3] at kc hbv ⊢
    replace ka := ka.below hbv ka.lt
    replace hb := hb.trans (hbv.mono hb.size)
    replace Hv := Lib.hid (Hv.out.step hbv)
    replace Hv3 := Lib.hid (Hv3.out.step hbv)
    clear hW3 hbv
    obtain ⟨z, hz⟩ : ∃ z, v3.heap.size = z := ⟨_, rfl⟩
    rw [hz] at kc ⊢
    clear hz
    have la := ka.lt
    have lc := kc.lt
    have hc4 := samelog_true L sl sl3 W3 h8 Hv.out Hv3.out
    have Hc4 := Lib.hid hc4
    clear hc4
    go_wp2_with (first | (refine wpList_load_blkW (by simp [Region.wanted, yielded, Act.put]) _ (.tmp 7) rfl y rfl _ (log_row ka h8) ?_) | (refine wpList_load_blkW (by simp [Region.wanted, yielded, Act.put]) _ (.tmp 9) rfl z rfl _ (log_row kc h8) ?_))
    refine Hc4.out.mono ?_
    rintro e v4 ⟨rfl, hq⟩
    replace hb := hb.trans (hq.mono hb.size)
    replace ka := ka.below hq la
    replace Hv := Lib.hid (Hv.out.step hq)
    clear kc lc hq Hc4 Hv3
    have la := ka.lt
    have hwi := fun w => within_any k (s.size + 1) w (by omega) (by omega)
    have hwl := wi_lt k (s.size + 1) (by omega)
    obtain ⟨q, hq⟩ : ∃ q, wi k (s.size + 1) = q := ⟨_, rfl⟩
    rw [hq] at hwi hwl
    have e1 : (((s.size + 1 : Nat)) : Int) = (s.size : Int) + 1 := by omega
    rw [e1] at hwi
    have Hwi := Lib.hid hwi
    obtain ⟨i, rest', hcut, hi, hr'⟩ := scan_take fs rest q Hok.out Hr.out
    have hcut2 : (s.extract 0 q).data.toList = flat (fs.take i) ++ rest' := by
      rw [bs_extract, Hsf.out, List.drop_zero, hcut]
    have hszq : (s.extract 0 q).size ≤ 140737488351232 := by
      have h2 : (s.extract 0 q).data.toList.length = (s.extract 0 q).size := rfl
      rw [bs_extract, List.drop_zero, List.length_take] at h2
      have h3 : s.data.toList.length = s.size := rfl
      omega
    have hc5 := fun w => hread_fs (s.extract 0 q) (fs.take i) rest' (fun p hp => Hok.out p (List.mem_of_mem_take hp)) hcut2 hr' (by rw [List.length_take]; omega) hszq w
    have hct := hot_cut fs i HE.out
    have h8b := hotL_8 (fs.take i)
    obtain ⟨Lb, hLb⟩ : ∃ Lb, hotL (fs.take i) = Lb := ⟨_, rfl⟩
    obtain ⟨Eb, hEb⟩ : ∃ Eb, hotE (fs.take i) = Eb := ⟨_, rfl⟩
    rw [hLb, hEb] at hc5
    rw [hLb, hEb, HL.out] at hct
    rw [hLb] at h8b
    have Hc5 := Lib.hid hc5
    have Hct := Lib.hid hct
    have hqI : (q : Int) ≤ (s.size : Int) := by omega
    have hq0 : (0 : Int) ≤ (q : Int) := by omega
    clear hwi hc5 hct hcut hcut2 hr' hszq hq e1 hLb hEb hi
    go_wp2_with fail
    refine (Hwi.out v4).mono ?_
    rintro e v5 ⟨rfl, rfl⟩
    go_wp2_with fail
    refine (Hc5.out v4).mono ?_
    rintro e v6 ⟨slb, ssb, rfl, hvb, hq⟩
    replace hb := hb.trans (hq.mono hb.size)
    replace ka := ka.below hq la
    replace Hv := Lib.hid (Hv.out.step hq)
    have hslb : slb.2.1 = Lb.revs.length := by obtain ⟨A9, c9, e9⟩ := hvb.form; injection e9
    have Hvb := Lib.hid (OwnV.rd hvb)
    clear hvb hq Hc5 Hwi
    go_upto_region 13 with (first | (refine wpList_store_blk rfl _ (.tmp 11) (.tmp 63) rfl v6.heap.size (lgc Lb slb) rfl rfl _ _ (Blk.new v6 _ _) (by rw [lgc_size h8b]; exact log_info) (by rw [lgc_size h8b]; rfl) lgc_ones ?_))
    have kb := (Blk.new v6 70 #[.int .i64 0, .int .i64 0, .string ⟨#[]⟩, .int .i64 0, .int .i64 0, .int .i64 0, .int .i64 0, .int .i64 0, .int .i64 0, .int .i64 0, .int .i64 0, .int .i64 0, .int .i64 0, .int .i64 0, .int .i64 0, .int .i64 0, .int .i64 0, .int .i64 0, .int .i64 0, .int .i64 0, .int .i64 0, .int .i64 0, .int .i64 0, .int .i64 0, .int .i64 0, .int .i64 0, .int .i64 0, .int .i64 0, .int .i64 0, .int .i64 0, .int .i64 0, .int .i64 0, .int .i64 0, .int .i64 0, .int .i64 0, .slice none 0 0, .bool false, .int .i64 0]).row (lgc Lb slb)
    have hbv := below_setRow ((Below.refl v6.heap.size v6).alloc (Nat.le_refl _) (.cells #[.int .i64 0, .int .i64 0, .string ⟨#[]⟩, .int .i64 0, .int .i64 0, .int .i64 0, .int .i64 0, .int .i64 0, .int .i64 0, .int .i64 0, .int .i64 0, .int .i64 0, .int .i64 0, .int .i64 0, .int .i64 0, .int .i64 0, .int .i64 0, .int .i64 0, .int .i64 0, .int .i64 0, .int .i64 0, .int .i64 0, .int .i64 0, .int .i64 0, .int .i64 0, .int .i64 0, .int .i64 0, .int .i64 0, .int .i64 0, .int .i64 0, .int .i64 0, .int .i64 0, .int .i64 0, .int .i64 0, .int .i64 0, .slice none 0 0, .bool false, .int .i64 0] 70)) v6.heap.size (lgc Lb slb) (Nat.le_refl _)
    obtain ⟨W6, hW6⟩ : ∃ W6, (v6.alloc (.cells #[.int .i64 0, .int .i64 0, .string ⟨#[]⟩, .int .i64 0, .int .i64 0, .int .i64 0, .int .i64 0, .int .i64 0, .int .i64 0, .int .i64 0, .int .i64 0, .int .i64 0, .int .i64 0, .int .i64 0, .int .i64 0, .int .i64 0, .int .i64 0, .int .i64 0, .int .i64 0, .int .i64 0, .int .i64 0, .int .i64 0, .int .i64 0, .int .i64 0, .int .i64 0, .int .i64 0, .int .i64 0, .int .i64 0, .int .i64 0, .int .i64 0, .int .i64 0, .int .i64 0, .int .i64 0, .int .i64 0, .int .i64 0, .slice none 0 0, .bool false, .int .i64 0] 70)).setRow v6.heap.size (lgc Lb slb) = W6 := ⟨_, rfl⟩
    rw [hW6] at kb hbv ⊢
    replace ka := ka.below hbv ka.lt
    replace hb := hb.trans (hbv.mono hb.size)
    replace Hv := Lib.hid (Hv.out.step hbv)
    replace Hvb := Lib.hid (Hvb.out.step hbv)
    clear hW6 hbv
    obtain ⟨x, hx⟩ : ∃ x, v6.heap.size = x := ⟨_, rfl⟩
    rw [hx] at kb ⊢
    clear hx
    have la := ka.lt
    have lb := kb.lt
    rcases Hct.out with h7 | ⟨h0, p1, p2, p3, p4⟩
    · subst h7
      go_wp2_with fail
      go_ret
      exact ⟨rfl, hb⟩
    · subst h0
      obtain ⟨u, hu⟩ := p3
      have hlen : Lb.revs.length ≤ L.revs.length := by rw [← hu, List.length_append]; omega
      have htk : L.revs.take Lb.revs.length = Lb.revs := by rw [← hu, List.take_left']; rfl
      obtain ⟨A, n, c⟩ := sl
      obtain ⟨A', n', c'⟩ := slb
      simp only at hsl hslb
      have hcap := Hv.out.caps
      simp only at hcap
      have hn' : n' ≤ n := by omega
      have ht := Hv.out.take n' hn'
      rw [hslb, htk, ← hslb] at ht
      simp only at ht
      have hvb := Hvb.out
      simp only at hvb
      have Ht := Lib.hid ht
      have Htb := Lib.hid hvb
      have a0 := ka.cell 0
      have a2 := ka.cell 2
      have a35 := ka.cell 35
      have a37 := ka.cell 37
      have b0 := kb.cell 0
      have b2 := kb.cell 2
      have b35 := kb.cell 35
      have b37 := kb.cell 37
      rw [lgc_gen] at a0 b0
      rw [lgc_text] at a2 b2
      rw [lgc_revs h8] at a35
      rw [lgc_revs h8b] at b35
      rw [lgc_good h8] at a37
      rw [lgc_good h8b] at b37
      simp only at a35 b35
      rw [p1] at b0
      rw [p2] at b2
      obtain ⟨gn, hgn⟩ : ∃ x, L.gen = x := ⟨_, rfl⟩
      obtain ⟨tx, htx⟩ : ∃ x, L.text = x := ⟨_, rfl⟩
      obtain ⟨ga, hga⟩ : ∃ x, L.good = x := ⟨_, rfl⟩
      obtain ⟨gb, hgb⟩ : ∃ x, Lb.good = x := ⟨_, rfl⟩
      rw [hgn] at a0 b0
      rw [htx] at a2 b2
      rw [hga] at a37 p4
      rw [hgb] at b37 p4
      have hnI : (n' : Int) ≤ (n : Int) := by omega
      have hnc : (n' : Int) ≤ (c : Int) := by omega
      have hn0 : (0 : Int) ≤ (n' : Int) := by omega
      obtain ⟨lr, hlr⟩ : ∃ lr, Lb.revs = lr := ⟨_, rfl⟩
      rw [hlr] at Ht Htb
      have Hb := Lib.hid hb
      clear hgn htx hga hgb hcap ht hvb hu htk hlen hsl hslb p1 p2 ka kb hb Hv Hvb hlr Hct HG
      have KeepS := Lib.hid (fun (w' : World) (h : Below W6.heap.size W6 w') => (⟨h, by rw [h.cell la]; exact a0, by rw [h.cell la]; exact a2, by rw [h.cell la]; exact a35, by rw [h.cell la]; exact a37, by rw [h.cell lb]; exact b0, by rw [h.cell lb]; exact b2, by rw [h.cell lb]; exact b35, by rw [h.cell lb]; exact b37, Nat.lt_of_lt_of_le la h.size, Nat.lt_of_lt_of_le lb h.size⟩ : Below W6.heap.size W6 w' ∧ w'.cell? ⟨y, 0, none⟩ = some (.int .i64 gn) ∧ w'.cell? ⟨y, 2, none⟩ = some (.string tx) ∧ w'.cell? ⟨y, 35, none⟩ = some (.slice A n c) ∧ w'.cell? ⟨y, 37, none⟩ = some (.int .i64 ga) ∧ w'.cell? ⟨x, 0, none⟩ = some (.int .i64 gn) ∧ w'.cell? ⟨x, 2, none⟩ = some (.string tx) ∧ w'.cell? ⟨x, 35, none⟩ = some (.slice A' n' c') ∧ w'.cell? ⟨x, 37, none⟩ = some (.int .i64 gb) ∧ y < w'.heap.size ∧ x < w'.heap.size))
      have G := Lib.hid (fun (w' : World) (h : Below W6.heap.size W6 w' ∧ w'.cell? ⟨y, 0, none⟩ = some (.int .i64 gn) ∧ w'.cell? ⟨y, 2, none⟩ = some (.string tx) ∧ w'.cell? ⟨y, 35, none⟩ = some (.slice A n c) ∧ w'.cell? ⟨y, 37, none⟩ = some (.int .i64 ga) ∧ w'.cell? ⟨x, 0, none⟩ = some (.int .i64 gn) ∧ w'.cell? ⟨x, 2, none⟩ = some (.string tx) ∧ w'.cell? ⟨x, 35, none⟩ = some (.slice A' n' c') ∧ w'.cell? ⟨x, 37, none⟩ = some (.int .i64 gb) ∧ y < w'.heap.size ∧ x < w'.heap.size) => (samerevs_true lr A' A n' n' c' c w' ((Htb.out.below h.1).more h.1.size) ((Ht.out.below h.1).more h.1.size)).mono (R' := fun e w'' => e = .returned (.bool true) ∧ (Below W6.heap.size W6 w'' ∧ w''.cell? ⟨y, 0, none⟩ = some (.int .i64 gn) ∧ w''.cell? ⟨y, 2, none⟩ = some (.string tx) ∧ w''.cell? ⟨y, 35, none⟩ = some (.slice A n c) ∧ w''.cell? ⟨y, 37, none⟩ = some (.int .i64 ga) ∧ w''.cell? ⟨x, 0, none⟩ = some (.int .i64 gn) ∧ w''.cell? ⟨x, 2, none⟩ = some (.string tx) ∧ w''.cell? ⟨x, 35, none⟩ = some (.slice A' n' c') ∧ w''.cell? ⟨x, 37, none⟩ = some (.int .i64 gb) ∧ y < w''.heap.size ∧ x < w''.heap.size)) (fun e w'' hh => ⟨hh.1, KeepS.out _ (h.1.trans (hh.2.mono h.1.size))⟩))
      have hS7 := KeepS.out W6 (Below.refl _ _)
      clear a0 a2 a35 a37 b0 b2 b35 b37 la lb
      go_wp2_with fail
      go_region_held3 (fun w' => Below W6.heap.size W6 w' ∧ w'.cell? ⟨y, 0, none⟩ = some (.int .i64 gn) ∧ w'.cell? ⟨y, 2, none⟩ = some (.string tx) ∧ w'.cell? ⟨y, 35, none⟩ = some (.slice A n c) ∧ w'.cell? ⟨y, 37, none⟩ = some (.int .i64 ga) ∧ w'.cell? ⟨x, 0, none⟩ = some (.int .i64 gn) ∧ w'.cell? ⟨x, 2, none⟩ = some (.string tx) ∧ w'.cell? ⟨x, 35, none⟩ = some (.slice A' n' c') ∧ w'.cell? ⟨x, 37, none⟩ = some (.int .i64 gb) ∧ y < w'.heap.size ∧ x < w'.heap.size) (first | with_reducible assumption | exact KeepS.out _ (Below.drew (Below.refl _ _)) | exact KeepS.out _ (by assumption) | exact KeepS.out _ (Below.drew (by assumption)) | (go_split_ands; exact KeepS.out _ (by assumption)))
        ((go_at_call 39; with_reducible refine (G.out _ (by assumption)).mono ?_; rintro e w9 ⟨rfl, hS9⟩))
      go_wp2_with fail
      have hS9q : Below W6.heap.size W6 w9 ∧ w9.cell? ⟨y, 0, none⟩ = some (.int .i64 gn) ∧ w9.cell? ⟨y, 2, none⟩ = some (.string tx) ∧ w9.cell? ⟨y, 35, none⟩ = some (.slice A n c) ∧ w9.cell? ⟨y, 37, none⟩ = some (.int .i64 ga) ∧ w9.cell? ⟨x, 0, none⟩ = some (.int .i64 gn) ∧ w9.cell? ⟨x, 2, none⟩ = some (.string tx) ∧ w9.cell? ⟨x, 35, none⟩ = some (.slice A' n' c') ∧ w9.cell? ⟨x, 37, none⟩ = some (.int .i64 gb) ∧ y < w9.heap.size ∧ x < w9.heap.size := by assumption
      go_ret
      exact ⟨rfl, Hb.out.trans (hS9q.1.mono Hb.out.size)⟩
  · have hEn : (E != 0) = true := by simpa using hE0
    have hLz : L = lg0 := by rcases Hcs.out with ⟨_, h⟩ | ⟨_, h⟩ | h; exact h; exact h; exact absurd h hE0
    subst hLz
    have hcz := samelog_true lg0 sl (none, 0, 0) W2 lg0_8 Hv.out (RdR.nil _ _)
    have Hcz := Lib.hid hcz
    clear hcz
    go_wp2_with (first | (refine wpList_load_blk rfl _ (.tmp 7) rfl y rfl _ (log_row ka lg0_8) ?_) | (refine wpList_built rfl _ _ rfl (lgc lg0 (none, 0, 0)) built_log0 ?_))
    refine Hcz.out.mono ?_
    rintro e w9 ⟨rfl, hq⟩
    go_wp2_with fail
    go_ret
    exact ⟨rfl, hb.trans (hq.mono hb.size)⟩
end Go.Proofs.Ytfncpcmaplhojaa
