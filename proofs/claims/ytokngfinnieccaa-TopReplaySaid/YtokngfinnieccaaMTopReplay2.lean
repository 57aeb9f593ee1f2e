/- Contract of shop.Open (under way: the loop over the slots). -/
import Derived.Test.YtokngfinnieccaaV30
import Derived.Test.YtokngfinnieccaaV23
namespace Go.Proofs.Ytokngfinnieccaa
open Go.ChangeShapes Go.WideShapes Go.RowKit
set_option linter.unusedVariables false
set_option linter.unusedSimpArgs false
set_option maxRecDepth 100000
set_option maxHeartbeats 4000000
def FndO (fs0 fs1 : List Fm) (k : Nat) (bk : Int) (c0 c1 : Lg) : Prop :=
 (k = 0 ∧ bk = -1) ∨
 (k = 1 ∧ ((opS fs0 = none ∧ bk = -1) ∨ (opS fs0 = some c0 ∧ bk = 0))) ∨
 (k = 2 ∧ ((opS fs0 = none ∧ opS fs1 = none ∧ bk = -1) ∨ (pickS (opS fs0) (opS fs1) = some (0, c0) ∧ bk = 0) ∨ (pickS (opS fs0) (opS fs1) = some (1, c1) ∧ bk = 1)))
theorem opS_no {fs : List Fm} (h : hotE fs ≠ 0 ∨ (hotL fs).whole = false) : opS fs = none := by
 unfold opS
 rw [if_neg]
 rintro ⟨a, b⟩
 rcases h with h | h
 · exact h a
 · rw [h] at b; cases b
theorem opS_yes {fs : List Fm} (h1 : hotE fs = 0) (h2 : (hotL fs).whole = true) : opS fs = some (hotL fs) := by unfold opS; rw [if_pos ⟨h1, h2⟩]
theorem wpOp_boxTo {ops : Array Oper} {i : Nat} (t : Nat) {o : Oper} {a : Act} {w : World} {K : Act → World → Prop} {Q : Exit → Act → World → Prop} (hi : ops[i]? = some o) (hgd : o.guard = none) (hd : o.dst = some t) (ty : TypeId) (x : Operand) (ho : o.op = .box ty x) (cells : Array Value) (hx : (a.eval x).cells = cells)
 (h : K (a.put (some t) (.pointer (some ⟨w.heap.size, 0, none⟩))) (w.alloc (.cells cells ty))) : wpOp Try.prog ops Q i K a w := by
 unfold wpOp
 have hw : Region.wanted o (yielded ops a.tmps) = true := by simp [Region.wanted, hgd]
 simp only [hi, hw, if_true]
 refine .inl ?_
 unfold Oper.wp execOp
 subst hx
 simp only [ho, Sem.run_bind, Instr.box, newVar, newRow, run_newObj_alloc, Sem.run_pure, Result.andThen_ok]
 rw [← hd] at h
 exact h
theorem exec_build {o : Oper} {a : Act} {w : World} (t : TypeId) (parts : Array (Nat × Operand)) (ho : o.op = .build t parts) (ps : List (Nat × Value)) (hps : (parts.map fun (i, x) => (i, a.eval x)).toList = ps) (cells : Array Value) (hf : Try.prog.built t ps = some cells) :
 (execOp a.eval o).run Try.prog w = .ok (.value (.agg cells)) w := by
 subst hps
 unfold execOp
 simp only [ho, Sem.run_bind, run_build w t _ cells hf, Sem.run_pure, Result.andThen_ok]
theorem list_8 {α : Type} (l : List α) (h : l.length = 8) : ∃ a0 a1 a2 a3 a4 a5 a6 a7, l = [a0, a1, a2, a3, a4, a5, a6, a7] := by
 rcases l with _ | ⟨a0, _ | ⟨a1, _ | ⟨a2, _ | ⟨a3, _ | ⟨a4, _ | ⟨a5, _ | ⟨a6, _ | ⟨a7, _ | ⟨a8, l⟩⟩⟩⟩⟩⟩⟩⟩⟩ <;> simp at h
 exact ⟨_, _, _, _, _, _, _, _, rfl⟩
def shO (x0 : ByteArray) (x1 : Int) (y0 : ByteArray) (y1 : Int) (a : Nat) (c : Lg) : Sh := ⟨(x0, x1), (y0, y1), a, c, ⟨#[]⟩, 0, false⟩
theorem built_shopO (x0 : ByteArray) (x1 : Int) (y0 : ByteArray) (y1 : Int) (a : Nat) (c : Lg) (s : Sl) (h8 : Lg8 c) :
 Try.prog.built 134 [(0, .agg #[.string x0, .int .i64 x1, .string y0, .int .i64 y1]), (1, .int .i64 a), (2, .agg (lgc c s))] = some (shc (shO x0 x1 y0 y1 a c) s none) := by
 obtain ⟨gen, base, text, first, table, revs, whole, good⟩ := c
 obtain ⟨h1, h2⟩ := h8
 obtain ⟨a0, a1, a2, a3, a4, a5, a6, a7, rfl⟩ := list_8 first h1
 obtain ⟨b0, b1, b2, b3, b4, b5, b6, b7, rfl⟩ := list_8 table h2
 kernel_rfl
theorem lgl_at0 {c : Lg} {s : Sl} (c' : Lg) (s' : Sl) (h8 : Lg8 c) (j : Nat) (v : Value) (h : (lgl c s)[j]? = some v) : (lgl c s ++ lgl c' s').toArray[0 + j]? = some v := by
 have hj := (List.getElem?_eq_some_iff.1 h).1
 rw [List.getElem?_toArray, Nat.zero_add, List.getElem?_append_left hj]
 exact h
theorem lgl_at1 {c' : Lg} {s' : Sl} (c : Lg) (s : Sl) (h8 : Lg8 c) (j : Nat) (v : Value) (h : (lgl c' s')[j]? = some v) : (lgl c s ++ lgl c' s').toArray[38 + j]? = some v := by
 rw [List.getElem?_toArray, List.getElem?_append_right (by rw [lgl_len h8]; omega), lgl_len h8, show 38 + j - 38 = j by omega]
 exact h
theorem look_dc {x y : Slt} (h : dchk x y = 0) (i : Nat) (hi : i ≤ 1) : dlook x y (i : Int) = 0 := by
 unfold dlook
 rw [h, if_neg (by simp), if_neg (by omega)]
theorem ext_sz (s : ByteArray) (n : Nat) (h : n ≤ s.size) : (s.extract 0 n).size = n := by rw [← bs_len, cut_list, List.length_take, bs_len]; omega
theorem dchk_trim {s : Sh} (h : dchk s.d0 s.d1 = 0) (i n : Nat) (hn : (n : Int) ≤ ((if (i : Int) = 0 then s.d0.1.size else s.d1.1.size : Nat) : Int)) : dchk (trimSh s i n).d0 (trimSh s i n).d1 = 0 := by
 obtain ⟨z1, z2, z3, z4, z5, z6⟩ := dchk_zero _ _ h
 unfold trimSh dtrm
 by_cases e : (i : Int) = 0
 · rw [if_pos e] at hn ⊢
   have e1 := ext_sz s.d0.1 n (by omega)
   unfold dchk
   rw [sbad_ok (x := trimS s.d0 n) (by unfold trimS; simp only [Int.toNat_natCast]; omega) (by unfold trimS; simp only; omega) (by unfold trimS; simp only [Int.toNat_natCast]; omega), sbad_ok (x := s.d1) (by omega) z5 z6]
   simp
 · rw [if_neg e] at hn ⊢
   have e1 := ext_sz s.d1.1 n (by omega)
   unfold dchk
   rw [sbad_ok (x := trimS s.d1 n) (by unfold trimS; simp only [Int.toNat_natCast]; omega) (by unfold trimS; simp only; omega) (by unfold trimS; simp only [Int.toNat_natCast]; omega), sbad_ok (x := s.d0) (by omega) z3 z4]
   simp
theorem sopen_any (x0 : ByteArray) (x1 : Int) (y0 : ByteArray) (y1 : Int) (fs0 fs1 : List Fm) (rest0 rest1 : List UInt8) (w : World) (hc : dchk (x0, x1) (y0, y1) = 0)
 (hx : x0.data.toList = flat fs0 ++ rest0) (hr0 : (gf rest0).2.2.2 ≠ 0) (ho0 : ∀ p ∈ fs0, okF p) (hn0 : fs0.length ≤ 300) (hy : y0.data.toList = flat fs1 ++ rest1) (hr1 : (gf rest1).2.2.2 ≠ 0) (ho1 : ∀ p ∈ fs1, okF p) (hn1 : fs1.length ≤ 300)
 (a : Nat) (l : Lg) (hp : pickS (opS fs0) (opS fs1) = some (a, l)) (g b : Nat) (tN : List (Nat × Nat)) (hI : ShI (opnS (x0, x1) (y0, y1) a l) none g b tN) :
 Calls Try.prog 63 #[.agg #[.string x0, .int .i64 x1, .string y0, .int .i64 y1]] w fun e w' => ∃ q, e = .returned (.tuple #[.pointer (some ⟨q, 0, none⟩), .int .i64 0]) ∧ ShB w' w.heap.size q (opnS (x0, x1) (y0, y1) a l) none g ∧ Below w.heap.size w w' := by
 have hgd0 : ∀ c, opS fs0 = some c → ∃ G : Nat, c.good = (G : Int) ∧ G ≤ x0.size := by
  intro c hc
  unfold opS at hc
  split at hc
  · rename_i h
    injection hc with hc
    obtain ⟨j, _, _, _, e, _⟩ := hot_good fs0 h.1
    have := flat_pre fs0 j
    have hl := congrArg List.length hx
    rw [List.length_append, bs_len] at hl
    exact ⟨_, by rw [← hc]; exact e, by omega⟩
  · cases hc
 have hgd1 : ∀ c, opS fs1 = some c → ∃ G : Nat, c.good = (G : Int) ∧ G ≤ y0.size := by
  intro c hc
  unfold opS at hc
  split at hc
  · rename_i h
    injection hc with hc
    obtain ⟨j, _, _, _, e, _⟩ := hot_good fs1 h.1
    have := flat_pre fs1 j
    have hl := congrArg List.length hy
    rw [List.length_append, bs_len] at hl
    exact ⟨_, by rw [← hc]; exact e, by omega⟩
  · cases hc
 have HG0 := Lib.hid hgd0
 have HG1 := Lib.hid hgd1
 have HP := Lib.hid hp
 have HII := Lib.hid hI
 have HC := Lib.hid hc
 clear hgd0 hgd1 hp hI
 have hz := dchk_zero _ _ hc
 have hR0 := Lib.hid (fun w => hread_fs x0 fs0 rest0 ho0 hx hr0 (by omega) (by have := hz.1; simp only at this; omega) w)
 have hR1 := Lib.hid (fun w => hread_fs y0 fs1 rest1 ho1 hy hr1 (by omega) (by have := hz.2.1; simp only at this; omega) w)
 clear hx hy hr0 hr1 ho0 ho1 hn0 hn1 hz
 have kd := Blk.new w 70 #[.string x0, .int .i64 x1, .string y0, .int .i64 y1]
 have hal := (Below.refl w.heap.size w).alloc (Nat.le_refl _) (.cells #[.string x0, .int .i64 x1, .string y0, .int .i64 y1] 70)
 obtain ⟨gz, hg⟩ : ∃ gz, w.heap.size = gz := ⟨_, rfl⟩
 have Hg0 := Lib.hid hg
 clear hg
 go_enter Try.func63, Try.ntmps63
 go_upto_region 1 with (fail)
 obtain ⟨u1, hu1⟩ : ∃ u1, w.alloc (.cells #[.string x0, .int .i64 x1, .string y0, .int .i64 y1] 70) = u1 := ⟨_, rfl⟩
 rw [hu1] at kd hal ⊢
 rw [Hg0.out] at kd ⊢
 have HK := Lib.hid kd
 have HAL := Lib.hid hal
 have Hrow := Lib.hid (disk_row kd rfl)
 have hc_ := dcheck_any (x0, x1) (y0, y1) u1
 rw [hc] at hc_
 unfold dvl at hc_
 simp only at hc_
 have Hc_ := Lib.hid hc_
 clear kd hc_ hal hu1
 go_wp2_with (first | (refine wpList_load_blk rfl _ (.tmp 1) rfl gz rfl _ Hrow.out ?_))
 refine Hc_.out.mono ?_
 rintro e w1 ⟨rfl, hb1⟩
 have HK1 := Lib.hid (HK.out.below hb1 HK.out.lt)
 have q0 := HK1.out.cell 0
 have q1 := HK1.out.cell 1
 have q2 := HK1.out.cell 2
 have q3 := HK1.out.cell 3
 have lz := HK1.out.lt
 clear Hc_ Hrow HK
 go_wp2_with fail
 have hzz : Try.zeroCells164 = (lgl lg0 (none, 0, 0) ++ lgl lg0 (none, 0, 0)).toArray := by kernel_rfl
 have kl := Blk.new w1 164 Try.zeroCells164
 rw [hzz] at kl ⊢
 clear hzz
 obtain ⟨gl, hgl⟩ : ∃ gl, w1.heap.size = gl := ⟨_, rfl⟩
 obtain ⟨u2, hu2⟩ : ∃ u2, w1.alloc (.cells (lgl lg0 (none, 0, 0) ++ lgl lg0 (none, 0, 0)).toArray 164) = u2 := ⟨_, rfl⟩
 rw [hu2] at kl ⊢
 rw [hgl] at kl ⊢
 have HLB := Lib.hid kl
 have HgL : Hid (w.heap.size ≤ gl) := Lib.hid (by rw [← hgl]; exact Nat.le_trans HAL.out.size hb1.size)
 have hb2 := (Below.refl w1.heap.size w1).alloc (Nat.le_refl _) (.cells (lgl lg0 (none, 0, 0) ++ lgl lg0 (none, 0, 0)).toArray 164)
 rw [hu2] at hb2
 have HB2 := Lib.hid (HAL.out.trans ((hb1.trans (hb2.mono hb1.size)).mono HAL.out.size))
 have HK2 := Lib.hid (HK1.out.below hb2 HK1.out.lt)
 clear kl hu2 hgl q0 q1 q2 q3 lz hb2 hb1 HK1
 go_loopw [5, 19] (fun bv iv wr => ∃ (k : Nat) (bk : Int) (c0 c1 : Lg) (s0 s1 : Sl) (ss0 ss1 : List Sl), k ≤ 2 ∧ iv = .int .i64 k ∧ bv = .int .i64 bk ∧ Hid (Lg8 c0) ∧ Hid (Lg8 c1) ∧ Hid (Blk wr gl 164 (lgl c0 s0 ++ lgl c1 s1).toArray) ∧ Hid (OwnV wr w.heap.size (.slice s0.1 s0.2.1 s0.2.2) ss0 c0.revs) ∧ Hid (OwnV wr w.heap.size (.slice s1.1 s1.2.1 s1.2.2) ss1 c1.revs) ∧ Hid (Blk wr gz 70 #[.string x0, .int .i64 x1, .string y0, .int .i64 y1]) ∧ Hid (Below w.heap.size w wr) ∧ Hid (FndO fs0 fs1 k bk c0 c1)) (fun _ iv _ => 2 - (intOf iv).toNat)
 case atStart => exact ⟨0, -1, lg0, lg0, (none, 0, 0), (none, 0, 0), [], [], by omega, rfl, rfl, Lib.hid lg0_8, Lib.hid lg0_8, HLB, Lib.hid (OwnV.nil _ _), Lib.hid (OwnV.nil _ _), HK2, HB2, Lib.hid (.inl ⟨rfl, rfl⟩)⟩
 case round =>
  clear HLB HK2 HB2
  obtain ⟨k, bk, c0, c1, s0, s1, ss0, ss1, hk, rfl, rfl, H80, H81, HLB, HO0, HO1, HK, HB, HF⟩ := hrel
  rcases (show k = 0 ∨ k = 1 ∨ k = 2 by omega) with rfl | rfl | rfl
  · skip
    have i0 := slot_at0 x0 y0 x1 y1
    go_wp2_with fail
    refine (hR0.out _).mono ?_
    rintro e v1 ⟨sl, ss, rfl, hO, hb⟩
    have h8 := hotL8 fs0
    have hbw := (Below.refl wr.heap.size wr).alloc (Nat.le_refl _) (.cells #[.string x0, .int .i64 x1] 67)
    have hb0s : wr.heap.size ≤ v1.heap.size := Nat.le_trans hbw.size hb.size
    replace hb := hbw.trans (hb.mono hbw.size)
    have hO := hO.base (B' := w.heap.size) (by have := HB.out.size; have := hbw.size; omega)
    have hb1s := hbw.size
    have hb2s := hb.size
    clear hbw
    obtain ⟨L, hL⟩ : ∃ L, hotL fs0 = L := ⟨_, rfl⟩
    obtain ⟨E, hE⟩ : ∃ E, hotE fs0 = E := ⟨_, rfl⟩
    rw [hL] at hO h8 ⊢
    rw [hE]
    have HLf := Lib.hid hL
    have HEf := Lib.hid hE
    have HO := Lib.hid hO
    clear hL hE hO
    go_upto_region 10 with (first | (refine wpList_store_blk rfl _ (.tmp 9) (.tmp 27) rfl v1.heap.size (lgc L sl) rfl rfl _ _ (Blk.new v1 _ _) (by rw [lgc_size h8]; exact log_info) (by rw [lgc_size h8]; rfl) lgc_ones ?_))
    have kb := (Blk.new v1 131 #[.int .i64 0, .int .i64 0, .string ⟨#[]⟩, .int .i64 0, .int .i64 0, .int .i64 0, .int .i64 0, .int .i64 0, .int .i64 0, .int .i64 0, .int .i64 0, .int .i64 0, .int .i64 0, .int .i64 0, .int .i64 0, .int .i64 0, .int .i64 0, .int .i64 0, .int .i64 0, .int .i64 0, .int .i64 0, .int .i64 0, .int .i64 0, .int .i64 0, .int .i64 0, .int .i64 0, .int .i64 0, .int .i64 0, .int .i64 0, .int .i64 0, .int .i64 0, .int .i64 0, .int .i64 0, .int .i64 0, .int .i64 0, .slice none 0 0, .bool false, .int .i64 0]).row (lgc L sl)
    have hbv := below_setRow ((Below.refl v1.heap.size v1).alloc (Nat.le_refl _) (.cells #[.int .i64 0, .int .i64 0, .string ⟨#[]⟩, .int .i64 0, .int .i64 0, .int .i64 0, .int .i64 0, .int .i64 0, .int .i64 0, .int .i64 0, .int .i64 0, .int .i64 0, .int .i64 0, .int .i64 0, .int .i64 0, .int .i64 0, .int .i64 0, .int .i64 0, .int .i64 0, .int .i64 0, .int .i64 0, .int .i64 0, .int .i64 0, .int .i64 0, .int .i64 0, .int .i64 0, .int .i64 0, .int .i64 0, .int .i64 0, .int .i64 0, .int .i64 0, .int .i64 0, .int .i64 0, .int .i64 0, .int .i64 0, .slice none 0 0, .bool false, .int .i64 0] 131)) v1.heap.size (lgc L sl) (Nat.le_refl _)
    obtain ⟨W, hW⟩ : ∃ W, (v1.alloc (.cells #[.int .i64 0, .int .i64 0, .string ⟨#[]⟩, .int .i64 0, .int .i64 0, .int .i64 0, .int .i64 0, .int .i64 0, .int .i64 0, .int .i64 0, .int .i64 0, .int .i64 0, .int .i64 0, .int .i64 0, .int .i64 0, .int .i64 0, .int .i64 0, .int .i64 0, .int .i64 0, .int .i64 0, .int .i64 0, .int .i64 0, .int .i64 0, .int .i64 0, .int .i64 0, .int .i64 0, .int .i64 0, .int .i64 0, .int .i64 0, .int .i64 0, .int .i64 0, .int .i64 0, .int .i64 0, .int .i64 0, .int .i64 0, .slice none 0 0, .bool false, .int .i64 0] 131)).setRow v1.heap.size (lgc L sl) = W := ⟨_, rfl⟩
    rw [hW] at kb hbv ⊢
    have HOW := Lib.hid (HO.out.below hbv)
    replace hb := hb.trans (hbv.mono hb.size)
    have HLBw := Lib.hid (HLB.out.below hb HLB.out.lt)
    have HO0w := Lib.hid (HO0.out.below hb)
    have HO1w := Lib.hid (HO1.out.below hb)
    have HKw := Lib.hid (HK.out.below hb HK.out.lt)
    have HBw := Lib.hid (HB.out.trans (hb.mono HB.out.size))
    have hgly : gl < v1.heap.size := Nat.lt_of_lt_of_le HLB.out.lt (by have := hb0s; omega)
    obtain ⟨y, hy⟩ : ∃ y, v1.heap.size = y := ⟨_, rfl⟩
    rw [hy] at kb hgly ⊢
    clear hW hy hb hbv HLB HO0 HO1 HK HB HO
    have q36 := (kb.cell 36).trans (lgc_whole h8)
    have q0 := (kb.cell 0).trans lgc_gen
    have lk := kb.lt
    have HKB := Lib.hid kb
    have H8 := Lib.hid h8
    obtain ⟨WH, hWH⟩ : ∃ x, L.whole = x := ⟨_, rfl⟩
    rw [hWH] at q36
    have HWH := Lib.hid hWH
    clear kb h8 hWH
    by_cases hE0 : E = 0
    · subst hE0
      cases WH with
      | false =>
        have HN : Hid (opS fs0 = none) := Lib.hid (opS_no (.inr (by rw [HLf.out]; exact HWH.out)))
        go_wp2_with fail
        go_roundw
        case rel => exact ⟨0+1, bk, c0, c1, s0, s1, ss0, ss1, by omega, by first | rfl | go_num, rfl, H80, H81, HLBw, HO0w, HO1w, HKw, HBw, Lib.hid (by rcases HF.out with ⟨_, e⟩ | ⟨e, _⟩ | ⟨e, _⟩; exact .inr (.inl ⟨rfl, .inl ⟨HN.out, e⟩⟩); omega; omega)⟩
        case measure => simp [intOf]
      | true =>
        have HN : Hid (opS fs0 = some L) := Lib.hid (by rw [← HLf.out]; exact opS_yes HEf.out (by rw [HLf.out]; exact HWH.out))
        have hss : (lgl c0 s0).length = 38 := lgl_len H80.out
        have hs1 : (lgl c1 s1).length = 38 := lgl_len H81.out
        have hsL : (lgl L sl).length = 38 := lgl_len H8.out
        have Hrow := Lib.hid (log_row HKB.out H8.out)
        have Hth := Lib.hid (HLBw.out.there (o := 0 * 38) (n := (lgc L sl).size) (by rw [lgc_size H8.out, List.size_toArray, List.length_append, hss, hs1]; omega))
        have Hin : Hid ((Try.prog.info? 131).map (·.size) = some (lgc L sl).size) := Lib.hid (by rw [lgc_size H8.out]; exact log_info)
        clear hss hs1 hsL
        go_upto_region 12 with (first | (refine wpList_load_blk rfl _ (.tmp 9) rfl y rfl _ Hrow.out ?_) | (refine wpList_store_mid rfl _ (.tmp 38) (.tmp 37) rfl gl (0 * 38) (lgc L sl) rfl rfl Hth.out Hin.out lgc_ones ?_))
        have ho := Only.setMany gl (lgc L sl).toList (0 * 38) W
        have kl := Blk.setMany (w := W) (lgc L sl).toList (0 * 38) W _ HLBw.out
        have hse : setL (lgl c0 s0 ++ lgl c1 s1).toArray (0 * 38) (lgc L sl).toList = (lgl L sl ++ lgl c1 s1).toArray := setL_mid (lgl L sl) (lgl c0 s0) [] (lgl c1 s1) (by rw [lgl_len H8.out, lgl_len H80.out])
        rw [hse] at kl
        have kz := Blk.farMany (HKw.out.ne_ HLBw.out (by decide)) (lgc L sl).toList (0 * 38) W HKw.out
        have ky := Blk.farMany (Nat.ne_of_gt hgly) (lgc L sl).toList (0 * 38) W HKB.out
        have m0 := HO0w.out.box HLBw.out (by decide) (by decide) ho
        have m1 := HO1w.out.box HLBw.out (by decide) (by decide) ho
        have m2 := (HOW.out).box HLBw.out (by decide) (by decide) ho
        have hbb := HBw.out.trans (ho.below (B := w.heap.size) HBw.out.size (fun k hk => by rw [hk]; exact HgL.out))
        obtain ⟨W2, hW2⟩ : ∃ W2, W.setCells gl (0 * 38) (lgc L sl).toList = W2 := ⟨_, rfl⟩
        rw [hW2] at kl kz ky m0 m1 m2 hbb ⊢
        have Kl := Lib.hid kl
        have Kz := Lib.hid kz
        have Ky := Lib.hid ky
        have M0 := Lib.hid m0
        have M1 := Lib.hid m1
        have M2 := Lib.hid m2
        have HBB := Lib.hid hbb
        clear kl kz ky m0 m1 m2 hbb hse ho hW2 q36 q0 Hrow Hth Hin HLBw HO0w HO1w HKw HBw HOW HKB
        obtain rfl : bk = -1 := by rcases HF.out with ⟨_, e⟩ | ⟨e, _⟩ | ⟨e, _⟩; exact e; omega; omega
        go_quiet (fail)
        go_wp2_with fail
        go_roundw
        case rel => exact ⟨1, 0, L, c1, sl, s1, ss, ss1, by omega, by first | rfl | go_num, rfl, H8, H81, Lib.hid (Kl.out.below (below_drewN_ (Below.refl _ _) _) Kl.out.lt), Lib.hid (M2.out.below (below_drewN_ (Below.refl _ _) _)), Lib.hid (M1.out.below (below_drewN_ (Below.refl _ _) _)), Lib.hid (Kz.out.below (below_drewN_ (Below.refl _ _) _) Kz.out.lt), Lib.hid (HBB.out.trans (below_drewN_ (Below.refl _ _) _)), Lib.hid (.inr (.inl ⟨rfl, .inr ⟨HN.out, rfl⟩⟩))⟩
        case measure => simp [intOf]
    · have HN : Hid (opS fs0 = none) := Lib.hid (opS_no (.inl (by rw [HEf.out]; exact hE0)))
      have q9 : (E != 0) = true := by simpa using hE0
      go_wp2_with fail
      go_roundw
      case rel => exact ⟨0+1, bk, c0, c1, s0, s1, ss0, ss1, by omega, by first | rfl | go_num, rfl, H80, H81, HLBw, HO0w, HO1w, HKw, HBw, Lib.hid (by rcases HF.out with ⟨_, e⟩ | ⟨e, _⟩ | ⟨e, _⟩; exact .inr (.inl ⟨rfl, .inl ⟨HN.out, e⟩⟩); omega; omega)⟩
      case measure => simp [intOf]
  · skip
    have i0 := slot_at1 x0 y0 x1 y1
    go_wp2_with fail
    refine (hR1.out _).mono ?_
    rintro e v1 ⟨sl, ss, rfl, hO, hb⟩
    have h8 := hotL8 fs1
    have hbw := (Below.refl wr.heap.size wr).alloc (Nat.le_refl _) (.cells #[.string y0, .int .i64 y1] 67)
    have hb0s : wr.heap.size ≤ v1.heap.size := Nat.le_trans hbw.size hb.size
    replace hb := hbw.trans (hb.mono hbw.size)
    have hO := hO.base (B' := w.heap.size) (by have := HB.out.size; have := hbw.size; omega)
    have hb1s := hbw.size
    have hb2s := hb.size
    clear hbw
    obtain ⟨L, hL⟩ : ∃ L, hotL fs1 = L := ⟨_, rfl⟩
    obtain ⟨E, hE⟩ : ∃ E, hotE fs1 = E := ⟨_, rfl⟩
    rw [hL] at hO h8 ⊢
    rw [hE]
    have HLf := Lib.hid hL
    have HEf := Lib.hid hE
    have HO := Lib.hid hO
    clear hL hE hO
    go_upto_region 10 with (first | (refine wpList_store_blk rfl _ (.tmp 9) (.tmp 27) rfl v1.heap.size (lgc L sl) rfl rfl _ _ (Blk.new v1 _ _) (by rw [lgc_size h8]; exact log_info) (by rw [lgc_size h8]; rfl) lgc_ones ?_))
    have kb := (Blk.new v1 131 #[.int .i64 0, .int .i64 0, .string ⟨#[]⟩, .int .i64 0, .int .i64 0, .int .i64 0, .int .i64 0, .int .i64 0, .int .i64 0, .int .i64 0, .int .i64 0, .int .i64 0, .int .i64 0, .int .i64 0, .int .i64 0, .int .i64 0, .int .i64 0, .int .i64 0, .int .i64 0, .int .i64 0, .int .i64 0, .int .i64 0, .int .i64 0, .int .i64 0, .int .i64 0, .int .i64 0, .int .i64 0, .int .i64 0, .int .i64 0, .int .i64 0, .int .i64 0, .int .i64 0, .int .i64 0, .int .i64 0, .int .i64 0, .slice none 0 0, .bool false, .int .i64 0]).row (lgc L sl)
    have hbv := below_setRow ((Below.refl v1.heap.size v1).alloc (Nat.le_refl _) (.cells #[.int .i64 0, .int .i64 0, .string ⟨#[]⟩, .int .i64 0, .int .i64 0, .int .i64 0, .int .i64 0, .int .i64 0, .int .i64 0, .int .i64 0, .int .i64 0, .int .i64 0, .int .i64 0, .int .i64 0, .int .i64 0, .int .i64 0, .int .i64 0, .int .i64 0, .int .i64 0, .int .i64 0, .int .i64 0, .int .i64 0, .int .i64 0, .int .i64 0, .int .i64 0, .int .i64 0, .int .i64 0, .int .i64 0, .int .i64 0, .int .i64 0, .int .i64 0, .int .i64 0, .int .i64 0, .int .i64 0, .int .i64 0, .slice none 0 0, .bool false, .int .i64 0] 131)) v1.heap.size (lgc L sl) (Nat.le_refl _)
    obtain ⟨W, hW⟩ : ∃ W, (v1.alloc (.cells #[.int .i64 0, .int .i64 0, .string ⟨#[]⟩, .int .i64 0, .int .i64 0, .int .i64 0, .int .i64 0, .int .i64 0, .int .i64 0, .int .i64 0, .int .i64 0, .int .i64 0, .int .i64 0, .int .i64 0, .int .i64 0, .int .i64 0, .int .i64 0, .int .i64 0, .int .i64 0, .int .i64 0, .int .i64 0, .int .i64 0, .int .i64 0, .int .i64 0, .int .i64 0, .int .i64 0, .int .i64 0, .int .i64 0, .int .i64 0, .int .i64 0, .int .i64 0, .int .i64 0, .int .i64 0, .int .i64 0, .int .i64 0, .slice none 0 0, .bool false, .int .i64 0] 131)).setRow v1.heap.size (lgc L sl) = W := ⟨_, rfl⟩
    rw [hW] at kb hbv ⊢
    have HOW := Lib.hid (HO.out.below hbv)
    replace hb := hb.trans (hbv.mono hb.size)
    have HLBw := Lib.hid (HLB.out.below hb HLB.out.lt)
    have HO0w := Lib.hid (HO0.out.below hb)
    have HO1w := Lib.hid (HO1.out.below hb)
    have HKw := Lib.hid (HK.out.below hb HK.out.lt)
    have HBw := Lib.hid (HB.out.trans (hb.mono HB.out.size))
    have hgly : gl < v1.heap.size := Nat.lt_of_lt_of_le HLB.out.lt (by have := hb0s; omega)
    obtain ⟨y, hy⟩ : ∃ y, v1.heap.size = y := ⟨_, rfl⟩
    rw [hy] at kb hgly ⊢
    clear hW hy hb hbv HLB HO0 HO1 HK HB HO
    have q36 := (kb.cell 36).trans (lgc_whole h8)
    have q0 := (kb.cell 0).trans lgc_gen
    have lk := kb.lt
    have HKB := Lib.hid kb
    have H8 := Lib.hid h8
    obtain ⟨WH, hWH⟩ : ∃ x, L.whole = x := ⟨_, rfl⟩
    rw [hWH] at q36
    have HWH := Lib.hid hWH
    clear kb h8 hWH
    by_cases hE0 : E = 0
    · subst hE0
      cases WH with
      | false =>
        have HN : Hid (opS fs1 = none) := Lib.hid (opS_no (.inr (by rw [HLf.out]; exact HWH.out)))
        go_wp2_with fail
        go_roundw
        case rel => exact ⟨1+1, bk, c0, c1, s0, s1, ss0, ss1, by omega, by first | rfl | go_num, rfl, H80, H81, HLBw, HO0w, HO1w, HKw, HBw, Lib.hid (by rcases HF.out with ⟨e, _⟩ | ⟨_, e⟩ | ⟨e, _⟩; omega; exact .inr (.inr ⟨rfl, by rcases e with ⟨e1, e2⟩ | ⟨e1, e2⟩; exact .inl ⟨e1, HN.out, e2⟩; exact .inr (.inl ⟨by rw [e1, HN.out]; rfl, e2⟩)⟩); omega)⟩
        case measure => simp [intOf]
      | true =>
        have HN : Hid (opS fs1 = some L) := Lib.hid (by rw [← HLf.out]; exact opS_yes HEf.out (by rw [HLf.out]; exact HWH.out))
        have hss : (lgl c0 s0).length = 38 := lgl_len H80.out
        have hs1 : (lgl c1 s1).length = 38 := lgl_len H81.out
        have hsL : (lgl L sl).length = 38 := lgl_len H8.out
        have Hrow := Lib.hid (log_row HKB.out H8.out)
        have Hth := Lib.hid (HLBw.out.there (o := 1 * 38) (n := (lgc L sl).size) (by rw [lgc_size H8.out, List.size_toArray, List.length_append, hss, hs1]; omega))
        have Hin : Hid ((Try.prog.info? 131).map (·.size) = some (lgc L sl).size) := Lib.hid (by rw [lgc_size H8.out]; exact log_info)
        clear hss hs1 hsL
        go_upto_region 12 with (first | (refine wpList_load_blk rfl _ (.tmp 9) rfl y rfl _ Hrow.out ?_) | (refine wpList_store_mid rfl _ (.tmp 38) (.tmp 37) rfl gl (1 * 38) (lgc L sl) rfl rfl Hth.out Hin.out lgc_ones ?_))
        have ho := Only.setMany gl (lgc L sl).toList (1 * 38) W
        have kl := Blk.setMany (w := W) (lgc L sl).toList (1 * 38) W _ HLBw.out
        have hse : setL (lgl c0 s0 ++ lgl c1 s1).toArray (1 * 38) (lgc L sl).toList = (lgl c0 s0 ++ lgl L sl).toArray := (show setL (lgl c0 s0 ++ lgl c1 s1).toArray (1 * 38) (lgl L sl) = _ from by have e := setL_mid (lgl L sl) (lgl c1 s1) (lgl c0 s0) [] (by rw [lgl_len H8.out, lgl_len H81.out]); rw [lgl_len H80.out] at e; simpa using e)
        rw [hse] at kl
        have kz := Blk.farMany (HKw.out.ne_ HLBw.out (by decide)) (lgc L sl).toList (1 * 38) W HKw.out
        have ky := Blk.farMany (Nat.ne_of_gt hgly) (lgc L sl).toList (1 * 38) W HKB.out
        have m0 := HO0w.out.box HLBw.out (by decide) (by decide) ho
        have m1 := HO1w.out.box HLBw.out (by decide) (by decide) ho
        have m2 := (HOW.out).box HLBw.out (by decide) (by decide) ho
        have hbb := HBw.out.trans (ho.below (B := w.heap.size) HBw.out.size (fun k hk => by rw [hk]; exact HgL.out))
        obtain ⟨W2, hW2⟩ : ∃ W2, W.setCells gl (1 * 38) (lgc L sl).toList = W2 := ⟨_, rfl⟩
        rw [hW2] at kl kz ky m0 m1 m2 hbb ⊢
        have Kl := Lib.hid kl
        have Kz := Lib.hid kz
        have Ky := Lib.hid ky
        have M0 := Lib.hid m0
        have M1 := Lib.hid m1
        have M2 := Lib.hid m2
        have HBB := Lib.hid hbb
        clear kl kz ky m0 m1 m2 hbb hse ho hW2 q36 q0 Hrow Hth Hin HLBw HO0w HO1w HKw HBw HOW HKB
        have hbk : (opS fs0 = none ∧ bk = -1) ∨ (opS fs0 = some c0 ∧ bk = 0) := by rcases HF.out with ⟨e, _⟩ | ⟨_, e⟩ | ⟨e, _⟩; omega; exact e; omega
        rcases hbk with ⟨hn0, rfl⟩ | ⟨hs0, rfl⟩
        · have HN0 := Lib.hid hn0
          clear hn0 HF
          go_quiet (fail)
          go_wp2_with fail
          go_roundw
          case rel => exact ⟨2, 1, c0, L, s0, sl, ss0, ss, by omega, by first | rfl | go_num, rfl, H80, H8, Lib.hid (Kl.out.below (below_drewN_ (Below.refl _ _) _) Kl.out.lt), Lib.hid (M0.out.below (below_drewN_ (Below.refl _ _) _)), Lib.hid (M2.out.below (below_drewN_ (Below.refl _ _) _)), Lib.hid (Kz.out.below (below_drewN_ (Below.refl _ _) _) Kz.out.lt), Lib.hid (HBB.out.trans (below_drewN_ (Below.refl _ _) _)), Lib.hid (.inr (.inr ⟨rfl, .inr (.inr ⟨by rw [HN0.out, HN.out]; rfl, rfl⟩)⟩))⟩
          case measure => simp [intOf]
        · have HS0 := Lib.hid hs0
          clear hs0 HF
          have y0_ : W2.cell? ⟨y, 0, none⟩ = some (.int .i64 L.gen) := (Ky.out.cell 0).trans lgc_gen
          have g0_ : W2.cell? ⟨gl, 0, none⟩ = some (.int .i64 c0.gen) := (Kl.out.cell 0).trans rfl
          have ly_ := Ky.out.lt
          have lg_ := Kl.out.lt
          obtain ⟨GL, hGL⟩ : ∃ x, L.gen = x := ⟨_, rfl⟩
          obtain ⟨GC, hGC⟩ : ∃ x, c0.gen = x := ⟨_, rfl⟩
          rw [hGL] at y0_
          rw [hGC] at g0_
          have HGL := Lib.hid hGL
          have HGC := Lib.hid hGC
          clear hGL hGC
          by_cases hgt : GC < GL
          · have HGT := Lib.hid hgt
            have qd : decide (GC < GL) = true := by simpa using hgt
            clear hgt
            go_quiet (fail)
            clear y0_ g0_ ly_ lg_
            go_wp2_with fail
            go_roundw
            case rel => exact ⟨2, 1, c0, L, s0, sl, ss0, ss, by omega, by first | rfl | go_num, rfl, H80, H8, Lib.hid (Kl.out.below (below_drewN_ (Below.refl _ _) _) Kl.out.lt), Lib.hid (M0.out.below (below_drewN_ (Below.refl _ _) _)), Lib.hid (M2.out.below (below_drewN_ (Below.refl _ _) _)), Lib.hid (Kz.out.below (below_drewN_ (Below.refl _ _) _) Kz.out.lt), Lib.hid (HBB.out.trans (below_drewN_ (Below.refl _ _) _)), Lib.hid (.inr (.inr ⟨rfl, .inr (.inr ⟨by rw [HS0.out, HN.out]; show (if c0.gen < L.gen then _ else _) = _; rw [HGL.out, HGC.out, if_pos HGT.out], rfl⟩)⟩))⟩
            case measure => simp [intOf]
          · have HGT := Lib.hid hgt
            have qd : decide (GC < GL) = false := by simpa using hgt
            clear hgt
            go_quiet (fail)
            clear y0_ g0_ ly_ lg_
            go_wp2_with fail
            go_roundw
            case rel => exact ⟨2, 0, c0, L, s0, sl, ss0, ss, by omega, by first | rfl | go_num, rfl, H80, H8, Lib.hid (Kl.out.below (below_drewN_ (Below.refl _ _) _) Kl.out.lt), Lib.hid (M0.out.below (below_drewN_ (Below.refl _ _) _)), Lib.hid (M2.out.below (below_drewN_ (Below.refl _ _) _)), Lib.hid (Kz.out.below (below_drewN_ (Below.refl _ _) _) Kz.out.lt), Lib.hid (HBB.out.trans (below_drewN_ (Below.refl _ _) _)), Lib.hid (.inr (.inr ⟨rfl, .inr (.inl ⟨by rw [HS0.out, HN.out]; show (if c0.gen < L.gen then _ else _) = _; rw [HGL.out, HGC.out, if_neg HGT.out], rfl⟩)⟩))⟩
            case measure => simp [intOf]
    · have HN : Hid (opS fs1 = none) := Lib.hid (opS_no (.inl (by rw [HEf.out]; exact hE0)))
      have q9 : (E != 0) = true := by simpa using hE0
      go_wp2_with fail
      go_roundw
      case rel => exact ⟨1+1, bk, c0, c1, s0, s1, ss0, ss1, by omega, by first | rfl | go_num, rfl, H80, H81, HLBw, HO0w, HO1w, HKw, HBw, Lib.hid (by rcases HF.out with ⟨e, _⟩ | ⟨_, e⟩ | ⟨e, _⟩; omega; exact .inr (.inr ⟨rfl, by rcases e with ⟨e1, e2⟩ | ⟨e1, e2⟩; exact .inl ⟨e1, HN.out, e2⟩; exact .inr (.inl ⟨by rw [e1, HN.out]; rfl, e2⟩)⟩); omega)⟩
      case measure => simp [intOf]
  · skip
    have hfin : (a = 0 ∧ l = c0 ∧ bk = 0) ∨ (a = 1 ∧ l = c1 ∧ bk = 1) := by
     rcases HF.out with ⟨e, _⟩ | ⟨e, _⟩ | ⟨_, ⟨e1, e2, _⟩ | ⟨e1, e2⟩ | ⟨e1, e2⟩⟩
     · omega
     · omega
     · have hh := HP.out; rw [e1, e2] at hh; cases hh
     · have hh := HP.out; rw [e1] at hh; injection hh with hh; injection hh with h1 h2; exact .inl ⟨h1.symm, h2.symm, e2⟩
     · have hh := HP.out; rw [e1] at hh; injection hh with hh; injection hh with h1 h2; exact .inr ⟨h1.symm, h2.symm, e2⟩
    have hgood : ∀ c, pickS (opS fs0) (opS fs1) = some (a, c) → ∃ G : Nat, c.good = (G : Int) ∧ (G : Int) ≤ ((if (a : Int) = 0 then x0.size else y0.size : Nat) : Int) := by
     intro c hc
     cases e0 : opS fs0 with
     | none =>
       cases e1 : opS fs1 with
       | none => rw [e0, e1] at hc; cases hc
       | some l' =>
         rw [e0, e1] at hc
         injection hc with hc
         injection hc with h1 h2
         subst h1 h2
         obtain ⟨G, a1, a2⟩ := HG1.out _ e1
         exact ⟨G, a1, by rw [if_neg (by omega)]; omega⟩
     | some l0 =>
       cases e1 : opS fs1 with
       | none =>
         rw [e0, e1] at hc
         injection hc with hc
         injection hc with h1 h2
         subst h1 h2
         obtain ⟨G, a1, a2⟩ := HG0.out _ e0
         exact ⟨G, a1, by rw [if_pos (by omega)]; omega⟩
       | some l' =>
         rw [e0, e1] at hc
         have hc : (if l0.gen < l'.gen then some (1, l') else some (0, l0)) = some (a, c) := hc
         split at hc
         · injection hc with hc
           injection hc with h1 h2
           subst h1 h2
           obtain ⟨G, a1, a2⟩ := HG1.out _ e1
           exact ⟨G, a1, by rw [if_neg (by omega)]; omega⟩
         · injection hc with hc
           injection hc with h1 h2
           subst h1 h2
           obtain ⟨G, a1, a2⟩ := HG0.out _ e0
           exact ⟨G, a1, by rw [if_pos (by omega)]; omega⟩
    obtain ⟨G, hG1, hG2⟩ := hgood l HP.out
    have HGa := Lib.hid hG1
    have HGb := Lib.hid hG2
    clear hgood hG1 hG2 HF HG0 HG1 HP hR0 hR1 Hg0 HAL HgL
    rcases hfin with ⟨rfl, rfl, rfl⟩ | ⟨rfl, rfl, rfl⟩
    · skip
      have h8 := H80.out
      have hle := (HII.out).log.len
      have hb0 : 0 ≤ l.base := by have := (HII.out).log.eb; have e : (opnS (x0, x1) (y0, y1) 0 l).log.base = l.base := rfl; rw [e] at this; omega
      have hb1 : l.base ≤ 2147483647 := by have h1 := (HII.out).log.eb; have h2 := (HII.out).log.hd.b; have e : (opnS (x0, x1) (y0, y1) 0 l).log.base = l.base := rfl; rw [e] at h1; omega
      have hle2 : l.revs.length ≤ 64 := hle
      have htx : txE l.text l.revs = 0 := (HII.out).log.txe
      have H8 := Lib.hid h8
      have HLE := Lib.hid hle2
      have HB0 := Lib.hid hb0
      have HB1 := Lib.hid hb1
      have HTX := Lib.hid htx
      clear h8 hle hb0 hb1 hle2 htx
      go_upto_region 17 with (fail)
      obtain ⟨W0, hW0⟩ : ∃ W0, W0 = wr := ⟨_, rfl⟩
      refine wp_region_held (S := fun w' => Below wr.heap.size wr w') (by kernel_rfl) ?_
      have hS : Below wr.heap.size wr wr.drew := Below.drew (Below.refl _ _)
      change wpAnyH _ _ _ _ _ _ _ _ wr.drew
      refine tkZ 54 0 rfl rfl (.agg #[.string x0, .int .i64 x1, .string y0, .int .i64 y1]) (.inl ⟨rfl, fun w' h' => exec_load_blk _ _ rfl gz rfl _ (disk_row (HK.out.below h' HK.out.lt) rfl)⟩) hS ?_
      simp only [Act.put, zA, zB, zC]
      refine tkZ 55 1 rfl rfl (.int .i64 0) (.inl ⟨rfl, fun w' h' => by go_simp⟩) hS ?_
      simp only [Act.put, zA, zB, zC]
      refine tkZ 56 2 rfl rfl (.int .i64 0) (.inl ⟨rfl, fun w' h' => by go_simp⟩) hS ?_
      simp only [Act.put, zA, zB, zC]
      refine tkZ 57 3 rfl rfl (.pointer (some ⟨gl, 0, none⟩)) (.inl ⟨rfl, fun w' h' => by go_simp⟩) hS ?_
      simp only [Act.put, zA, zB, zC]
      refine tkZ 58 4 rfl rfl (.agg (lgl l s0).toArray) (yieldsIf_load_mid rfl _ (.tmp 57) rfl gl 0 rfl (lgl l s0) _ (fun w' h' => (HLB.out.below h' HLB.out.lt).range (fun j v hj => lgl_at0 c1 s1 H8.out j v hj)) Try.underlying131 rfl (log_info_lgl H8.out)) hS ?_
      simp only [Act.put, zA, zB, zC]
      refine tkZ 59 5 rfl rfl (.agg (shc (shO x0 x1 y0 y1 0 l) s0 none)) (.inl ⟨rfl, fun w' h' => exec_build _ _ rfl [(0, .agg #[.string x0, .int .i64 x1, .string y0, .int .i64 y1]), (1, .int .i64 0), (2, .agg (lgl l s0).toArray)] (by go_simp) _ (built_shopO x0 x1 y0 y1 0 l s0 H8.out)⟩) hS ?_
      simp only [Act.put, zA, zB, zC]
      refine wpAnyH_all (rs := [6]) (by kernel_rfl) (List.cons_ne_nil _ _) (fun i6 hi6 => ?_)
      obtain rfl := List.mem_singleton.1 hi6
      refine wpOp_boxTo 60 rfl rfl rfl 134 (.tmp 59) rfl (shc (shO x0 x1 y0 y1 0 l) s0 none) rfl ?_
      simp only [Act.put, zA, zB, zC]
      have kq := Blk.new wr.drew 134 (shc (shO x0 x1 y0 y1 0 l) s0 none)
      have hS2 := hS.alloc hS.size (.cells (shc (shO x0 x1 y0 y1 0 l) s0 none) 134)
      refine ⟨hS2, ?_⟩
      refine tkZ 11 7 rfl rfl (.pointer (some ⟨wr.drew.heap.size, 0, none⟩)) (.inl ⟨rfl, fun w' h' => by go_simp⟩) hS2 ?_
      simp only [Act.put, zA, zB, zC]
      refine wpAnyH_done (by kernel_rfl) ?_ _
      obtain ⟨q, hq⟩ : ∃ q, wr.drew.heap.size = q := ⟨_, rfl⟩
      obtain ⟨W1, hW1⟩ : ∃ W1, wr.drew.alloc (.cells (shc (shO x0 x1 y0 y1 0 l) s0 none) 134) = W1 := ⟨_, rfl⟩
      rw [hq] at kq ⊢
      rw [hW1] at kq hS2 ⊢
      have hqB : w.heap.size ≤ q := by rw [← hq]; exact HB.out.size
      have HV := Lib.hid (HO0.out.below hS2)
      have HBW := Lib.hid (HB.out.trans (hS2.mono HB.out.size))
      have HQB := Lib.hid hqB
      clear hS hS2 hW1 hq hW0 HK HLB HO0 HO1 HB hqB
      have HKQ := Lib.hid kq
      clear kq
      have q42 : W1.cell? ⟨q, 42, none⟩ = some (.int .i64 l.good) := (HKQ.out.cell 42).trans ((shc_log 37 (by decide) H8.out).trans (lgc_good H8.out))
      rw [HGa.out] at q42
      have lq := HKQ.out.lt
      have hd0 := HC.out
      have hdt := dchk_trim (s := (shO x0 x1 y0 y1 0 l)) hd0 0 G (by have := HGb.out; exact this)
      have hct : Calls Try.prog 89 #[.pointer (some ⟨q, 0, none⟩), .int .i64 0, .int .i64 G] W1 fun e w' => e = .returned (.tuple #[]) ∧ Blk w' q 134 (shc (trimSh (shO x0 x1 y0 y1 0 l) (0 : Nat) G) s0 none) ∧ Only W1 w' (fun k => k = q) := strim_any q (shO x0 x1 y0 y1 0 l) s0 none (0 : Nat) G W1 HKQ.out (look_dc hd0 0 (by omega)) (by have := HGb.out; exact this)
      have HCT := Lib.hid hct
      have HDT := Lib.hid hdt
      clear hct hdt hd0
      go_wp2_with fail
      refine HCT.out.mono ?_
      rintro e W2 ⟨rfl, k2, o2⟩
      have HV2 := Lib.hid (HV.out.box HKQ.out (by decide) (by decide) o2)
      have HBW2 := Lib.hid (HBW.out.trans (o2.below (B := w.heap.size) HBW.out.size (fun k hk => by rw [hk]; exact HQB.out)))
      clear q42 lq HCT HV HBW HKQ o2
      obtain ⟨S1, hS1⟩ : ∃ S1, trimSh (shO x0 x1 y0 y1 0 l) (0 : Nat) G = S1 := ⟨_, rfl⟩
      have hl1 : S1.log = l := by rw [← hS1]; rfl
      have ha1 : S1.at_ = 0 := by rw [← hS1]; rfl
      rw [hS1] at k2
      have HDT2 := HDT
      have HS1 := Lib.hid hS1
      have HL1 := Lib.hid hl1
      have HA1 := Lib.hid ha1
      have HK2 := Lib.hid k2
      have hd1 : dchk S1.d0 S1.d1 = 0 := by rw [← hS1]; exact HDT.out
      have hdt := dchk_trim (s := S1) hd1 1 0 (by omega)
      have hct : Calls Try.prog 89 #[.pointer (some ⟨q, 0, none⟩), .int .i64 1, .int .i64 0] W2 fun e w' => e = .returned (.tuple #[]) ∧ Blk w' q 134 (shc (trimSh S1 (1 : Nat) (0 : Nat)) s0 none) ∧ Only W2 w' (fun k => k = q) := strim_any q S1 s0 none (1 : Nat) 0 W2 k2 (look_dc hd1 1 (by omega)) (by omega)
      have HCT := Lib.hid hct
      have HDT := Lib.hid hdt
      clear hct hdt hd1 hS1 hl1 ha1 k2 HDT2
      go_wp2_with fail
      refine HCT.out.mono ?_
      rintro e W3 ⟨rfl, k3, o3⟩
      have HV3 := Lib.hid (HV2.out.box HK2.out (by decide) (by decide) o3)
      have HBW3 := Lib.hid (HBW2.out.trans (o3.below (B := w.heap.size) HBW2.out.size (fun k hk => by rw [hk]; exact HQB.out)))
      clear HCT HV2 HBW2 HK2 o3
      obtain ⟨S2, hS2⟩ : ∃ S2, trimSh S1 (1 : Nat) (0 : Nat) = S2 := ⟨_, rfl⟩
      have hl2 : S2.log = l := by rw [← hS2]; exact HL1.out
      rw [hS2] at k3
      have hd2 : dchk S2.d0 S2.d1 = 0 := by rw [← hS2]; exact HDT.out
      have hct : Calls Try.prog 84 #[.pointer (some ⟨q, 0, none⟩), .int .i64 0] W3 fun e w' => e = .returned (.tuple #[]) ∧ Blk w' q 134 (shc (syncSh S2 (0 : Nat)) s0 none) ∧ Only W3 w' (fun k => k = q) := ssync_any q S2 s0 none (0 : Nat) W3 k3 (look_dc hd2 0 (by omega))
      have HCT := Lib.hid hct
      have HS2 := Lib.hid hS2
      have HL2 := Lib.hid hl2
      have HK3 := Lib.hid k3
      clear hct hd2 hS2 hl2 k3 HDT
      go_wp2_with fail
      refine HCT.out.mono ?_
      rintro e W4 ⟨rfl, k4, o4⟩
      have HV4 := Lib.hid (HV3.out.box HK3.out (by decide) (by decide) o4)
      have HBW4 := Lib.hid (HBW3.out.trans (o4.below (B := w.heap.size) HBW3.out.size (fun k hk => by rw [hk]; exact HQB.out)))
      clear HCT HV3 HBW3 HK3 o4
      obtain ⟨S3, hS3⟩ : ∃ S3, syncSh S2 (0 : Nat) = S3 := ⟨_, rfl⟩
      have hl3 : S3.log = l := by rw [← hS3]; exact HL2.out
      rw [hS3] at k4
      have HS3 := Lib.hid hS3
      have HL3 := Lib.hid hl3
      have HK4 := Lib.hid k4
      have h83 : Lg8 S3.log := by rw [hl3]; exact H8.out
      have H83 := Lib.hid h83
      clear hS3 hl3 k4 h83
      have hln : s0.2.1 = l.revs.length := by obtain ⟨A9, c9, e9⟩ := HV4.out.form; injection e9
      have HLN := Lib.hid hln
      clear hln
      go_upto_region 21 with (fail)
      refine wp_region_held (S := fun w' => (∃ X, Blk w' q 134 (shc { S3 with text := X } s0 none)) ∧ Below w.heap.size W4 w') (by kernel_rfl) ?_
      have hS : (∃ X, Blk W4.drew q 134 (shc { S3 with text := X } s0 none)) ∧ Below w.heap.size W4 W4.drew := ⟨⟨S3.text, HK4.out.drew⟩, Below.drew (Below.refl _ _)⟩
      change wpAnyH _ _ _ _ _ _ _ _ W4.drew
      refine tkZ 77 0 rfl rfl (.pointer (some ⟨q, 0, none⟩)) (.inl ⟨rfl, fun w' h' => by go_simp⟩) hS ?_
      simp only [Act.put, zA, zB, zC]
      refine tkZ 78 1 rfl rfl (.pointer (some ⟨q, 0, none⟩)) (.inl ⟨rfl, fun w' h' => by go_simp⟩) hS ?_
      simp only [Act.put, zA, zB, zC]
      refine tkZ 79 2 rfl rfl (.pointer (some ⟨q, 0, none⟩)) (.inl ⟨rfl, fun w' h' => by go_simp⟩) hS ?_
      simp only [Act.put, zA, zB, zC]
      refine tkZ 80 3 rfl rfl (.pointer (some ⟨q, 5, none⟩)) (.inl ⟨rfl, fun w' h' => by go_simp⟩) hS ?_
      simp only [Act.put, zA, zB, zC]
      refine tkZ 81 4 rfl rfl (.pointer (some ⟨q, 7, none⟩)) (.inl ⟨rfl, fun w' h' => by go_simp⟩) hS ?_
      simp only [Act.put, zA, zB, zC]
      refine tkZ 82 5 rfl rfl (.string l.text) (.inl ⟨rfl, fun w' h' => by obtain ⟨⟨X, hX⟩, -⟩ := h'; have h2 := (hX.cell 7).trans ((shc_ltext (s := { S3 with text := X }) H83.out).trans (by show some (Value.string S3.log.text) = some (.string l.text); rw [HL3.out])); go_simp⟩) hS ?_
      simp only [Act.put, zA, zB, zC]
      refine tkZ 83 6 rfl rfl (.pointer (some ⟨q, 0, none⟩)) (.inl ⟨rfl, fun w' h' => by go_simp⟩) hS ?_
      simp only [Act.put, zA, zB, zC]
      refine tkZ 84 7 rfl rfl (.pointer (some ⟨q, 0, none⟩)) (.inl ⟨rfl, fun w' h' => by go_simp⟩) hS ?_
      simp only [Act.put, zA, zB, zC]
      refine tkZ 85 8 rfl rfl (.pointer (some ⟨q, 5, none⟩)) (.inl ⟨rfl, fun w' h' => by go_simp⟩) hS ?_
      simp only [Act.put, zA, zB, zC]
      refine tkZ 86 9 rfl rfl (.pointer (some ⟨q, 40, none⟩)) (.inl ⟨rfl, fun w' h' => by go_simp⟩) hS ?_
      simp only [Act.put, zA, zB, zC]
      refine tkZ 87 10 rfl rfl (.slice s0.1 s0.2.1 s0.2.2) (.inl ⟨rfl, fun w' h' => by obtain ⟨⟨X, hX⟩, -⟩ := h'; have h2 := (hX.cell 40).trans (shc_revs (s := { S3 with text := X }) H83.out); go_simp⟩) hS ?_
      simp only [Act.put, zA, zB, zC]
      refine tkZ 88 11 rfl rfl (.pointer (some ⟨q, 0, none⟩)) (.inl ⟨rfl, fun w' h' => by go_simp⟩) hS ?_
      simp only [Act.put, zA, zB, zC]
      refine tkZ 89 12 rfl rfl (.pointer (some ⟨q, 0, none⟩)) (.inl ⟨rfl, fun w' h' => by go_simp⟩) hS ?_
      simp only [Act.put, zA, zB, zC]
      refine tkZ 90 13 rfl rfl (.pointer (some ⟨q, 5, none⟩)) (.inl ⟨rfl, fun w' h' => by go_simp⟩) hS ?_
      simp only [Act.put, zA, zB, zC]
      refine tkZ 91 14 rfl rfl (.pointer (some ⟨q, 40, none⟩)) (.inl ⟨rfl, fun w' h' => by go_simp⟩) hS ?_
      simp only [Act.put, zA, zB, zC]
      refine tkZ 92 15 rfl rfl (.slice s0.1 s0.2.1 s0.2.2) (.inl ⟨rfl, fun w' h' => by obtain ⟨⟨X, hX⟩, -⟩ := h'; have h2 := (hX.cell 40).trans (shc_revs (s := { S3 with text := X }) H83.out); go_simp⟩) hS ?_
      simp only [Act.put, zA, zB, zC]
      refine tkZ 93 16 rfl rfl (.int .i64 s0.2.1) (.inl ⟨rfl, fun w' h' => by go_simp⟩) hS ?_
      simp only [Act.put, zA, zB, zC]
      have hbd : Below W4.heap.size W4 W4.drew := Below.drew (Below.refl _ _)
      have hrt := rtext_good l.text l.revs s0.1 s0.2.1 s0.2.2 W4.drew.heap.size s0.2.1 W4.drew (HV4.out.below hbd).rd (Nat.le_refl _) HTX.out (by rw [HLN.out]; exact Nat.le_refl _)
      rw [show txt l.text l.revs s0.2.1 = txt l.text l.revs l.revs.length by rw [HLN.out]] at hrt
      obtain ⟨TX, hTXx⟩ : ∃ TX, txt l.text l.revs l.revs.length = TX := ⟨_, rfl⟩
      rw [hTXx] at hrt
      refine wpAnyH_all (rs := [17]) (by kernel_rfl) (List.cons_ne_nil _ _) (fun i17 hi17 => ?_)
      obtain rfl := List.mem_singleton.1 hi17
      refine wpOp_enter 94 rfl rfl rfl 17 #[.string l.text, .slice s0.1 s0.2.1 s0.2.2, .int .i64 s0.2.1] (by go_simp) (.tuple #[.string TX, .int .i64 0]) (fun w' => Below W4.drew.heap.size W4.drew w') hrt ?_
      intro wo hvo
      simp only [Act.put, zA, zB, zC]
      have hvo2 : Below W4.heap.size W4 wo := hbd.trans hvo
      have hko := HK4.out.below hvo2 HK4.out.lt
      have HVo := Lib.hid (HV4.out.below hvo2)
      have HBo := Lib.hid (HBW4.out.trans (hvo2.mono HBW4.out.size))
      have hSo : (∃ X, Blk wo q 134 (shc { S3 with text := X } s0 none)) ∧ Below w.heap.size W4 wo := ⟨⟨S3.text, hko⟩, hvo2.mono HBW4.out.size⟩
      clear hvo hrt hS hbd
      refine ⟨hSo, ?_⟩
      refine tkZ 76 18 rfl rfl (.tuple #[.string TX, .int .i64 0]) (.inl ⟨rfl, fun w' h' => by go_simp⟩) hSo ?_
      simp only [Act.put, zA, zB, zC]
      refine tkZ 95 19 rfl rfl (.string TX) (.inl ⟨rfl, fun w' h' => by go_simp⟩) hSo ?_
      simp only [Act.put, zA, zB, zC]
      refine tkZ 96 20 rfl rfl (.int .i64 0) (.inl ⟨rfl, fun w' h' => by go_simp⟩) hSo ?_
      simp only [Act.put, zA, zB, zC]
      refine tkZ 97 21 rfl rfl (.pointer (some ⟨q, 0, none⟩)) (.inl ⟨rfl, fun w' h' => by go_simp⟩) hSo ?_
      simp only [Act.put, zA, zB, zC]
      refine tkZ 98 22 rfl rfl (.pointer (some ⟨q, 43, none⟩)) (.inl ⟨rfl, fun w' h' => by go_simp⟩) hSo ?_
      simp only [Act.put, zA, zB, zC]
      refine wpAnyH_all (rs := [23]) (by kernel_rfl) (List.cons_ne_nil _ _) (fun i23 hi23 => ?_)
      obtain rfl := List.mem_singleton.1 hi23
      obtain ⟨T3, hT3⟩ : ∃ T3, S3.text = T3 := ⟨_, rfl⟩
      have c43 := (hko.cell 43).trans (shc_text H83.out)
      rw [hT3] at c43
      have f43 := hko.frozen 43
      have l43 := hko.lt
      have HKo := Lib.hid hko
      have HvO := Lib.hid hvo2
      clear hT3 hko hvo2 hSo
      refine wpOp_at rfl rfl ?_
      unfold Oper.wp
      go_simp
      have k5 := HKo.out.set_ 43 (.string TX)
      rw [shc_settext S3 s0 none TX H83.out] at k5
      have ho5 := Only.setSelf wo q 43 (.string TX)
      have HV5 := Lib.hid (HVo.out.box HKo.out (by decide) (by decide) ho5)
      have HB5 := Lib.hid (HBo.out.trans (ho5.below (B := w.heap.size) HBo.out.size (fun k hk => by rw [hk]; exact HQB.out)))
      refine ⟨⟨⟨TX, k5⟩, (HvO.out.mono HBW4.out.size).trans (ho5.below (B := w.heap.size) HBo.out.size (fun k hk => by rw [hk]; exact HQB.out))⟩, ?_⟩
      refine wpAnyH_done (by kernel_rfl) ?_ _
      clear c43 f43 l43 ho5 HVo HBo HKo HvO HV4 HBW4 HK4
      obtain ⟨W5, hW5⟩ : ∃ W5, wo.setCell ⟨q, 43, none⟩ (.string TX) = W5 := ⟨_, rfl⟩
      rw [hW5] at HV5 HB5 k5 ⊢
      clear hW5
      have hh := shead_any q { S3 with text := TX } s0 none W5 k5 H83.out (by show s0.2.1 = S3.log.revs.length; rw [HL3.out]; exact HLN.out) (by show 0 ≤ S3.log.base; rw [HL3.out]; exact HB0.out) (by show S3.log.base ≤ _; rw [HL3.out]; exact HB1.out) (by show S3.log.revs.length ≤ 1000; rw [HL3.out]; have := HLE.out; omega)
      rw [show (({ S3 with text := TX } : Sh).log.base + ({ S3 with text := TX } : Sh).log.revs.length : Int) = l.base + (l.revs.length : Int) by show (S3.log.base + S3.log.revs.length : Int) = _; rw [HL3.out]] at hh
      obtain ⟨HD, hHD⟩ : ∃ HD, l.base + (l.revs.length : Int) = HD := ⟨_, rfl⟩
      rw [hHD] at hh
      have Hh := Lib.hid hh
      have HHD := Lib.hid hHD
      have K5 := Lib.hid k5
      clear hh hHD k5
      go_wp2_with fail
      refine Hh.out.mono ?_
      rintro e W6 ⟨rfl, hb6⟩
      have k6 := K5.out.below hb6 K5.out.lt
      have HV6 := Lib.hid (HV5.out.below hb6)
      have HB6 := Lib.hid (HB5.out.trans (hb6.mono HB5.out.size))
      have s44 : W6.cell? ⟨q, 44, none⟩ = some (.int .i64 S3.safe) := (k6.cell 44).trans (shc_safe (s := { S3 with text := TX }) H83.out)
      have t44 := k6.frozen 44
      have lq9 := k6.lt
      have K6 := Lib.hid k6
      clear k6 hb6 Hh HV5 HB5 K5
      go_wp2_with fail
      go_ret2
      have k7 := K6.out.set_ 44 (.int .i64 HD)
      rw [shc_set44 { S3 with text := TX } s0 none _ H83.out] at k7
      have ho7 := Only.setSelf W6 q 44 (.int .i64 HD)
      have hv7 := HV6.out.box K6.out (by decide) (by decide) ho7
      have hb7 := HB6.out.trans (ho7.below (B := w.heap.size) HB6.out.size (fun k hk => by rw [hk]; exact HQB.out))
      have hfin : ({ ({ S3 with text := TX } : Sh) with safe := HD } : Sh) = opnS (x0, x1) (y0, y1) 0 l := by
       rw [← HHD.out, ← hTXx, ← HS3.out, ← HS2.out, ← HS1.out, ← HGa.out]
       rfl
      rw [hfin] at k7
      have hrv : (opnS (x0, x1) (y0, y1) 0 l).log.revs = l.revs := rfl
      refine ⟨q, rfl, ⟨b, tN, ⟨⟨HQB.out, ?_⟩, fun k hk => hk.2, ⟨s0, ss0, none, k7, (by rw [hrv]; exact hv7.base (Nat.zero_le _)), fun k hk => ⟨own_ge hv7.row k hk, own_lt hv7.row k hk⟩, ?_, rfl⟩⟩, HII.out⟩, hb7⟩
      · exact k7.lt
      · intro d hd k hk
        obtain ⟨j, hj, rfl⟩ := List.getElem_of_mem hd
        have := hv7.ds j (by rw [← hv7.len]; exact hj)
        exact ⟨own_ge this.1 k hk, own_lt this.1 k hk⟩
    · skip
      have h8 := H81.out
      have hle := (HII.out).log.len
      have hb0 : 0 ≤ l.base := by have := (HII.out).log.eb; have e : (opnS (x0, x1) (y0, y1) 1 l).log.base = l.base := rfl; rw [e] at this; omega
      have hb1 : l.base ≤ 2147483647 := by have h1 := (HII.out).log.eb; have h2 := (HII.out).log.hd.b; have e : (opnS (x0, x1) (y0, y1) 1 l).log.base = l.base := rfl; rw [e] at h1; omega
      have hle2 : l.revs.length ≤ 64 := hle
      have htx : txE l.text l.revs = 0 := (HII.out).log.txe
      have H8 := Lib.hid h8
      have HLE := Lib.hid hle2
      have HB0 := Lib.hid hb0
      have HB1 := Lib.hid hb1
      have HTX := Lib.hid htx
      clear h8 hle hb0 hb1 hle2 htx
      go_upto_region 17 with (fail)
      obtain ⟨W0, hW0⟩ : ∃ W0, W0 = wr := ⟨_, rfl⟩
      refine wp_region_held (S := fun w' => Below wr.heap.size wr w') (by kernel_rfl) ?_
      have hS : Below wr.heap.size wr wr.drew := Below.drew (Below.refl _ _)
      change wpAnyH _ _ _ _ _ _ _ _ wr.drew
      refine tkZ 54 0 rfl rfl (.agg #[.string x0, .int .i64 x1, .string y0, .int .i64 y1]) (.inl ⟨rfl, fun w' h' => exec_load_blk _ _ rfl gz rfl _ (disk_row (HK.out.below h' HK.out.lt) rfl)⟩) hS ?_
      simp only [Act.put, zA, zB, zC]
      refine tkZ 55 1 rfl rfl (.int .i64 1) (.inl ⟨rfl, fun w' h' => by go_simp⟩) hS ?_
      simp only [Act.put, zA, zB, zC]
      refine tkZ 56 2 rfl rfl (.int .i64 1) (.inl ⟨rfl, fun w' h' => by go_simp⟩) hS ?_
      simp only [Act.put, zA, zB, zC]
      refine tkZ 57 3 rfl rfl (.pointer (some ⟨gl, 38, none⟩)) (.inl ⟨rfl, fun w' h' => by go_simp⟩) hS ?_
      simp only [Act.put, zA, zB, zC]
      refine tkZ 58 4 rfl rfl (.agg (lgl l s1).toArray) (yieldsIf_load_mid rfl _ (.tmp 57) rfl gl 38 rfl (lgl l s1) _ (fun w' h' => (HLB.out.below h' HLB.out.lt).range (fun j v hj => lgl_at1 c0 s0 H80.out j v hj)) Try.underlying131 rfl (log_info_lgl H8.out)) hS ?_
      simp only [Act.put, zA, zB, zC]
      refine tkZ 59 5 rfl rfl (.agg (shc (shO x0 x1 y0 y1 1 l) s1 none)) (.inl ⟨rfl, fun w' h' => exec_build _ _ rfl [(0, .agg #[.string x0, .int .i64 x1, .string y0, .int .i64 y1]), (1, .int .i64 1), (2, .agg (lgl l s1).toArray)] (by go_simp) _ (built_shopO x0 x1 y0 y1 1 l s1 H8.out)⟩) hS ?_
      simp only [Act.put, zA, zB, zC]
      refine wpAnyH_all (rs := [6]) (by kernel_rfl) (List.cons_ne_nil _ _) (fun i6 hi6 => ?_)
      obtain rfl := List.mem_singleton.1 hi6
      refine wpOp_boxTo 60 rfl rfl rfl 134 (.tmp 59) rfl (shc (shO x0 x1 y0 y1 1 l) s1 none) rfl ?_
      simp only [Act.put, zA, zB, zC]
      have kq := Blk.new wr.drew 134 (shc (shO x0 x1 y0 y1 1 l) s1 none)
      have hS2 := hS.alloc hS.size (.cells (shc (shO x0 x1 y0 y1 1 l) s1 none) 134)
      refine ⟨hS2, ?_⟩
      refine tkZ 11 7 rfl rfl (.pointer (some ⟨wr.drew.heap.size, 0, none⟩)) (.inl ⟨rfl, fun w' h' => by go_simp⟩) hS2 ?_
      simp only [Act.put, zA, zB, zC]
      refine wpAnyH_done (by kernel_rfl) ?_ _
      obtain ⟨q, hq⟩ : ∃ q, wr.drew.heap.size = q := ⟨_, rfl⟩
      obtain ⟨W1, hW1⟩ : ∃ W1, wr.drew.alloc (.cells (shc (shO x0 x1 y0 y1 1 l) s1 none) 134) = W1 := ⟨_, rfl⟩
      rw [hq] at kq ⊢
      rw [hW1] at kq hS2 ⊢
      have hqB : w.heap.size ≤ q := by rw [← hq]; exact HB.out.size
      have HV := Lib.hid (HO1.out.below hS2)
      have HBW := Lib.hid (HB.out.trans (hS2.mono HB.out.size))
      have HQB := Lib.hid hqB
      clear hS hS2 hW1 hq hW0 HK HLB HO0 HO1 HB hqB
      have HKQ := Lib.hid kq
      clear kq
      have q42 : W1.cell? ⟨q, 42, none⟩ = some (.int .i64 l.good) := (HKQ.out.cell 42).trans ((shc_log 37 (by decide) H8.out).trans (lgc_good H8.out))
      rw [HGa.out] at q42
      have lq := HKQ.out.lt
      have hd0 := HC.out
      have hdt := dchk_trim (s := (shO x0 x1 y0 y1 1 l)) hd0 1 G (by have := HGb.out; exact this)
      have hct : Calls Try.prog 89 #[.pointer (some ⟨q, 0, none⟩), .int .i64 1, .int .i64 G] W1 fun e w' => e = .returned (.tuple #[]) ∧ Blk w' q 134 (shc (trimSh (shO x0 x1 y0 y1 1 l) (1 : Nat) G) s1 none) ∧ Only W1 w' (fun k => k = q) := strim_any q (shO x0 x1 y0 y1 1 l) s1 none (1 : Nat) G W1 HKQ.out (look_dc hd0 1 (by omega)) (by have := HGb.out; exact this)
      have HCT := Lib.hid hct
      have HDT := Lib.hid hdt
      clear hct hdt hd0
      go_wp2_with fail
      refine HCT.out.mono ?_
      rintro e W2 ⟨rfl, k2, o2⟩
      have HV2 := Lib.hid (HV.out.box HKQ.out (by decide) (by decide) o2)
      have HBW2 := Lib.hid (HBW.out.trans (o2.below (B := w.heap.size) HBW.out.size (fun k hk => by rw [hk]; exact HQB.out)))
      clear q42 lq HCT HV HBW HKQ o2
      obtain ⟨S1, hS1⟩ : ∃ S1, trimSh (shO x0 x1 y0 y1 1 l) (1 : Nat) G = S1 := ⟨_, rfl⟩
      have hl1 : S1.log = l := by rw [← hS1]; rfl
      have ha1 : S1.at_ = 1 := by rw [← hS1]; rfl
      rw [hS1] at k2
      have HDT2 := HDT
      have HS1 := Lib.hid hS1
      have HL1 := Lib.hid hl1
      have HA1 := Lib.hid ha1
      have HK2 := Lib.hid k2
      have hd1 : dchk S1.d0 S1.d1 = 0 := by rw [← hS1]; exact HDT.out
      have hdt := dchk_trim (s := S1) hd1 0 0 (by omega)
      have hct : Calls Try.prog 89 #[.pointer (some ⟨q, 0, none⟩), .int .i64 0, .int .i64 0] W2 fun e w' => e = .returned (.tuple #[]) ∧ Blk w' q 134 (shc (trimSh S1 (0 : Nat) (0 : Nat)) s1 none) ∧ Only W2 w' (fun k => k = q) := strim_any q S1 s1 none (0 : Nat) 0 W2 k2 (look_dc hd1 0 (by omega)) (by omega)
      have HCT := Lib.hid hct
      have HDT := Lib.hid hdt
      clear hct hdt hd1 hS1 hl1 ha1 k2 HDT2
      go_wp2_with fail
      refine HCT.out.mono ?_
      rintro e W3 ⟨rfl, k3, o3⟩
      have HV3 := Lib.hid (HV2.out.box HK2.out (by decide) (by decide) o3)
      have HBW3 := Lib.hid (HBW2.out.trans (o3.below (B := w.heap.size) HBW2.out.size (fun k hk => by rw [hk]; exact HQB.out)))
      clear HCT HV2 HBW2 HK2 o3
      obtain ⟨S2, hS2⟩ : ∃ S2, trimSh S1 (0 : Nat) (0 : Nat) = S2 := ⟨_, rfl⟩
      have hl2 : S2.log = l := by rw [← hS2]; exact HL1.out
      rw [hS2] at k3
      have hd2 : dchk S2.d0 S2.d1 = 0 := by rw [← hS2]; exact HDT.out
      have hct : Calls Try.prog 84 #[.pointer (some ⟨q, 0, none⟩), .int .i64 1] W3 fun e w' => e = .returned (.tuple #[]) ∧ Blk w' q 134 (shc (syncSh S2 (1 : Nat)) s1 none) ∧ Only W3 w' (fun k => k = q) := ssync_any q S2 s1 none (1 : Nat) W3 k3 (look_dc hd2 1 (by omega))
      have HCT := Lib.hid hct
      have HS2 := Lib.hid hS2
      have HL2 := Lib.hid hl2
      have HK3 := Lib.hid k3
      clear hct hd2 hS2 hl2 k3 HDT
      go_wp2_with fail
      refine HCT.out.mono ?_
      rintro e W4 ⟨rfl, k4, o4⟩
      have HV4 := Lib.hid (HV3.out.box HK3.out (by decide) (by decide) o4)
      have HBW4 := Lib.hid (HBW3.out.trans (o4.below (B := w.heap.size) HBW3.out.size (fun k hk => by rw [hk]; exact HQB.out)))
      clear HCT HV3 HBW3 HK3 o4
      obtain ⟨S3, hS3⟩ : ∃ S3, syncSh S2 (1 : Nat) = S3 := ⟨_, rfl⟩
      have hl3 : S3.log = l := by rw [← hS3]; exact HL2.out
      rw [hS3] at k4
      have HS3 := Lib.hid hS3
      have HL3 := Lib.hid hl3
      have HK4 := Lib.hid k4
      have h83 : Lg8 S3.log := by rw [hl3]; exact H8.out
      have H83 := Lib.hid h83
      clear hS3 hl3 k4 h83
      have hln : s1.2.1 = l.revs.length := by obtain ⟨A9, c9, e9⟩ := HV4.out.form; injection e9
      have HLN := Lib.hid hln
      clear hln
      go_upto_region 21 with (fail)
      refine wp_region_held (S := fun w' => (∃ X, Blk w' q 134 (shc { S3 with text := X } s1 none)) ∧ Below w.heap.size W4 w') (by kernel_rfl) ?_
      have hS : (∃ X, Blk W4.drew q 134 (shc { S3 with text := X } s1 none)) ∧ Below w.heap.size W4 W4.drew := ⟨⟨S3.text, HK4.out.drew⟩, Below.drew (Below.refl _ _)⟩
      change wpAnyH _ _ _ _ _ _ _ _ W4.drew
      refine tkZ 77 0 rfl rfl (.pointer (some ⟨q, 0, none⟩)) (.inl ⟨rfl, fun w' h' => by go_simp⟩) hS ?_
      simp only [Act.put, zA, zB, zC]
      refine tkZ 78 1 rfl rfl (.pointer (some ⟨q, 0, none⟩)) (.inl ⟨rfl, fun w' h' => by go_simp⟩) hS ?_
      simp only [Act.put, zA, zB, zC]
      refine tkZ 79 2 rfl rfl (.pointer (some ⟨q, 0, none⟩)) (.inl ⟨rfl, fun w' h' => by go_simp⟩) hS ?_
      simp only [Act.put, zA, zB, zC]
      refine tkZ 80 3 rfl rfl (.pointer (some ⟨q, 5, none⟩)) (.inl ⟨rfl, fun w' h' => by go_simp⟩) hS ?_
      simp only [Act.put, zA, zB, zC]
      refine tkZ 81 4 rfl rfl (.pointer (some ⟨q, 7, none⟩)) (.inl ⟨rfl, fun w' h' => by go_simp⟩) hS ?_
      simp only [Act.put, zA, zB, zC]
      refine tkZ 82 5 rfl rfl (.string l.text) (.inl ⟨rfl, fun w' h' => by obtain ⟨⟨X, hX⟩, -⟩ := h'; have h2 := (hX.cell 7).trans ((shc_ltext (s := { S3 with text := X }) H83.out).trans (by show some (Value.string S3.log.text) = some (.string l.text); rw [HL3.out])); go_simp⟩) hS ?_
      simp only [Act.put, zA, zB, zC]
      refine tkZ 83 6 rfl rfl (.pointer (some ⟨q, 0, none⟩)) (.inl ⟨rfl, fun w' h' => by go_simp⟩) hS ?_
      simp only [Act.put, zA, zB, zC]
      refine tkZ 84 7 rfl rfl (.pointer (some ⟨q, 0, none⟩)) (.inl ⟨rfl, fun w' h' => by go_simp⟩) hS ?_
      simp only [Act.put, zA, zB, zC]
      refine tkZ 85 8 rfl rfl (.pointer (some ⟨q, 5, none⟩)) (.inl ⟨rfl, fun w' h' => by go_simp⟩) hS ?_
      simp only [Act.put, zA, zB, zC]
      refine tkZ 86 9 rfl rfl (.pointer (some ⟨q, 40, none⟩)) (.inl ⟨rfl, fun w' h' => by go_simp⟩) hS ?_
      simp only [Act.put, zA, zB, zC]
      refine tkZ 87 10 rfl rfl (.slice s1.1 s1.2.1 s1.2.2) (.inl ⟨rfl, fun w' h' => by obtain ⟨⟨X, hX⟩, -⟩ := h'; have h2 := (hX.cell 40).trans (shc_revs (s := { S3 with text := X }) H83.out); go_simp⟩) hS ?_
      simp only [Act.put, zA, zB, zC]
      refine tkZ 88 11 rfl rfl (.pointer (some ⟨q, 0, none⟩)) (.inl ⟨rfl, fun w' h' => by go_simp⟩) hS ?_
      simp only [Act.put, zA, zB, zC]
      refine tkZ 89 12 rfl rfl (.pointer (some ⟨q, 0, none⟩)) (.inl ⟨rfl, fun w' h' => by go_simp⟩) hS ?_
      simp only [Act.put, zA, zB, zC]
      refine tkZ 90 13 rfl rfl (.pointer (some ⟨q, 5, none⟩)) (.inl ⟨rfl, fun w' h' => by go_simp⟩) hS ?_
      simp only [Act.put, zA, zB, zC]
      refine tkZ 91 14 rfl rfl (.pointer (some ⟨q, 40, none⟩)) (.inl ⟨rfl, fun w' h' => by go_simp⟩) hS ?_
      simp only [Act.put, zA, zB, zC]
      refine tkZ 92 15 rfl rfl (.slice s1.1 s1.2.1 s1.2.2) (.inl ⟨rfl, fun w' h' => by obtain ⟨⟨X, hX⟩, -⟩ := h'; have h2 := (hX.cell 40).trans (shc_revs (s := { S3 with text := X }) H83.out); go_simp⟩) hS ?_
      simp only [Act.put, zA, zB, zC]
      refine tkZ 93 16 rfl rfl (.int .i64 s1.2.1) (.inl ⟨rfl, fun w' h' => by go_simp⟩) hS ?_
      simp only [Act.put, zA, zB, zC]
      have hbd : Below W4.heap.size W4 W4.drew := Below.drew (Below.refl _ _)
      have hrt := rtext_good l.text l.revs s1.1 s1.2.1 s1.2.2 W4.drew.heap.size s1.2.1 W4.drew (HV4.out.below hbd).rd (Nat.le_refl _) HTX.out (by rw [HLN.out]; exact Nat.le_refl _)
      rw [show txt l.text l.revs s1.2.1 = txt l.text l.revs l.revs.length by rw [HLN.out]] at hrt
      obtain ⟨TX, hTXx⟩ : ∃ TX, txt l.text l.revs l.revs.length = TX := ⟨_, rfl⟩
      rw [hTXx] at hrt
      refine wpAnyH_all (rs := [17]) (by kernel_rfl) (List.cons_ne_nil _ _) (fun i17 hi17 => ?_)
      obtain rfl := List.mem_singleton.1 hi17
      refine wpOp_enter 94 rfl rfl rfl 17 #[.string l.text, .slice s1.1 s1.2.1 s1.2.2, .int .i64 s1.2.1] (by go_simp) (.tuple #[.string TX, .int .i64 0]) (fun w' => Below W4.drew.heap.size W4.drew w') hrt ?_
      intro wo hvo
      simp only [Act.put, zA, zB, zC]
      have hvo2 : Below W4.heap.size W4 wo := hbd.trans hvo
      have hko := HK4.out.below hvo2 HK4.out.lt
      have HVo := Lib.hid (HV4.out.below hvo2)
      have HBo := Lib.hid (HBW4.out.trans (hvo2.mono HBW4.out.size))
      have hSo : (∃ X, Blk wo q 134 (shc { S3 with text := X } s1 none)) ∧ Below w.heap.size W4 wo := ⟨⟨S3.text, hko⟩, hvo2.mono HBW4.out.size⟩
      clear hvo hrt hS hbd
      refine ⟨hSo, ?_⟩
      refine tkZ 76 18 rfl rfl (.tuple #[.string TX, .int .i64 0]) (.inl ⟨rfl, fun w' h' => by go_simp⟩) hSo ?_
      simp only [Act.put, zA, zB, zC]
      refine tkZ 95 19 rfl rfl (.string TX) (.inl ⟨rfl, fun w' h' => by go_simp⟩) hSo ?_
      simp only [Act.put, zA, zB, zC]
      refine tkZ 96 20 rfl rfl (.int .i64 0) (.inl ⟨rfl, fun w' h' => by go_simp⟩) hSo ?_
      simp only [Act.put, zA, zB, zC]
      refine tkZ 97 21 rfl rfl (.pointer (some ⟨q, 0, none⟩)) (.inl ⟨rfl, fun w' h' => by go_simp⟩) hSo ?_
      simp only [Act.put, zA, zB, zC]
      refine tkZ 98 22 rfl rfl (.pointer (some ⟨q, 43, none⟩)) (.inl ⟨rfl, fun w' h' => by go_simp⟩) hSo ?_
      simp only [Act.put, zA, zB, zC]
      refine wpAnyH_all (rs := [23]) (by kernel_rfl) (List.cons_ne_nil _ _) (fun i23 hi23 => ?_)
      obtain rfl := List.mem_singleton.1 hi23
      obtain ⟨T3, hT3⟩ : ∃ T3, S3.text = T3 := ⟨_, rfl⟩
      have c43 := (hko.cell 43).trans (shc_text H83.out)
      rw [hT3] at c43
      have f43 := hko.frozen 43
      have l43 := hko.lt
      have HKo := Lib.hid hko
      have HvO := Lib.hid hvo2
      clear hT3 hko hvo2 hSo
      refine wpOp_at rfl rfl ?_
      unfold Oper.wp
      go_simp
      have k5 := HKo.out.set_ 43 (.string TX)
      rw [shc_settext S3 s1 none TX H83.out] at k5
      have ho5 := Only.setSelf wo q 43 (.string TX)
      have HV5 := Lib.hid (HVo.out.box HKo.out (by decide) (by decide) ho5)
      have HB5 := Lib.hid (HBo.out.trans (ho5.below (B := w.heap.size) HBo.out.size (fun k hk => by rw [hk]; exact HQB.out)))
      refine ⟨⟨⟨TX, k5⟩, (HvO.out.mono HBW4.out.size).trans (ho5.below (B := w.heap.size) HBo.out.size (fun k hk => by rw [hk]; exact HQB.out))⟩, ?_⟩
      refine wpAnyH_done (by kernel_rfl) ?_ _
      clear c43 f43 l43 ho5 HVo HBo HKo HvO HV4 HBW4 HK4
      obtain ⟨W5, hW5⟩ : ∃ W5, wo.setCell ⟨q, 43, none⟩ (.string TX) = W5 := ⟨_, rfl⟩
      rw [hW5] at HV5 HB5 k5 ⊢
      clear hW5
      have hh := shead_any q { S3 with text := TX } s1 none W5 k5 H83.out (by show s1.2.1 = S3.log.revs.length; rw [HL3.out]; exact HLN.out) (by show 0 ≤ S3.log.base; rw [HL3.out]; exact HB0.out) (by show S3.log.base ≤ _; rw [HL3.out]; exact HB1.out) (by show S3.log.revs.length ≤ 1000; rw [HL3.out]; have := HLE.out; omega)
      rw [show (({ S3 with text := TX } : Sh).log.base + ({ S3 with text := TX } : Sh).log.revs.length : Int) = l.base + (l.revs.length : Int) by show (S3.log.base + S3.log.revs.length : Int) = _; rw [HL3.out]] at hh
      obtain ⟨HD, hHD⟩ : ∃ HD, l.base + (l.revs.length : Int) = HD := ⟨_, rfl⟩
      rw [hHD] at hh
      have Hh := Lib.hid hh
      have HHD := Lib.hid hHD
      have K5 := Lib.hid k5
      clear hh hHD k5
      go_wp2_with fail
      refine Hh.out.mono ?_
      rintro e W6 ⟨rfl, hb6⟩
      have k6 := K5.out.below hb6 K5.out.lt
      have HV6 := Lib.hid (HV5.out.below hb6)
      have HB6 := Lib.hid (HB5.out.trans (hb6.mono HB5.out.size))
      have s44 : W6.cell? ⟨q, 44, none⟩ = some (.int .i64 S3.safe) := (k6.cell 44).trans (shc_safe (s := { S3 with text := TX }) H83.out)
      have t44 := k6.frozen 44
      have lq9 := k6.lt
      have K6 := Lib.hid k6
      clear k6 hb6 Hh HV5 HB5 K5
      go_wp2_with fail
      go_ret2
      have k7 := K6.out.set_ 44 (.int .i64 HD)
      rw [shc_set44 { S3 with text := TX } s1 none _ H83.out] at k7
      have ho7 := Only.setSelf W6 q 44 (.int .i64 HD)
      have hv7 := HV6.out.box K6.out (by decide) (by decide) ho7
      have hb7 := HB6.out.trans (ho7.below (B := w.heap.size) HB6.out.size (fun k hk => by rw [hk]; exact HQB.out))
      have hfin : ({ ({ S3 with text := TX } : Sh) with safe := HD } : Sh) = opnS (x0, x1) (y0, y1) 1 l := by
       rw [← HHD.out, ← hTXx, ← HS3.out, ← HS2.out, ← HS1.out, ← HGa.out]
       rfl
      rw [hfin] at k7
      have hrv : (opnS (x0, x1) (y0, y1) 1 l).log.revs = l.revs := rfl
      refine ⟨q, rfl, ⟨b, tN, ⟨⟨HQB.out, ?_⟩, fun k hk => hk.2, ⟨s1, ss1, none, k7, (by rw [hrv]; exact hv7.base (Nat.zero_le _)), fun k hk => ⟨own_ge hv7.row k hk, own_lt hv7.row k hk⟩, ?_, rfl⟩⟩, HII.out⟩, hb7⟩
      · exact k7.lt
      · intro d hd k hk
        obtain ⟨j, hj, rfl⟩ := List.getElem_of_mem hd
        have := hv7.ds j (by rw [← hv7.len]; exact hj)
        exact ⟨own_ge this.1 k hk, own_lt this.1 k hk⟩
end Go.Proofs.Ytokngfinnieccaa
