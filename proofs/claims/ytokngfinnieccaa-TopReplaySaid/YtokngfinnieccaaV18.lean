/- Contracts of package disk. Contracts of disk.Sync and disk.Trim. The archive as a struct in a box: 47 cells; its small functions. A log that is written is read as it was written (pure). -/
import Derived.Test.YtokngfinnieccaaV1
import Derived.Test.YtokngfinnieccaaV2
import Derived.Test.YtokngfinnieccaaV13
import Derived.Test.YtokngfinnieccaaV16
import Derived.Test.YtokngfinnieccaaV17
namespace Go.Proofs.Ytokngfinnieccaa
open Go.ChangeShapes Go.WideShapes Go.RowKit
set_option linter.unusedVariables false
set_option linter.unusedSimpArgs false
set_option maxRecDepth 100000
set_option maxHeartbeats 4000000
abbrev Slt := ByteArray × Int
def dvl (x y : Slt) : Value := .agg #[.string x.1, .int .i64 x.2, .string y.1, .int .i64 y.2]
def sbad (s : Slt) : Int := if 1048576 < (s.1.size : Int) then 2 else if s.2 < 0 ∨ (s.1.size : Int) < s.2 then 3 else 0
def dchk (x y : Slt) : Int := if sbad x ≠ 0 then sbad x else sbad y
theorem sbad_cases (s : Slt) : (1048576 < (s.1.size : Int) ∧ sbad s = 2) ∨ ((s.1.size : Int) ≤ 1048576 ∧ (s.2 < 0 ∨ (s.1.size : Int) < s.2) ∧ sbad s = 3) ∨ ((s.1.size : Int) ≤ 1048576 ∧ 0 ≤ s.2 ∧ s.2 ≤ (s.1.size : Int) ∧ sbad s = 0) := by
 unfold sbad
 split
 · exact .inl ⟨by omega, rfl⟩
 · split
   · exact .inr (.inl ⟨by omega, by assumption, rfl⟩)
   · exact .inr (.inr ⟨by omega, by omega, by omega, rfl⟩)
theorem slot_at0 (a b : ByteArray) (sa sb : Int) (w : World) : (Instr.index 68 (.agg #[.string a, .int .i64 sa, .string b, .int .i64 sb]) (.int .i64 0)).run Try.prog w = .ok (.agg #[.string a, .int .i64 sa]) w := by kernel_rfl
theorem slot_at1 (a b : ByteArray) (sa sb : Int) (w : World) : (Instr.index 68 (.agg #[.string a, .int .i64 sa, .string b, .int .i64 sb]) (.int .i64 1)).run Try.prog w = .ok (.agg #[.string b, .int .i64 sb]) w := by kernel_rfl
theorem dcheck_any (x y : Slt) (w : World) :
 Calls Try.prog 98 #[dvl x y] w fun e w' => e = .returned (.int .i64 (dchk x y)) ∧ Below w.heap.size w w' := by
 obtain ⟨a, sa⟩ := x
 obtain ⟨b, sb⟩ := y
 unfold dvl
 simp only
 have i0 := slot_at0 a b sa sb
 have i1 := slot_at1 a b sa sb
 go_enter Try.func98, Try.ntmps98
 go_wp2_with fail
 refine wp_loop_rounds 3 ?_
 rw [rounds_succ]
 have bl : ∀ o o' : Obj, Below w.heap.size w ((w.alloc o).alloc o') := fun o o' => ((Below.refl _ _).alloc (Nat.le_refl _) _).alloc (by simp) _
 have bl3 : ∀ o o' o2 : Obj, Below w.heap.size w (((w.alloc o).alloc o').alloc o2) := fun o o' o2 => (((Below.refl _ _).alloc (Nat.le_refl _) _).alloc (by simp) _).alloc (by simp; omega) _
 have Bl := Lib.hid bl
 have Bl3 := Lib.hid bl3
 clear bl bl3
 rcases sbad_cases (a, sa) with h | h | h
 · simp only at h
   obtain ⟨h1, h2⟩ := h
   have hd : dchk (a, sa) (b, sb) = 2 := by unfold dchk; rw [h2]; rfl
   have Hd := Lib.hid hd
   clear h2 hd
   go_wp2_with fail
   go_ret
   exact ⟨by rw [Hd.out]; rfl, Bl.out _ _⟩
 · simp only at h
   obtain ⟨h1, h3, h2⟩ := h
   have hd : dchk (a, sa) (b, sb) = 3 := by unfold dchk; rw [h2]; rfl
   have Hd := Lib.hid hd
   clear h2 hd
   by_cases h4 : sa < 0
   all_goals go_wp2_with fail
   all_goals (first | omega | (go_ret; exact ⟨by rw [Hd.out]; rfl, Bl.out _ _⟩))
 · simp only at h
   obtain ⟨h1, h3, h4, h2⟩ := h
   have hd0 : dchk (a, sa) (b, sb) = sbad (b, sb) := by unfold dchk; rw [h2]; rfl
   rcases sbad_cases (b, sb) with k | k | k
   · simp only at k
     obtain ⟨k1, k2⟩ := k
     rw [k2] at hd0
     have Hd := Lib.hid hd0
     clear h2 hd0 k2
     go_wp2_with fail
     rw [rounds_succ]
     go_wp2_with fail
     go_ret
     exact ⟨by rw [Hd.out]; rfl, Bl3.out _ _ _⟩
   · simp only at k
     obtain ⟨k1, k3, k2⟩ := k
     rw [k2] at hd0
     have Hd := Lib.hid hd0
     clear h2 hd0 k2
     by_cases h5 : sb < 0
     all_goals go_wp2_with fail
     all_goals rw [rounds_succ]
     all_goals go_wp2_with fail
     all_goals (first | omega | (go_ret; exact ⟨by rw [Hd.out]; rfl, Bl3.out _ _ _⟩))
   · simp only at k
     obtain ⟨k1, k3, k4, k2⟩ := k
     rw [k2] at hd0
     have Hd := Lib.hid hd0
     clear h2 hd0 k2
     go_wp2_with fail
     rw [rounds_succ]
     go_wp2_with fail
     rw [rounds_succ]
     go_wp2_with fail
     go_ret
     exact ⟨by rw [Hd.out]; rfl, Bl3.out _ _ _⟩
def dlook (x y : Slt) (i : Int) : Int := if dchk x y ≠ 0 then dchk x y else if i < 0 ∨ 2 ≤ i then 1 else 0
theorem dlook_any (x y : Slt) (i : Int) (w : World) :
 Calls Try.prog 125 #[dvl x y, .int .i64 i] w fun e w' => e = .returned (.int .i64 (dlook x y i)) ∧ Below w.heap.size w w' := by
 obtain ⟨a, sa⟩ := x
 obtain ⟨b, sb⟩ := y
 unfold dvl
 simp only
 go_enter Try.func125, Try.ntmps125
 go_wp2_with fail
 refine (dcheck_any (a, sa) (b, sb) _).mono ?_
 rintro e w1 ⟨rfl, hb1⟩
 have hbw : Below w.heap.size w w1 := ((Below.refl w.heap.size w).alloc (Nat.le_refl _) _).trans (hb1.mono (by simp))
 clear hb1
 by_cases hc : dchk (a, sa) (b, sb) = 0
 · rw [hc]
   by_cases h1 : i < 0
   · have hd : dlook (a, sa) (b, sb) i = 1 := by unfold dlook; rw [hc]; simp [h1]
     have Hd := Lib.hid hd
     clear hd hc
     go_wp2_with fail
     go_ret
     exact ⟨by rw [Hd.out]; rfl, hbw⟩
   by_cases h2 : 2 ≤ i
   · have hd : dlook (a, sa) (b, sb) i = 1 := by unfold dlook; rw [hc]; simp [h2]
     have Hd := Lib.hid hd
     clear hd hc
     go_wp2_with fail
     go_ret
     exact ⟨by rw [Hd.out]; rfl, hbw⟩
   · have hd : dlook (a, sa) (b, sb) i = 0 := by unfold dlook; rw [hc]; simp; omega
     have Hd := Lib.hid hd
     clear hd hc
     go_wp2_with fail
     go_ret
     exact ⟨by rw [Hd.out]; rfl, hbw⟩
 · have hd : dlook (a, sa) (b, sb) i = dchk (a, sa) (b, sb) := by unfold dlook; simp [hc]
   have hne : ((dchk (a, sa) (b, sb)) != 0) = true := by simpa using hc
   have Hd := Lib.hid hd
   clear hd hc
   go_wp2_with fail
   go_ret
   exact ⟨by rw [Hd.out]; rfl, hbw⟩
def dres (x y : Slt) (e : Int) : Value := .tuple #[dvl x y, .int .i64 e]
def dzero : Slt := (⟨#[]⟩, 0)
theorem disk_end {fn : Func} {R : Ending → World → Prop} {a : Act} {W : World} {g : Nat} {x y : Slt} {e : Int} {p q : Tmp} (hres : fn.results = #[.cell p 70, .tmp q])
 (hp : a.tmps.getD p undef = .pointer (some ⟨g, 0, none⟩)) (hq : a.tmps.getD q undef = .int .i64 e) (hd : a.defers = [])
 (hB : Blk W g 70 #[.string x.1, .int .i64 x.2, .string y.1, .int .i64 y.2]) (hR : R (.returned (dres x y e)) W) : bodyPost Try.prog fn R .ret a W := by
 refine bodyPost_ret (v := dres x y e) ?_ hd hR
 have hl := run_loadVar_row (P := Try.prog) W g 70 70 _ _ _ hB Try.underlying70 rfl (by kernel_rfl)
 have hp' : a.tmps[p]?.getD undef = .pointer (some ⟨g, 0, none⟩) := by simpa using hp
 have hq' : a.tmps[q]?.getD undef = .int .i64 e := by simpa using hq
 simp [results, hres, hp', hq', asAddr, hl, dres, dvl]
theorem dlook_zero (x y : Slt) (i : Int) (h : dlook x y i = 0) : (i = 0 ∨ i = 1) ∧ (x.1.size : Int) ≤ 1048576 ∧ (y.1.size : Int) ≤ 1048576 ∧ 0 ≤ x.2 ∧ x.2 ≤ (x.1.size : Int) ∧ 0 ≤ y.2 ∧ y.2 ≤ (y.1.size : Int) := by
 unfold dlook dchk at h
 rcases sbad_cases x with hx | hx | hx <;> rcases sbad_cases y with hy | hy | hy <;> simp [hx, hy] at h <;> omega
def dapp (x y : Slt) (i : Int) (s : ByteArray) : Slt × Slt × Int :=
 if i = 0 then (if 1048576 < x.1.size + s.size then (dzero, dzero, 2) else ((x.1 ++ s, x.2), y, 0))
 else (if 1048576 < y.1.size + s.size then (dzero, dzero, 2) else (x, (y.1 ++ s, y.2), 0))
theorem dappend_good (x y : Slt) (i : Int) (s : ByteArray) (hs : s.size ≤ 140737488351232) (w : World) (h : dlook x y i = 0) :
 Calls Try.prog 112 #[dvl x y, .int .i64 i, .string s] w fun e w' => e = .returned (dres (dapp x y i s).1 (dapp x y i s).2.1 (dapp x y i s).2.2) ∧ Below w.heap.size w w' := by
 obtain ⟨a, sa⟩ := x
 obtain ⟨b, sb⟩ := y
 unfold dvl
 simp only
 have hz := dlook_zero _ _ _ h
 simp only at hz
 obtain ⟨hi, ha, hb, ha0, ha1, hb0, hb1'⟩ := hz
 go_enter Try.func112, Try.ntmps112
 go_wp2_with fail
 refine (dlook_any (a, sa) (b, sb) i _).mono ?_
 rintro e w1 ⟨rfl, hb1⟩
 have hD := ((Blk.new w 70 #[.string a, .int .i64 sa, .string b, .int .i64 sb]).alloc (.cells #[.string ⟨#[]⟩, .int .i64 0, .string ⟨#[]⟩, .int .i64 0] 70)).below hb1 (by simp; omega)
 have hR := (Blk.new (w.alloc (.cells #[.string a, .int .i64 sa, .string b, .int .i64 sb] 70)) 70 #[.string ⟨#[]⟩, .int .i64 0, .string ⟨#[]⟩, .int .i64 0]).below hb1 (by simp)
 simp only [World.size_alloc] at hR
 have hbw : Below w.heap.size w w1 := (((Below.refl w.heap.size w).alloc (Nat.le_refl _) _).alloc (by simp) _).trans (hb1.mono (by simp; omega))
 rw [h]
 have c0 := hR.cell 0
 have c1 := hR.cell 1
 have c2 := hR.cell 2
 have c3 := hR.cell 3
 have f0 := hR.frozen 0
 have f1 := hR.frozen 1
 have f2 := hR.frozen 2
 have f3 := hR.frozen 3
 have d0 := hD.cell 0
 have d1 := hD.cell 1
 have d2 := hD.cell 2
 have d3 := hD.cell 3
 have g0 := hD.frozen 0
 have g1 := hD.frozen 1
 have g2 := hD.frozen 2
 have g3 := hD.frozen 3
 clear hb1 h
 have HR := Lib.hid hR
 have HD := Lib.hid hD
 clear hR hD
 rcases hi with rfl | rfl
 · by_cases hl : 1048576 < (a.size : Int) + s.size
   · have he : dapp (a, sa) (b, sb) 0 s = (dzero, dzero, 2) := by unfold dapp; rw [if_pos rfl, if_pos (by simp only; omega)]
     have he' := Lib.hid he
     clear he
     go_wp2_with fail
     exact disk_end (g := w.heap.size + 1) (x := dzero) (y := dzero) (e := 2) rfl rfl rfl rfl ((((HR.out.set_ 0 _).set_ 1 _).set_ 2 _).set_ 3 _)
      ⟨by rw [he'.out], (((hbw.setCell (p := ⟨w.heap.size + 1, 0, none⟩) (by simp) _).setCell (p := ⟨w.heap.size + 1, 1, none⟩) (by simp) _).setCell (p := ⟨w.heap.size + 1, 2, none⟩) (by simp) _).setCell (p := ⟨w.heap.size + 1, 3, none⟩) (by simp) _⟩
   · have he : dapp (a, sa) (b, sb) 0 s = ((a ++ s, sa), (b, sb), 0) := by unfold dapp; rw [if_pos rfl, if_neg (by simp only; omega)]
     have he' := Lib.hid he
     clear he
     go_wp2_with fail
     refine disk_end (g := w.heap.size + 1) (x := (a ++ s, sa)) (y := (b, sb)) (e := 0) rfl rfl rfl rfl ((((((HR.out.far (p := ⟨w.heap.size, 0, none⟩) (by simp) _)).set_ 0 _).set_ 1 _).set_ 2 _).set_ 3 _)
      ⟨by rw [he'.out], ((((hbw.setCell (p := ⟨w.heap.size, 0, none⟩) (by simp) _).setCell (p := ⟨w.heap.size + 1, 0, none⟩) (by simp) _).setCell (p := ⟨w.heap.size + 1, 1, none⟩) (by simp) _).setCell (p := ⟨w.heap.size + 1, 2, none⟩) (by simp) _).setCell (p := ⟨w.heap.size + 1, 3, none⟩) (by simp) _⟩
 · by_cases hl : 1048576 < (b.size : Int) + s.size
   · have he : dapp (a, sa) (b, sb) 1 s = (dzero, dzero, 2) := by unfold dapp; rw [if_neg (by decide), if_pos (by simp only; omega)]
     have he' := Lib.hid he
     clear he
     go_wp2_with fail
     exact disk_end (g := w.heap.size + 1) (x := dzero) (y := dzero) (e := 2) rfl rfl rfl rfl ((((HR.out.set_ 0 _).set_ 1 _).set_ 2 _).set_ 3 _)
      ⟨by rw [he'.out], (((hbw.setCell (p := ⟨w.heap.size + 1, 0, none⟩) (by simp) _).setCell (p := ⟨w.heap.size + 1, 1, none⟩) (by simp) _).setCell (p := ⟨w.heap.size + 1, 2, none⟩) (by simp) _).setCell (p := ⟨w.heap.size + 1, 3, none⟩) (by simp) _⟩
   · have he : dapp (a, sa) (b, sb) 1 s = ((a, sa), (b ++ s, sb), 0) := by unfold dapp; rw [if_neg (by decide), if_neg (by simp only; omega)]
     have he' := Lib.hid he
     clear he
     go_wp2_with fail
     refine disk_end (g := w.heap.size + 1) (x := (a, sa)) (y := (b ++ s, sb)) (e := 0) rfl rfl rfl rfl ((((((HR.out.far (p := ⟨w.heap.size, 2, none⟩) (by simp) _)).set_ 0 _).set_ 1 _).set_ 2 _).set_ 3 _)
      ⟨by rw [he'.out], ((((hbw.setCell (p := ⟨w.heap.size, 2, none⟩) (by simp) _).setCell (p := ⟨w.heap.size + 1, 0, none⟩) (by simp) _).setCell (p := ⟨w.heap.size + 1, 1, none⟩) (by simp) _).setCell (p := ⟨w.heap.size + 1, 2, none⟩) (by simp) _).setCell (p := ⟨w.heap.size + 1, 3, none⟩) (by simp) _⟩
theorem dsync_look (x y : Slt) (i : Int) (w : World) (h : dlook x y i ≠ 0) :
 Calls Try.prog 113 #[dvl x y, .int .i64 i] w fun e w' => e = .returned (dres dzero dzero (dlook x y i)) ∧ Below w.heap.size w w' := by
 obtain ⟨a, sa⟩ := x
 obtain ⟨b, sb⟩ := y
 unfold dvl
 simp only
 go_enter Try.func113, Try.ntmps113
 go_wp2_with fail
 refine (dlook_any (a, sa) (b, sb) i _).mono ?_
 rintro e w1 ⟨rfl, hb1⟩
 have hD := ((Blk.new w 70 #[.string a, .int .i64 sa, .string b, .int .i64 sb]).alloc (.cells #[.string ⟨#[]⟩, .int .i64 0, .string ⟨#[]⟩, .int .i64 0] 70)).below hb1 (by simp; omega)
 have hR := (Blk.new (w.alloc (.cells #[.string a, .int .i64 sa, .string b, .int .i64 sb] 70)) 70 #[.string ⟨#[]⟩, .int .i64 0, .string ⟨#[]⟩, .int .i64 0]).below hb1 (by simp)
 simp only [World.size_alloc] at hR
 have hbw : Below w.heap.size w w1 := (((Below.refl w.heap.size w).alloc (Nat.le_refl _) _).alloc (by simp) _).trans (hb1.mono (by simp; omega))
 have hne : ((dlook (a, sa) (b, sb) i) != 0) = true := by simpa using h
 have c0 := hR.cell 0
 have f0 := hR.frozen 0
 have c1 := hR.cell 1
 have f1 := hR.frozen 1
 have c2 := hR.cell 2
 have f2 := hR.frozen 2
 have c3 := hR.cell 3
 have f3 := hR.frozen 3
 clear hb1 h
 have HR := Lib.hid hR
 have HD := Lib.hid hD
 clear hR hD
 go_wp2_with fail
 exact disk_end (g := w.heap.size + 1) (x := dzero) (y := dzero) (e := dlook (a, sa) (b, sb) i) rfl rfl rfl rfl ((((((((HR.out).set_ 0 _)).set_ 1 _)).set_ 2 _)).set_ 3 _) ⟨rfl, ((((((((hbw).setCell (p := ⟨w.heap.size + 1, 0, none⟩) (by simp) _)).setCell (p := ⟨w.heap.size + 1, 1, none⟩) (by simp) _)).setCell (p := ⟨w.heap.size + 1, 2, none⟩) (by simp) _)).setCell (p := ⟨w.heap.size + 1, 3, none⟩) (by simp) _)⟩
def dsyn (x y : Slt) (i : Int) : Slt × Slt := if i = 0 then ((x.1, (x.1.size : Int)), y) else (x, (y.1, (y.1.size : Int)))
theorem dsync_good (x y : Slt) (i : Int) (w : World) (h : dlook x y i = 0) :
 Calls Try.prog 113 #[dvl x y, .int .i64 i] w fun e w' => e = .returned (dres (dsyn x y i).1 (dsyn x y i).2 0) ∧ Below w.heap.size w w' := by
 obtain ⟨a, sa⟩ := x
 obtain ⟨b, sb⟩ := y
 unfold dvl
 simp only
 have hz := dlook_zero _ _ _ h
 simp only at hz
 obtain ⟨hi, ha, hb, ha0, ha1, hb0, hb1'⟩ := hz
 go_enter Try.func113, Try.ntmps113
 go_wp2_with fail
 refine (dlook_any (a, sa) (b, sb) i _).mono ?_
 rintro e w1 ⟨rfl, hb1⟩
 have hD := ((Blk.new w 70 #[.string a, .int .i64 sa, .string b, .int .i64 sb]).alloc (.cells #[.string ⟨#[]⟩, .int .i64 0, .string ⟨#[]⟩, .int .i64 0] 70)).below hb1 (by simp; omega)
 have hR := (Blk.new (w.alloc (.cells #[.string a, .int .i64 sa, .string b, .int .i64 sb] 70)) 70 #[.string ⟨#[]⟩, .int .i64 0, .string ⟨#[]⟩, .int .i64 0]).below hb1 (by simp)
 simp only [World.size_alloc] at hR
 have hbw : Below w.heap.size w w1 := (((Below.refl w.heap.size w).alloc (Nat.le_refl _) _).alloc (by simp) _).trans (hb1.mono (by simp; omega))
 rw [h]
 have c0 := hR.cell 0
 have f0 := hR.frozen 0
 have c1 := hR.cell 1
 have f1 := hR.frozen 1
 have c2 := hR.cell 2
 have f2 := hR.frozen 2
 have c3 := hR.cell 3
 have f3 := hR.frozen 3
 have d0 := hD.cell 0
 have g0 := hD.frozen 0
 have d1 := hD.cell 1
 have g1 := hD.frozen 1
 have d2 := hD.cell 2
 have g2 := hD.frozen 2
 have d3 := hD.cell 3
 have g3 := hD.frozen 3
 clear hb1 h
 have HR := Lib.hid hR
 have HD := Lib.hid hD
 clear hR hD
 rcases hi with rfl | rfl
 · go_wp2_with fail
   exact disk_end (g := w.heap.size + 1) (x := (a, (a.size : Int))) (y := (b, sb)) (e := 0) rfl rfl rfl rfl ((((((((((HR.out).far (p := ⟨w.heap.size, 1, none⟩) (by simp) _)).set_ 0 _)).set_ 1 _)).set_ 2 _)).set_ 3 _) ⟨rfl, ((((((((((hbw).setCell (p := ⟨w.heap.size, 1, none⟩) (by simp) _)).setCell (p := ⟨w.heap.size + 1, 0, none⟩) (by simp) _)).setCell (p := ⟨w.heap.size + 1, 1, none⟩) (by simp) _)).setCell (p := ⟨w.heap.size + 1, 2, none⟩) (by simp) _)).setCell (p := ⟨w.heap.size + 1, 3, none⟩) (by simp) _)⟩
 · go_wp2_with fail
   exact disk_end (g := w.heap.size + 1) (x := (a, sa)) (y := (b, (b.size : Int))) (e := 0) rfl rfl rfl rfl ((((((((((HR.out).far (p := ⟨w.heap.size, 3, none⟩) (by simp) _)).set_ 0 _)).set_ 1 _)).set_ 2 _)).set_ 3 _) ⟨rfl, ((((((((((hbw).setCell (p := ⟨w.heap.size, 3, none⟩) (by simp) _)).setCell (p := ⟨w.heap.size + 1, 0, none⟩) (by simp) _)).setCell (p := ⟨w.heap.size + 1, 1, none⟩) (by simp) _)).setCell (p := ⟨w.heap.size + 1, 2, none⟩) (by simp) _)).setCell (p := ⟨w.heap.size + 1, 3, none⟩) (by simp) _)⟩
def trimS (s : Slt) (n : Int) : Slt := (s.1.extract 0 n.toNat, min s.2 n)
def dtrm (x y : Slt) (i n : Int) : Slt × Slt := if i = 0 then (trimS x n, y) else (x, trimS y n)
theorem dtrim_bad (x y : Slt) (i n : Int) (w : World) (h : dlook x y i = 0) (hn : n < 0 ∨ ((if i = 0 then x.1.size else y.1.size : Nat) : Int) < n) :
 Calls Try.prog 114 #[dvl x y, .int .i64 i, .int .i64 n] w fun e w' => e = .returned (dres dzero dzero 1) ∧ Below w.heap.size w w' := by
 obtain ⟨a, sa⟩ := x
 obtain ⟨b, sb⟩ := y
 unfold dvl
 simp only
 have hz := dlook_zero _ _ _ h
 simp only at hz
 obtain ⟨hi, ha, hb, ha0, ha1, hb0, hb1'⟩ := hz
 go_enter Try.func114, Try.ntmps114
 go_wp2_with fail
 refine (dlook_any (a, sa) (b, sb) i _).mono ?_
 rintro e w1 ⟨rfl, hb1⟩
 have hD := ((Blk.new w 70 #[.string a, .int .i64 sa, .string b, .int .i64 sb]).alloc (.cells #[.string ⟨#[]⟩, .int .i64 0, .string ⟨#[]⟩, .int .i64 0] 70)).below hb1 (by simp; omega)
 have hR := (Blk.new (w.alloc (.cells #[.string a, .int .i64 sa, .string b, .int .i64 sb] 70)) 70 #[.string ⟨#[]⟩, .int .i64 0, .string ⟨#[]⟩, .int .i64 0]).below hb1 (by simp)
 simp only [World.size_alloc] at hR
 have hbw : Below w.heap.size w w1 := (((Below.refl w.heap.size w).alloc (Nat.le_refl _) _).alloc (by simp) _).trans (hb1.mono (by simp; omega))
 rw [h]
 have c0 := hR.cell 0
 have f0 := hR.frozen 0
 have c1 := hR.cell 1
 have f1 := hR.frozen 1
 have c2 := hR.cell 2
 have f2 := hR.frozen 2
 have c3 := hR.cell 3
 have f3 := hR.frozen 3
 have d0 := hD.cell 0
 have g0 := hD.frozen 0
 have d1 := hD.cell 1
 have g1 := hD.frozen 1
 have d2 := hD.cell 2
 have g2 := hD.frozen 2
 have d3 := hD.cell 3
 have g3 := hD.frozen 3
 clear hb1 h
 have HR := Lib.hid hR
 have HD := Lib.hid hD
 clear hR hD
 rcases hi with rfl | rfl
 · simp only [if_pos, reduceIte, Int.one_ne_zero] at hn
   by_cases hn1 : n < 0
   · clear hn
     go_wp2_with fail
     exact disk_end (g := w.heap.size + 1) (x := dzero) (y := dzero) (e := 1) rfl rfl rfl rfl ((((((((HR.out).set_ 0 _)).set_ 1 _)).set_ 2 _)).set_ 3 _) ⟨rfl, ((((((((hbw).setCell (p := ⟨w.heap.size + 1, 0, none⟩) (by simp) _)).setCell (p := ⟨w.heap.size + 1, 1, none⟩) (by simp) _)).setCell (p := ⟨w.heap.size + 1, 2, none⟩) (by simp) _)).setCell (p := ⟨w.heap.size + 1, 3, none⟩) (by simp) _)⟩
   · have hn2 : (a.size : Int) < n := by omega
     clear hn
     go_wp2_with fail
     exact disk_end (g := w.heap.size + 1) (x := dzero) (y := dzero) (e := 1) rfl rfl rfl rfl ((((((((HR.out).set_ 0 _)).set_ 1 _)).set_ 2 _)).set_ 3 _) ⟨rfl, ((((((((hbw).setCell (p := ⟨w.heap.size + 1, 0, none⟩) (by simp) _)).setCell (p := ⟨w.heap.size + 1, 1, none⟩) (by simp) _)).setCell (p := ⟨w.heap.size + 1, 2, none⟩) (by simp) _)).setCell (p := ⟨w.heap.size + 1, 3, none⟩) (by simp) _)⟩
 · simp only [if_pos, reduceIte, Int.one_ne_zero] at hn
   by_cases hn1 : n < 0
   · clear hn
     go_wp2_with fail
     exact disk_end (g := w.heap.size + 1) (x := dzero) (y := dzero) (e := 1) rfl rfl rfl rfl ((((((((HR.out).set_ 0 _)).set_ 1 _)).set_ 2 _)).set_ 3 _) ⟨rfl, ((((((((hbw).setCell (p := ⟨w.heap.size + 1, 0, none⟩) (by simp) _)).setCell (p := ⟨w.heap.size + 1, 1, none⟩) (by simp) _)).setCell (p := ⟨w.heap.size + 1, 2, none⟩) (by simp) _)).setCell (p := ⟨w.heap.size + 1, 3, none⟩) (by simp) _)⟩
   · have hn2 : (b.size : Int) < n := by omega
     clear hn
     go_wp2_with fail
     exact disk_end (g := w.heap.size + 1) (x := dzero) (y := dzero) (e := 1) rfl rfl rfl rfl ((((((((HR.out).set_ 0 _)).set_ 1 _)).set_ 2 _)).set_ 3 _) ⟨rfl, ((((((((hbw).setCell (p := ⟨w.heap.size + 1, 0, none⟩) (by simp) _)).setCell (p := ⟨w.heap.size + 1, 1, none⟩) (by simp) _)).setCell (p := ⟨w.heap.size + 1, 2, none⟩) (by simp) _)).setCell (p := ⟨w.heap.size + 1, 3, none⟩) (by simp) _)⟩
theorem dtrim_good (x y : Slt) (i : Int) (n : Nat) (w : World) (h : dlook x y i = 0) (hn : (n : Int) ≤ ((if i = 0 then x.1.size else y.1.size : Nat) : Int)) :
 Calls Try.prog 114 #[dvl x y, .int .i64 i, .int .i64 n] w fun e w' => e = .returned (dres (dtrm x y i n).1 (dtrm x y i n).2 0) ∧ Below w.heap.size w w' := by
 obtain ⟨a, sa⟩ := x
 obtain ⟨b, sb⟩ := y
 unfold dvl
 simp only
 have hz := dlook_zero _ _ _ h
 simp only at hz
 obtain ⟨hi, ha, hb, ha0, ha1, hb0, hb1'⟩ := hz
 go_enter Try.func114, Try.ntmps114
 go_wp2_with fail
 refine (dlook_any (a, sa) (b, sb) i _).mono ?_
 rintro e w1 ⟨rfl, hb1⟩
 have hD := ((Blk.new w 70 #[.string a, .int .i64 sa, .string b, .int .i64 sb]).alloc (.cells #[.string ⟨#[]⟩, .int .i64 0, .string ⟨#[]⟩, .int .i64 0] 70)).below hb1 (by simp; omega)
 have hR := (Blk.new (w.alloc (.cells #[.string a, .int .i64 sa, .string b, .int .i64 sb] 70)) 70 #[.string ⟨#[]⟩, .int .i64 0, .string ⟨#[]⟩, .int .i64 0]).below hb1 (by simp)
 simp only [World.size_alloc] at hR
 have hbw : Below w.heap.size w w1 := (((Below.refl w.heap.size w).alloc (Nat.le_refl _) _).alloc (by simp) _).trans (hb1.mono (by simp; omega))
 rw [h]
 have c0 := hR.cell 0
 have f0 := hR.frozen 0
 have c1 := hR.cell 1
 have f1 := hR.frozen 1
 have c2 := hR.cell 2
 have f2 := hR.frozen 2
 have c3 := hR.cell 3
 have f3 := hR.frozen 3
 have d0 := hD.cell 0
 have g0 := hD.frozen 0
 have d1 := hD.cell 1
 have g1 := hD.frozen 1
 have d2 := hD.cell 2
 have g2 := hD.frozen 2
 have d3 := hD.cell 3
 have g3 := hD.frozen 3
 clear hb1 h
 have HR := Lib.hid hR
 have HD := Lib.hid hD
 clear hR hD
 rcases hi with rfl | rfl
 · simp only [if_pos, reduceIte, Int.one_ne_zero] at hn
   go_wp2_with (first | (refine wpList_min2 rfl (.tmp 45) (.tmp 46) _ rfl _ _ _ rfl rfl rfl ?_))
   exact disk_end (g := w.heap.size + 1) (x := trimS (a, sa) n) (y := (b, sb)) (e := 0) rfl rfl rfl rfl ((((((((((((HR.out).far (p := ⟨w.heap.size, 0, none⟩) (by simp) _)).far (p := ⟨w.heap.size, 1, none⟩) (by simp) _)).set_ 0 _)).set_ 1 _)).set_ 2 _)).set_ 3 _) ⟨rfl, ((((((((((((hbw).setCell (p := ⟨w.heap.size, 0, none⟩) (by simp) _)).setCell (p := ⟨w.heap.size, 1, none⟩) (by simp) _)).setCell (p := ⟨w.heap.size + 1, 0, none⟩) (by simp) _)).setCell (p := ⟨w.heap.size + 1, 1, none⟩) (by simp) _)).setCell (p := ⟨w.heap.size + 1, 2, none⟩) (by simp) _)).setCell (p := ⟨w.heap.size + 1, 3, none⟩) (by simp) _)⟩
 · simp only [if_pos, reduceIte, Int.one_ne_zero] at hn
   go_wp2_with (first | (refine wpList_min2 rfl (.tmp 45) (.tmp 46) _ rfl _ _ _ rfl rfl rfl ?_))
   exact disk_end (g := w.heap.size + 1) (x := (a, sa)) (y := trimS (b, sb) n) (e := 0) rfl rfl rfl rfl ((((((((((((HR.out).far (p := ⟨w.heap.size, 2, none⟩) (by simp) _)).far (p := ⟨w.heap.size, 3, none⟩) (by simp) _)).set_ 0 _)).set_ 1 _)).set_ 2 _)).set_ 3 _) ⟨rfl, ((((((((((((hbw).setCell (p := ⟨w.heap.size, 2, none⟩) (by simp) _)).setCell (p := ⟨w.heap.size, 3, none⟩) (by simp) _)).setCell (p := ⟨w.heap.size + 1, 0, none⟩) (by simp) _)).setCell (p := ⟨w.heap.size + 1, 1, none⟩) (by simp) _)).setCell (p := ⟨w.heap.size + 1, 2, none⟩) (by simp) _)).setCell (p := ⟨w.heap.size + 1, 3, none⟩) (by simp) _)⟩
structure Sh where
 d0 : Slt
 d1 : Slt
 at_ : Nat
 log : Lg
 text : ByteArray
 safe : Int
 old : Bool
def shP (s : Sh) : List Value := [.string s.d0.1, .int .i64 s.d0.2, .string s.d1.1, .int .i64 s.d1.2, .int .i64 s.at_]
def shR (s : Sh) (mp : Option Addr) : List Value := [.string s.text, .int .i64 s.safe, .pointer mp, .bool s.old]
def shc (s : Sh) (sl : Sl) (mp : Option Addr) : Array Value := lgin (shP s) s.log sl (shR s mp)
section
variable {s : Sh} {sl : Sl} {mp : Option Addr}
theorem shc_0 : (shc s sl mp)[0]? = some (.string s.d0.1) := rfl
theorem shc_1 : (shc s sl mp)[1]? = some (.int .i64 s.d0.2) := rfl
theorem shc_2 : (shc s sl mp)[2]? = some (.string s.d1.1) := rfl
theorem shc_3 : (shc s sl mp)[3]? = some (.int .i64 s.d1.2) := rfl
theorem shc_at : (shc s sl mp)[4]? = some (.int .i64 s.at_) := rfl
theorem shc_log (i : Nat) (hi : i < 38) (h8 : Lg8 s.log) : (shc s sl mp)[5 + i]? = (lgc s.log sl)[i]? := lgin_at (shP s) s.log sl (shR s mp) 5 i rfl h8 hi
theorem shc_tail (i : Nat) (h8 : Lg8 s.log) : (shc s sl mp)[43 + i]? = (shR s mp)[i]? := by
 unfold shc lgin
 rw [List.getElem?_toArray, List.getElem?_append_right (by simp [shP]; omega), List.getElem?_append_right (by rw [lgl_len h8]; simp [shP]; omega)]
 congr 1
 rw [lgl_len h8]
 simp [shP]
 omega
theorem shc_text (h8 : Lg8 s.log) : (shc s sl mp)[43]? = some (.string s.text) := shc_tail 0 h8
theorem shc_safe (h8 : Lg8 s.log) : (shc s sl mp)[44]? = some (.int .i64 s.safe) := shc_tail 1 h8
theorem shc_mv (h8 : Lg8 s.log) : (shc s sl mp)[45]? = some (.pointer mp) := shc_tail 2 h8
theorem shc_base (h8 : Lg8 s.log) : (shc s sl mp)[6]? = some (.int .i64 s.log.base) := (shc_log 1 (by decide) h8).trans lgc_base
theorem shc_revs (h8 : Lg8 s.log) : (shc s sl mp)[40]? = some (.slice sl.1 sl.2.1 sl.2.2) := (shc_log 35 (by decide) h8).trans (lgc_revs h8)
theorem shc_disk (x y : Slt) : ((((shc s sl mp).setIfInBounds 0 (.string x.1)).setIfInBounds 1 (.int .i64 x.2)).setIfInBounds 2 (.string y.1)).setIfInBounds 3 (.int .i64 y.2) = shc { s with d0 := x, d1 := y } sl mp := by
 unfold shc lgin
 simp only [List.setIfInBounds_toArray]
 rfl
theorem shc_size (h8 : Lg8 s.log) : (shc s sl mp).size = 47 := by
 unfold shc lgin
 rw [List.size_toArray, List.length_append, List.length_append, lgl_len h8]
 rfl
end
theorem sput_any (q : Nat) (s : Sh) (sl : Sl) (mp : Option Addr) (i : Int) (t : ByteArray) (w : World) (hk : Blk w q 134 (shc s sl mp)) (hl : dlook s.d0 s.d1 i = 0) (ht : t.size ≤ 140737488351232) :
 Calls Try.prog 82 #[.pointer (some ⟨q, 0, none⟩), .int .i64 i, .string t] w fun e w' => e = .returned (.tuple #[]) ∧ Blk w' q 134 (shc { s with d0 := (dapp s.d0 s.d1 i t).1, d1 := (dapp s.d0 s.d1 i t).2.1 } sl mp) ∧ Only w w' (fun k => k = q) := by
 have hc := dappend_good s.d0 s.d1 i t ht w hl
 obtain ⟨X, hX⟩ : ∃ X, (dapp s.d0 s.d1 i t).1 = X := ⟨_, rfl⟩
 obtain ⟨Y, hY⟩ : ∃ Y, (dapp s.d0 s.d1 i t).2.1 = Y := ⟨_, rfl⟩
 rw [hX, hY] at hc ⊢
 clear hX hY
 obtain ⟨x1, x2⟩ := X
 obtain ⟨y1, y2⟩ := Y
 unfold dres dvl at hc
 simp only at hc
 have Hc := Lib.hid hc
 clear hc
 have c0 := hk.cell 0
 have c1 := hk.cell 1
 have c2 := hk.cell 2
 have c3 := hk.cell 3
 rw [shc_0] at c0
 rw [shc_1] at c1
 rw [shc_2] at c2
 rw [shc_3] at c3
 have lk := hk.lt
 go_enter Try.func82, Try.ntmps82
 go_wp2_with fail
 refine Hc.out.mono ?_
 rintro e w1 ⟨rfl, hb⟩
 have k1 := hk.below hb lk
 have ho := Only.of_below (S := fun k => k = q) hb
 clear c0 c1 c2 c3 lk hb Hc
 have c0 := k1.cell 0
 have c1 := k1.cell 1
 have c2 := k1.cell 2
 have c3 := k1.cell 3
 rw [shc_0] at c0
 rw [shc_1] at c1
 rw [shc_2] at c2
 rw [shc_3] at c3
 have f0 := k1.frozen 0
 have f1 := k1.frozen 1
 have f2 := k1.frozen 2
 have f3 := k1.frozen 3
 have lk := k1.lt
 go_wp2_with fail
 go_end0
 have k2 := (((k1.set_ 0 (.string x1)).set_ 1 (.int .i64 x2)).set_ 2 (.string y1)).set_ 3 (.int .i64 y2)
 rw [show ((((shc s sl mp).setIfInBounds 0 (.string x1)).setIfInBounds 1 (.int .i64 x2)).setIfInBounds 2 (.string y1)).setIfInBounds 3 (.int .i64 y2) = shc { s with d0 := (x1, x2), d1 := (y1, y2) } sl mp from shc_disk (x1, x2) (y1, y2)] at k2
 exact ⟨rfl, k2, ho.trans ((((Only.setSelf _ q 0 _).trans (Only.setSelf _ q 1 _)).trans (Only.setSelf _ q 2 _)).trans (Only.setSelf _ q 3 _))⟩
theorem ssync_any (q : Nat) (s : Sh) (sl : Sl) (mp : Option Addr) (i : Int) (w : World) (hk : Blk w q 134 (shc s sl mp)) (hl : dlook s.d0 s.d1 i = 0) :
 Calls Try.prog 84 #[.pointer (some ⟨q, 0, none⟩), .int .i64 i] w fun e w' => e = .returned (.tuple #[]) ∧ Blk w' q 134 (shc { s with d0 := (dsyn s.d0 s.d1 i).1, d1 := (dsyn s.d0 s.d1 i).2 } sl mp) ∧ Only w w' (fun k => k = q) := by
 have hc := dsync_good s.d0 s.d1 i w hl
 obtain ⟨X, hX⟩ : ∃ X, (dsyn s.d0 s.d1 i).1 = X := ⟨_, rfl⟩
 obtain ⟨Y, hY⟩ : ∃ Y, (dsyn s.d0 s.d1 i).2 = Y := ⟨_, rfl⟩
 rw [hX, hY] at hc ⊢
 clear hX hY
 obtain ⟨x1, x2⟩ := X
 obtain ⟨y1, y2⟩ := Y
 unfold dres dvl at hc
 simp only at hc
 have Hc := Lib.hid hc
 clear hc
 have c0 := hk.cell 0
 have c1 := hk.cell 1
 have c2 := hk.cell 2
 have c3 := hk.cell 3
 rw [shc_0] at c0
 rw [shc_1] at c1
 rw [shc_2] at c2
 rw [shc_3] at c3
 have lk := hk.lt
 go_enter Try.func84, Try.ntmps84
 go_wp2_with fail
 refine Hc.out.mono ?_
 rintro e w1 ⟨rfl, hb⟩
 have k1 := hk.below hb lk
 have ho := Only.of_below (S := fun k => k = q) hb
 clear c0 c1 c2 c3 lk hb Hc
 have c0 := k1.cell 0
 have c1 := k1.cell 1
 have c2 := k1.cell 2
 have c3 := k1.cell 3
 rw [shc_0] at c0
 rw [shc_1] at c1
 rw [shc_2] at c2
 rw [shc_3] at c3
 have f0 := k1.frozen 0
 have f1 := k1.frozen 1
 have f2 := k1.frozen 2
 have f3 := k1.frozen 3
 have lk := k1.lt
 go_wp2_with fail
 go_end0
 have k2 := (((k1.set_ 0 (.string x1)).set_ 1 (.int .i64 x2)).set_ 2 (.string y1)).set_ 3 (.int .i64 y2)
 rw [show ((((shc s sl mp).setIfInBounds 0 (.string x1)).setIfInBounds 1 (.int .i64 x2)).setIfInBounds 2 (.string y1)).setIfInBounds 3 (.int .i64 y2) = shc { s with d0 := (x1, x2), d1 := (y1, y2) } sl mp from shc_disk (x1, x2) (y1, y2)] at k2
 exact ⟨rfl, k2, ho.trans ((((Only.setSelf _ q 0 _).trans (Only.setSelf _ q 1 _)).trans (Only.setSelf _ q 2 _)).trans (Only.setSelf _ q 3 _))⟩
theorem strim_any (q : Nat) (s : Sh) (sl : Sl) (mp : Option Addr) (i : Int) (n : Nat) (w : World) (hk : Blk w q 134 (shc s sl mp)) (hl : dlook s.d0 s.d1 i = 0) (hn : (n : Int) ≤ ((if i = 0 then s.d0.1.size else s.d1.1.size : Nat) : Int)) :
 Calls Try.prog 89 #[.pointer (some ⟨q, 0, none⟩), .int .i64 i, .int .i64 n] w fun e w' => e = .returned (.tuple #[]) ∧ Blk w' q 134 (shc { s with d0 := (dtrm s.d0 s.d1 i n).1, d1 := (dtrm s.d0 s.d1 i n).2 } sl mp) ∧ Only w w' (fun k => k = q) := by
 have hc := dtrim_good s.d0 s.d1 i n w hl hn
 obtain ⟨X, hX⟩ : ∃ X, (dtrm s.d0 s.d1 i n).1 = X := ⟨_, rfl⟩
 obtain ⟨Y, hY⟩ : ∃ Y, (dtrm s.d0 s.d1 i n).2 = Y := ⟨_, rfl⟩
 rw [hX, hY] at hc ⊢
 clear hX hY
 obtain ⟨x1, x2⟩ := X
 obtain ⟨y1, y2⟩ := Y
 unfold dres dvl at hc
 simp only at hc
 have Hc := Lib.hid hc
 clear hc
 have c0 := hk.cell 0
 have c1 := hk.cell 1
 have c2 := hk.cell 2
 have c3 := hk.cell 3
 rw [shc_0] at c0
 rw [shc_1] at c1
 rw [shc_2] at c2
 rw [shc_3] at c3
 have lk := hk.lt
 go_enter Try.func89, Try.ntmps89
 go_wp2_with fail
 refine Hc.out.mono ?_
 rintro e w1 ⟨rfl, hb⟩
 have k1 := hk.below hb lk
 have ho := Only.of_below (S := fun k => k = q) hb
 clear c0 c1 c2 c3 lk hb Hc
 have c0 := k1.cell 0
 have c1 := k1.cell 1
 have c2 := k1.cell 2
 have c3 := k1.cell 3
 rw [shc_0] at c0
 rw [shc_1] at c1
 rw [shc_2] at c2
 rw [shc_3] at c3
 have f0 := k1.frozen 0
 have f1 := k1.frozen 1
 have f2 := k1.frozen 2
 have f3 := k1.frozen 3
 have lk := k1.lt
 go_wp2_with fail
 go_end0
 have k2 := (((k1.set_ 0 (.string x1)).set_ 1 (.int .i64 x2)).set_ 2 (.string y1)).set_ 3 (.int .i64 y2)
 rw [show ((((shc s sl mp).setIfInBounds 0 (.string x1)).setIfInBounds 1 (.int .i64 x2)).setIfInBounds 2 (.string y1)).setIfInBounds 3 (.int .i64 y2) = shc { s with d0 := (x1, x2), d1 := (y1, y2) } sl mp from shc_disk (x1, x2) (y1, y2)] at k2
 exact ⟨rfl, k2, ho.trans ((((Only.setSelf _ q 0 _).trans (Only.setSelf _ q 1 _)).trans (Only.setSelf _ q 2 _)).trans (Only.setSelf _ q 3 _))⟩
theorem shead_any (q : Nat) (s : Sh) (sl : Sl) (mp : Option Addr) (w : World) (hk : Blk w q 134 (shc s sl mp)) (h8 : Lg8 s.log) (hsl : sl.2.1 = s.log.revs.length) (hb0 : 0 ≤ s.log.base) (hb1 : s.log.base ≤ 2147483647) (hr : s.log.revs.length ≤ 1000) :
 Calls Try.prog 40 #[.pointer (some ⟨q, 0, none⟩)] w fun e w' => e = .returned (.int .i64 (s.log.base + s.log.revs.length)) ∧ Below w.heap.size w w' := by
 have c6 := hk.cell 6
 rw [shc_base h8] at c6
 have c40 := hk.cell 40
 rw [shc_revs h8] at c40
 have lk := hk.lt
 obtain ⟨A, n, c⟩ := sl
 simp only at hsl c40
 rw [← hsl] at hr ⊢
 obtain ⟨Ba, hBa⟩ : ∃ Ba, s.log.base = Ba := ⟨_, rfl⟩
 rw [hBa] at c6 hb0 hb1 ⊢
 have hw : IntKind.i64.wrap (Ba + (n : Int)) = Ba + (n : Int) := IntWalk.i64_in _ (by omega)
 clear hBa hsl hk
 go_enter Try.func40, Try.ntmps40
 go_upto_region 1 with (fail)
 go_quiet (fail)
 go_wp2_with fail
 go_ret
 exact ⟨rfl, below_drewN_ (Below.refl _ _) _⟩
theorem there_any (q : Nat) (s : Sh) (sl : Sl) (mp : Option Addr) (r : Int) (w : World) (hk : Blk w q 134 (shc s sl mp)) (h8 : Lg8 s.log) (hsl : sl.2.1 = s.log.revs.length) (hb0 : 0 ≤ s.log.base) (hb1 : s.log.base ≤ 2147483647) (hr : s.log.revs.length ≤ 1000) :
 Calls Try.prog 88 #[.pointer (some ⟨q, 0, none⟩), .int .i64 r] w fun e w' => e = .returned (.int .i64 (if r < s.log.base then 9 else if s.log.base + s.log.revs.length < r then 8 else 0)) ∧ Below w.heap.size w w' := by
 have hh := fun w (hk : Blk w q 134 (shc s sl mp)) => shead_any q s sl mp w hk h8 hsl hb0 hb1 hr
 have Hh := Lib.hid (hh w hk)
 have c6 := hk.cell 6
 rw [shc_base h8] at c6
 have lk := hk.lt
 obtain ⟨Hd, hHd⟩ : ∃ Hd, s.log.base + s.log.revs.length = Hd := ⟨_, rfl⟩
 obtain ⟨Ba, hBa⟩ : ∃ Ba, s.log.base = Ba := ⟨_, rfl⟩
 rw [hHd] at Hh
 rw [hBa] at c6
 rw [hHd, hBa]
 clear hh hHd hBa hsl hb0 hb1 hr h8 hk
 by_cases h1 : r < Ba
 · rw [if_pos h1]
   go_enter Try.func88, Try.ntmps88
   go_wp2_with fail
   go_ret
   exact ⟨rfl, Below.refl _ _⟩
 · rw [if_neg h1]
   by_cases h2 : Hd < r
   · rw [if_pos h2]
     go_enter Try.func88, Try.ntmps88
     go_wp2_with fail
     refine Hh.out.mono ?_
     rintro e w1 ⟨rfl, hb⟩
     go_wp2_with fail
     go_ret
     exact ⟨rfl, hb⟩
   · rw [if_neg h2]
     go_enter Try.func88, Try.ntmps88
     go_wp2_with fail
     refine Hh.out.mono ?_
     rintro e w1 ⟨rfl, hb⟩
     go_wp2_with fail
     go_ret
     exact ⟨rfl, hb⟩
end Go.Proofs.Ytokngfinnieccaa
namespace Go.Proofs.Ytokngfinnieccaa
set_option linter.unusedVariables false
set_option linter.unusedSimpArgs false
set_option maxRecDepth 100000
set_option maxHeartbeats 4000000
def tz : List (Nat × Nat) := List.replicate 8 (0, 0)
theorem tz_le : ∀ p ∈ tz, p.1 ≤ 2147483647 ∧ p.2 ≤ 2147483647 := by
 intro p hp
 rw [tz, List.mem_replicate] at hp
 rw [hp.2]
 exact ⟨by decide, by decide⟩
def hf (g b : Nat) (t : List (Nat × Nat)) (text : ByteArray) : Fm := (1, ⟨(headB ((g, b) :: t) text).toArray⟩)
def doneF : Fm := (3, ⟨#[]⟩)
def L0 (g b : Nat) (t : List (Nat × Nat)) (text : ByteArray) : Lg := ⟨g, b, text, tbN t, tbN t, [], false, ((headB ((g, b) :: t) text).length + 7 : Nat)⟩
theorem hdB_tx (g b : Nat) (t : List (Nat × Nat)) (text : ByteArray) : (hdB g b t text).data.toList = txF (hf g b t text) := by simp [hdB, hf]
theorem frB_tx (r : Rv) : (frB r).data.toList = txF (frR r) := by simp [frB]
theorem headB_len (g b : Nat) (t : List (Nat × Nat)) (text : ByteArray) (ht : t.length = 8) (hg : g ≤ 2147483647) (hb : b ≤ 2147483647) (h : ∀ p ∈ t, p.1 ≤ 2147483647 ∧ p.2 ≤ 2147483647) : (headB ((g, b) :: t) text).length ≤ 90 + text.size := by
 have := tkB_len ((g, b) :: t) (by
  intro p hp
  rcases List.mem_cons.1 hp with rfl | hp
  · exact ⟨hg, hb⟩
  · exact h p hp)
 rw [List.length_cons, ht] at this
 have h2 : text.data.toList.length = text.size := rfl
 unfold headB
 rw [List.length_append, h2]
 omega
theorem hf_ok (g b : Nat) (t : List (Nat × Nat)) (text : ByteArray) (ht : t.length = 8) (hg : g ≤ 2147483647) (hb : b ≤ 2147483647) (h : ∀ p ∈ t, p.1 ≤ 2147483647 ∧ p.2 ≤ 2147483647) (hx : text.size ≤ 500) : okF (hf g b t text) := by
 have := headB_len g b t text ht hg hb h
 refine ⟨by show (1 : Int) ≤ 1; decide, by show (1 : Int) ≤ 255; decide, ?_⟩
 show (headB ((g, b) :: t) text).toArray.size ≤ 4000
 rw [List.size_toArray]; omega
theorem doneF_ok : okF doneF := by decide
theorem hot_head (g b : Nat) (t : List (Nat × Nat)) (text : ByteArray) (fs : List Fm) (ht : t.length = 8) (hg : g ≤ 2147483647) (hb : b ≤ 2147483647) (h : ∀ p ∈ t, p.1 ≤ 2147483647 ∧ p.2 ≤ 2147483647) (hx : text.size ≤ 500) :
 hotE (hf g b t text :: fs) = 0 ∧ hotL (hf g b t text :: fs) = readF (L0 g b t text) text fs := by
 have hk := head_back g b t text ht hg hb h hx
 have hd : (hf g b t text).2.data.toList = headB ((g, b) :: t) text := rfl
 have h1 : (hf g b t text).1 = 1 := rfl
 have hs : (hf g b t text).2.size = (headB ((g, b) :: t) text).length := by show (headB ((g, b) :: t) text).toArray.size = _; rw [List.size_toArray]
 have hc : ¬ ((hf g b t text).1 ≠ 1 ∨ hdOk (hf g b t text).2.data.toList = false) := by rw [h1, hd, hk.2]; decide
 constructor
 · simp only [hotE, if_neg hc]
 · simp only [hotL, if_neg hc]
   rw [hd, hk.1, hs]
   rfl
theorem okRs_snoc : ∀ (rs : List Rv) (l : Lg) (t : ByteArray) (r : Rv), okRs l t rs → oneE r = 0 → nextE (addLs l rs) (txt t rs rs.length).size r = 0 → okRs l t (rs ++ [r])
 | [], l, t, r, _, h1, h2 => ⟨h1, h2, trivial⟩
 | q :: rs, l, t, r, h, h1, h2 => ⟨h.1, h.2.1, okRs_snoc rs _ _ r h.2.2 h1 h2⟩
theorem readF8 : ∀ (fs : List Fm) (l : Lg) (t : ByteArray), Lg8 l → Lg8 (readF l t fs)
 | fs, l, t, h => by
   obtain ⟨_, _, _, h4, _, _, h7⟩ := readF_same fs l t
   exact ⟨by rw [h4]; exact h.1, by rw [h7]; exact h.2⟩
theorem hotL8 (fs : List Fm) : Lg8 (hotL fs) := by
 cases fs with
 | nil => exact lg0_8
 | cons f fs =>
   simp only [hotL]
   split
   · exact lg0_8
   · exact readF8 _ _ _ (hdL_8 _)
theorem frs_ok (l : List Rv) (h : ∀ r ∈ l, oneE r = 0) : ∀ p ∈ l.map frR, okF p := by
 intro p hp
 obtain ⟨r, hr, rfl⟩ := List.mem_map.1 hp
 exact frR_ok (h r hr)
end Go.Proofs.Ytokngfinnieccaa
