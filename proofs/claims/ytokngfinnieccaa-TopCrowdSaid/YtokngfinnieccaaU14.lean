/- Contracts of package disk. Contracts of disk.Sync and disk.Trim. The archive as a struct in a box: 47 cells; its small functions. A log that is written is read as it was written (pure). Contract of shop.New; Keep, Text. Contracts of shop.Text and shop.Keep. -/
import Derived.Test.YtokngfinnieccaaU1
import Derived.Test.YtokngfinnieccaaU2
import Derived.Test.YtokngfinnieccaaU11
import Derived.Test.YtokngfinnieccaaU13
import Derived.Deep.MidRow
namespace Go.Proofs.Ytokngfinnieccaa
open Go.ChangeShapes Go.WideShapes Go.RowKit
set_option linter.unusedVariables false
set_option linter.unusedSimpArgs false
set_option maxRecDepth 100000
set_option maxHeartbeats 4000000
abbrev Slt := ByteArray × Int
def dvl (x y : Slt) : Value := .agg #[.string x.1, .int .i64 x.2, .string y.1, .int .i64 y.2]
def sbad (s : Slt) : Int := if 1048576 < (s.1.size : Int) then 2 else if s.2 < 0 ∨ (s.1.size : Int) < s.2 then 3 else 0
def dchk (x y : Slt) : Int := if sbad x ≠ 0 then sbad x else sbad y
theorem sbad_cases (s : Slt) : (1048576 < (s.1.size : Int) ∧ sbad s = 2) ∨ ((s.1.size : Int) ≤ 1048576 ∧ (s.2 < 0 ∨ (s.1.size : Int) < s.2) ∧ sbad s = 3) ∨ ((s.1.size : Int) ≤ 1048576 ∧ 0 ≤ s.2 ∧ s.2 ≤ (s.1.size : Int) ∧ sbad s = 0) := by
 unfold sbad
 split
 · exact .inl ⟨by omega, rfl⟩
 · split
   · exact .inr (.inl ⟨by omega, by assumption, rfl⟩)
   · exact .inr (.inr ⟨by omega, by omega, by omega, rfl⟩)
theorem slot_at0 (a b : ByteArray) (sa sb : Int) (w : World) : (Instr.index 68 (.agg #[.string a, .int .i64 sa, .string b, .int .i64 sb]) (.int .i64 0)).run Try.prog w = .ok (.agg #[.string a, .int .i64 sa]) w := by kernel_rfl
theorem slot_at1 (a b : ByteArray) (sa sb : Int) (w : World) : (Instr.index 68 (.agg #[.string a, .int .i64 sa, .string b, .int .i64 sb]) (.int .i64 1)).run Try.prog w = .ok (.agg #[.string b, .int .i64 sb]) w := by kernel_rfl
theorem dcheck_any (x y : Slt) (w : World) :
 Calls Try.prog 98 #[dvl x y] w fun e w' => e = .returned (.int .i64 (dchk x y)) ∧ Below w.heap.size w w' := by
 obtain ⟨a, sa⟩ := x
 obtain ⟨b, sb⟩ := y
 unfold dvl
 simp only
 have i0 := slot_at0 a b sa sb
 have i1 := slot_at1 a b sa sb
 go_enter Try.func98, Try.ntmps98
 go_wp2_with fail
 refine wp_loop_rounds 3 ?_
 rw [rounds_succ]
 have bl : ∀ o o' : Obj, Below w.heap.size w ((w.alloc o).alloc o') := fun o o' => ((Below.refl _ _).alloc (Nat.le_refl _) _).alloc (by simp) _
 have bl3 : ∀ o o' o2 : Obj, Below w.heap.size w (((w.alloc o).alloc o').alloc o2) := fun o o' o2 => (((Below.refl _ _).alloc (Nat.le_refl _) _).alloc (by simp) _).alloc (by simp; omega) _
 have Bl := Lib.hid bl
 have Bl3 := Lib.hid bl3
 clear bl bl3
 rcases sbad_cases (a, sa) with h | h | h
 · simp only at h
   obtain ⟨h1, h2⟩ := h
   have hd : dchk (a, sa) (b, sb) = 2 := by unfold dchk; rw [h2]; rfl
   have Hd := Lib.hid hd
   clear h2 hd
   go_wp2_with fail
   go_ret
   exact ⟨by rw [Hd.out]; rfl, Bl.out _ _⟩
 · simp only at h
   obtain ⟨h1, h3, h2⟩ := h
   have hd : dchk (a, sa) (b, sb) = 3 := by unfold dchk; rw [h2]; rfl
   have Hd := Lib.hid hd
   clear h2 hd
   by_cases h4 : sa < 0
   all_goals go_wp2_with fail
   all_goals (first | omega | (go_ret; exact ⟨by rw [Hd.out]; rfl, Bl.out _ _⟩))
 · simp only at h
   obtain ⟨h1, h3, h4, h2⟩ := h
   have hd0 : dchk (a, sa) (b, sb) = sbad (b, sb) := by unfold dchk; rw [h2]; rfl
   rcases sbad_cases (b, sb) with k | k | k
   · simp only at k
     obtain ⟨k1, k2⟩ := k
     rw [k2] at hd0
     have Hd := Lib.hid hd0
     clear h2 hd0 k2
     go_wp2_with fail
     rw [rounds_succ]
     go_wp2_with fail
     go_ret
     exact ⟨by rw [Hd.out]; rfl, Bl3.out _ _ _⟩
   · simp only at k
     obtain ⟨k1, k3, k2⟩ := k
     rw [k2] at hd0
     have Hd := Lib.hid hd0
     clear h2 hd0 k2
     by_cases h5 : sb < 0
     all_goals go_wp2_with fail
     all_goals rw [rounds_succ]
     all_goals go_wp2_with fail
     all_goals (first | omega | (go_ret; exact ⟨by rw [Hd.out]; rfl, Bl3.out _ _ _⟩))
   · simp only at k
     obtain ⟨k1, k3, k4, k2⟩ := k
     rw [k2] at hd0
     have Hd := Lib.hid hd0
     clear h2 hd0 k2
     go_wp2_with fail
     rw [rounds_succ]
     go_wp2_with fail
     rw [rounds_succ]
     go_wp2_with fail
     go_ret
     exact ⟨by rw [Hd.out]; rfl, Bl3.out _ _ _⟩
def dlook (x y : Slt) (i : Int) : Int := if dchk x y ≠ 0 then dchk x y else if i < 0 ∨ 2 ≤ i then 1 else 0
theorem dlook_any (x y : Slt) (i : Int) (w : World) :
 Calls Try.prog 125 #[dvl x y, .int .i64 i] w fun e w' => e = .returned (.int .i64 (dlook x y i)) ∧ Below w.heap.size w w' := by
 obtain ⟨a, sa⟩ := x
 obtain ⟨b, sb⟩ := y
 unfold dvl
 simp only
 go_enter Try.func125, Try.ntmps125
 go_wp2_with fail
 refine (dcheck_any (a, sa) (b, sb) _).mono ?_
 rintro e w1 ⟨rfl, hb1⟩
 have hbw : Below w.heap.size w w1 := ((Below.refl w.heap.size w).alloc (Nat.le_refl _) _).trans (hb1.mono (by simp))
 clear hb1
 by_cases hc : dchk (a, sa) (b, sb) = 0
 · rw [hc]
   by_cases h1 : i < 0
   · have hd : dlook (a, sa) (b, sb) i = 1 := by unfold dlook; rw [hc]; simp [h1]
     have Hd := Lib.hid hd
     clear hd hc
     go_wp2_with fail
     go_ret
     exact ⟨by rw [Hd.out]; rfl, hbw⟩
   by_cases h2 : 2 ≤ i
   · have hd : dlook (a, sa) (b, sb) i = 1 := by unfold dlook; rw [hc]; simp [h2]
     have Hd := Lib.hid hd
     clear hd hc
     go_wp2_with fail
     go_ret
     exact ⟨by rw [Hd.out]; rfl, hbw⟩
   · have hd : dlook (a, sa) (b, sb) i = 0 := by unfold dlook; rw [hc]; simp; omega
     have Hd := Lib.hid hd
     clear hd hc
     go_wp2_with fail
     go_ret
     exact ⟨by rw [Hd.out]; rfl, hbw⟩
 · have hd : dlook (a, sa) (b, sb) i = dchk (a, sa) (b, sb) := by unfold dlook; simp [hc]
   have hne : ((dchk (a, sa) (b, sb)) != 0) = true := by simpa using hc
   have Hd := Lib.hid hd
   clear hd hc
   go_wp2_with fail
   go_ret
   exact ⟨by rw [Hd.out]; rfl, hbw⟩
def dres (x y : Slt) (e : Int) : Value := .tuple #[dvl x y, .int .i64 e]
def dzero : Slt := (⟨#[]⟩, 0)
theorem disk_end {fn : Func} {R : Ending → World → Prop} {a : Act} {W : World} {g : Nat} {x y : Slt} {e : Int} {p q : Tmp} (hres : fn.results = #[.cell p 70, .tmp q])
 (hp : a.tmps.getD p undef = .pointer (some ⟨g, 0, none⟩)) (hq : a.tmps.getD q undef = .int .i64 e) (hd : a.defers = [])
 (hB : Blk W g 70 #[.string x.1, .int .i64 x.2, .string y.1, .int .i64 y.2]) (hR : R (.returned (dres x y e)) W) : bodyPost Try.prog fn R .ret a W := by
 refine bodyPost_ret (v := dres x y e) ?_ hd hR
 have hl := run_loadVar_row (P := Try.prog) W g 70 70 _ _ _ hB Try.underlying70 rfl (by kernel_rfl)
 have hp' : a.tmps[p]?.getD undef = .pointer (some ⟨g, 0, none⟩) := by simpa using hp
 have hq' : a.tmps[q]?.getD undef = .int .i64 e := by simpa using hq
 simp [results, hres, hp', hq', asAddr, hl, dres, dvl]
theorem dlook_zero (x y : Slt) (i : Int) (h : dlook x y i = 0) : (i = 0 ∨ i = 1) ∧ (x.1.size : Int) ≤ 1048576 ∧ (y.1.size : Int) ≤ 1048576 ∧ 0 ≤ x.2 ∧ x.2 ≤ (x.1.size : Int) ∧ 0 ≤ y.2 ∧ y.2 ≤ (y.1.size : Int) := by
 unfold dlook dchk at h
 rcases sbad_cases x with hx | hx | hx <;> rcases sbad_cases y with hy | hy | hy <;> simp [hx, hy] at h <;> omega
def dapp (x y : Slt) (i : Int) (s : ByteArray) : Slt × Slt × Int :=
 if i = 0 then (if 1048576 < x.1.size + s.size then (dzero, dzero, 2) else ((x.1 ++ s, x.2), y, 0))
 else (if 1048576 < y.1.size + s.size then (dzero, dzero, 2) else (x, (y.1 ++ s, y.2), 0))
theorem dappend_good (x y : Slt) (i : Int) (s : ByteArray) (hs : s.size ≤ 140737488351232) (w : World) (h : dlook x y i = 0) :
 Calls Try.prog 112 #[dvl x y, .int .i64 i, .string s] w fun e w' => e = .returned (dres (dapp x y i s).1 (dapp x y i s).2.1 (dapp x y i s).2.2) ∧ Below w.heap.size w w' := by
 obtain ⟨a, sa⟩ := x
 obtain ⟨b, sb⟩ := y
 unfold dvl
 simp only
 have hz := dlook_zero _ _ _ h
 simp only at hz
 obtain ⟨hi, ha, hb, ha0, ha1, hb0, hb1'⟩ := hz
 go_enter Try.func112, Try.ntmps112
 go_wp2_with fail
 refine (dlook_any (a, sa) (b, sb) i _).mono ?_
 rintro e w1 ⟨rfl, hb1⟩
 have hD := ((Blk.new w 70 #[.string a, .int .i64 sa, .string b, .int .i64 sb]).alloc (.cells #[.string ⟨#[]⟩, .int .i64 0, .string ⟨#[]⟩, .int .i64 0] 70)).below hb1 (by simp; omega)
 have hR := (Blk.new (w.alloc (.cells #[.string a, .int .i64 sa, .string b, .int .i64 sb] 70)) 70 #[.string ⟨#[]⟩, .int .i64 0, .string ⟨#[]⟩, .int .i64 0]).below hb1 (by simp)
 simp only [World.size_alloc] at hR
 have hbw : Below w.heap.size w w1 := (((Below.refl w.heap.size w).alloc (Nat.le_refl _) _).alloc (by simp) _).trans (hb1.mono (by simp; omega))
 rw [h]
 have c0 := hR.cell 0
 have c1 := hR.cell 1
 have c2 := hR.cell 2
 have c3 := hR.cell 3
 have f0 := hR.frozen 0
 have f1 := hR.frozen 1
 have f2 := hR.frozen 2
 have f3 := hR.frozen 3
 have d0 := hD.cell 0
 have d1 := hD.cell 1
 have d2 := hD.cell 2
 have d3 := hD.cell 3
 have g0 := hD.frozen 0
 have g1 := hD.frozen 1
 have g2 := hD.frozen 2
 have g3 := hD.frozen 3
 clear hb1 h
 have HR := Lib.hid hR
 have HD := Lib.hid hD
 clear hR hD
 rcases hi with rfl | rfl
 · by_cases hl : 1048576 < (a.size : Int) + s.size
   · have he : dapp (a, sa) (b, sb) 0 s = (dzero, dzero, 2) := by unfold dapp; rw [if_pos rfl, if_pos (by simp only; omega)]
     have he' := Lib.hid he
     clear he
     go_wp2_with fail
     exact disk_end (g := w.heap.size + 1) (x := dzero) (y := dzero) (e := 2) rfl rfl rfl rfl ((((HR.out.set_ 0 _).set_ 1 _).set_ 2 _).set_ 3 _)
      ⟨by rw [he'.out], (((hbw.setCell (p := ⟨w.heap.size + 1, 0, none⟩) (by simp) _).setCell (p := ⟨w.heap.size + 1, 1, none⟩) (by simp) _).setCell (p := ⟨w.heap.size + 1, 2, none⟩) (by simp) _).setCell (p := ⟨w.heap.size + 1, 3, none⟩) (by simp) _⟩
   · have he : dapp (a, sa) (b, sb) 0 s = ((a ++ s, sa), (b, sb), 0) := by unfold dapp; rw [if_pos rfl, if_neg (by simp only; omega)]
     have he' := Lib.hid he
     clear he
     go_wp2_with fail
     refine disk_end (g := w.heap.size + 1) (x := (a ++ s, sa)) (y := (b, sb)) (e := 0) rfl rfl rfl rfl ((((((HR.out.far (p := ⟨w.heap.size, 0, none⟩) (by simp) _)).set_ 0 _).set_ 1 _).set_ 2 _).set_ 3 _)
      ⟨by rw [he'.out], ((((hbw.setCell (p := ⟨w.heap.size, 0, none⟩) (by simp) _).setCell (p := ⟨w.heap.size + 1, 0, none⟩) (by simp) _).setCell (p := ⟨w.heap.size + 1, 1, none⟩) (by simp) _).setCell (p := ⟨w.heap.size + 1, 2, none⟩) (by simp) _).setCell (p := ⟨w.heap.size + 1, 3, none⟩) (by simp) _⟩
 · by_cases hl : 1048576 < (b.size : Int) + s.size
   · have he : dapp (a, sa) (b, sb) 1 s = (dzero, dzero, 2) := by unfold dapp; rw [if_neg (by decide), if_pos (by simp only; omega)]
     have he' := Lib.hid he
     clear he
     go_wp2_with fail
     exact disk_end (g := w.heap.size + 1) (x := dzero) (y := dzero) (e := 2) rfl rfl rfl rfl ((((HR.out.set_ 0 _).set_ 1 _).set_ 2 _).set_ 3 _)
      ⟨by rw [he'.out], (((hbw.setCell (p := ⟨w.heap.size + 1, 0, none⟩) (by simp) _).setCell (p := ⟨w.heap.size + 1, 1, none⟩) (by simp) _).setCell (p := ⟨w.heap.size + 1, 2, none⟩) (by simp) _).setCell (p := ⟨w.heap.size + 1, 3, none⟩) (by simp) _⟩
   · have he : dapp (a, sa) (b, sb) 1 s = ((a, sa), (b ++ s, sb), 0) := by unfold dapp; rw [if_neg (by decide), if_neg (by simp only; omega)]
     have he' := Lib.hid he
     clear he
     go_wp2_with fail
     refine disk_end (g := w.heap.size + 1) (x := (a, sa)) (y := (b ++ s, sb)) (e := 0) rfl rfl rfl rfl ((((((HR.out.far (p := ⟨w.heap.size, 2, none⟩) (by simp) _)).set_ 0 _).set_ 1 _).set_ 2 _).set_ 3 _)
      ⟨by rw [he'.out], ((((hbw.setCell (p := ⟨w.heap.size, 2, none⟩) (by simp) _).setCell (p := ⟨w.heap.size + 1, 0, none⟩) (by simp) _).setCell (p := ⟨w.heap.size + 1, 1, none⟩) (by simp) _).setCell (p := ⟨w.heap.size + 1, 2, none⟩) (by simp) _).setCell (p := ⟨w.heap.size + 1, 3, none⟩) (by simp) _⟩
def dsyn (x y : Slt) (i : Int) : Slt × Slt := if i = 0 then ((x.1, (x.1.size : Int)), y) else (x, (y.1, (y.1.size : Int)))
theorem dsync_good (x y : Slt) (i : Int) (w : World) (h : dlook x y i = 0) :
 Calls Try.prog 113 #[dvl x y, .int .i64 i] w fun e w' => e = .returned (dres (dsyn x y i).1 (dsyn x y i).2 0) ∧ Below w.heap.size w w' := by
 obtain ⟨a, sa⟩ := x
 obtain ⟨b, sb⟩ := y
 unfold dvl
 simp only
 have hz := dlook_zero _ _ _ h
 simp only at hz
 obtain ⟨hi, ha, hb, ha0, ha1, hb0, hb1'⟩ := hz
 go_enter Try.func113, Try.ntmps113
 go_wp2_with fail
 refine (dlook_any (a, sa) (b, sb) i _).mono ?_
 rintro e w1 ⟨rfl, hb1⟩
 have hD := ((Blk.new w 70 #[.string a, .int .i64 sa, .string b, .int .i64 sb]).alloc (.cells #[.string ⟨#[]⟩, .int .i64 0, .string ⟨#[]⟩, .int .i64 0] 70)).below hb1 (by simp; omega)
 have hR := (Blk.new (w.alloc (.cells #[.string a, .int .i64 sa, .string b, .int .i64 sb] 70)) 70 #[.string ⟨#[]⟩, .int .i64 0, .string ⟨#[]⟩, .int .i64 0]).below hb1 (by simp)
 simp only [World.size_alloc] at hR
 have hbw : Below w.heap.size w w1 := (((Below.refl w.heap.size w).alloc (Nat.le_refl _) _).alloc (by simp) _).trans (hb1.mono (by simp; omega))
 rw [h]
 have c0 := hR.cell 0
 have f0 := hR.frozen 0
 have c1 := hR.cell 1
 have f1 := hR.frozen 1
 have c2 := hR.cell 2
 have f2 := hR.frozen 2
 have c3 := hR.cell 3
 have f3 := hR.frozen 3
 have d0 := hD.cell 0
 have g0 := hD.frozen 0
 have d1 := hD.cell 1
 have g1 := hD.frozen 1
 have d2 := hD.cell 2
 have g2 := hD.frozen 2
 have d3 := hD.cell 3
 have g3 := hD.frozen 3
 clear hb1 h
 have HR := Lib.hid hR
 have HD := Lib.hid hD
 clear hR hD
 rcases hi with rfl | rfl
 · go_wp2_with fail
   exact disk_end (g := w.heap.size + 1) (x := (a, (a.size : Int))) (y := (b, sb)) (e := 0) rfl rfl rfl rfl ((((((((((HR.out).far (p := ⟨w.heap.size, 1, none⟩) (by simp) _)).set_ 0 _)).set_ 1 _)).set_ 2 _)).set_ 3 _) ⟨rfl, ((((((((((hbw).setCell (p := ⟨w.heap.size, 1, none⟩) (by simp) _)).setCell (p := ⟨w.heap.size + 1, 0, none⟩) (by simp) _)).setCell (p := ⟨w.heap.size + 1, 1, none⟩) (by simp) _)).setCell (p := ⟨w.heap.size + 1, 2, none⟩) (by simp) _)).setCell (p := ⟨w.heap.size + 1, 3, none⟩) (by simp) _)⟩
 · go_wp2_with fail
   exact disk_end (g := w.heap.size + 1) (x := (a, sa)) (y := (b, (b.size : Int))) (e := 0) rfl rfl rfl rfl ((((((((((HR.out).far (p := ⟨w.heap.size, 3, none⟩) (by simp) _)).set_ 0 _)).set_ 1 _)).set_ 2 _)).set_ 3 _) ⟨rfl, ((((((((((hbw).setCell (p := ⟨w.heap.size, 3, none⟩) (by simp) _)).setCell (p := ⟨w.heap.size + 1, 0, none⟩) (by simp) _)).setCell (p := ⟨w.heap.size + 1, 1, none⟩) (by simp) _)).setCell (p := ⟨w.heap.size + 1, 2, none⟩) (by simp) _)).setCell (p := ⟨w.heap.size + 1, 3, none⟩) (by simp) _)⟩
structure Sh where
 d0 : Slt
 d1 : Slt
 at_ : Nat
 log : Lg
 text : ByteArray
 safe : Int
 old : Bool
def shP (s : Sh) : List Value := [.string s.d0.1, .int .i64 s.d0.2, .string s.d1.1, .int .i64 s.d1.2, .int .i64 s.at_]
def shR (s : Sh) (mp : Option Addr) : List Value := [.string s.text, .int .i64 s.safe, .pointer mp, .bool s.old]
def shc (s : Sh) (sl : Sl) (mp : Option Addr) : Array Value := lgin (shP s) s.log sl (shR s mp)
section
variable {s : Sh} {sl : Sl} {mp : Option Addr}
theorem shc_0 : (shc s sl mp)[0]? = some (.string s.d0.1) := rfl
theorem shc_1 : (shc s sl mp)[1]? = some (.int .i64 s.d0.2) := rfl
theorem shc_2 : (shc s sl mp)[2]? = some (.string s.d1.1) := rfl
theorem shc_3 : (shc s sl mp)[3]? = some (.int .i64 s.d1.2) := rfl
theorem shc_at : (shc s sl mp)[4]? = some (.int .i64 s.at_) := rfl
theorem shc_log (i : Nat) (hi : i < 38) (h8 : Lg8 s.log) : (shc s sl mp)[5 + i]? = (lgc s.log sl)[i]? := lgin_at (shP s) s.log sl (shR s mp) 5 i rfl h8 hi
theorem shc_tail (i : Nat) (h8 : Lg8 s.log) : (shc s sl mp)[43 + i]? = (shR s mp)[i]? := by
 unfold shc lgin
 rw [List.getElem?_toArray, List.getElem?_append_right (by simp [shP]; omega), List.getElem?_append_right (by rw [lgl_len h8]; simp [shP]; omega)]
 congr 1
 rw [lgl_len h8]
 simp [shP]
 omega
theorem shc_text (h8 : Lg8 s.log) : (shc s sl mp)[43]? = some (.string s.text) := shc_tail 0 h8
theorem shc_mv (h8 : Lg8 s.log) : (shc s sl mp)[45]? = some (.pointer mp) := shc_tail 2 h8
theorem shc_base (h8 : Lg8 s.log) : (shc s sl mp)[6]? = some (.int .i64 s.log.base) := (shc_log 1 (by decide) h8).trans lgc_base
theorem shc_revs (h8 : Lg8 s.log) : (shc s sl mp)[40]? = some (.slice sl.1 sl.2.1 sl.2.2) := (shc_log 35 (by decide) h8).trans (lgc_revs h8)
theorem shc_disk (x y : Slt) : ((((shc s sl mp).setIfInBounds 0 (.string x.1)).setIfInBounds 1 (.int .i64 x.2)).setIfInBounds 2 (.string y.1)).setIfInBounds 3 (.int .i64 y.2) = shc { s with d0 := x, d1 := y } sl mp := by
 unfold shc lgin
 simp only [List.setIfInBounds_toArray]
 rfl
theorem shc_size (h8 : Lg8 s.log) : (shc s sl mp).size = 47 := by
 unfold shc lgin
 rw [List.size_toArray, List.length_append, List.length_append, lgl_len h8]
 rfl
end
theorem sput_any (q : Nat) (s : Sh) (sl : Sl) (mp : Option Addr) (i : Int) (t : ByteArray) (w : World) (hk : Blk w q 134 (shc s sl mp)) (hl : dlook s.d0 s.d1 i = 0) (ht : t.size ≤ 140737488351232) :
 Calls Try.prog 82 #[.pointer (some ⟨q, 0, none⟩), .int .i64 i, .string t] w fun e w' => e = .returned (.tuple #[]) ∧ Blk w' q 134 (shc { s with d0 := (dapp s.d0 s.d1 i t).1, d1 := (dapp s.d0 s.d1 i t).2.1 } sl mp) ∧ Only w w' (fun k => k = q) := by
 have hc := dappend_good s.d0 s.d1 i t ht w hl
 obtain ⟨X, hX⟩ : ∃ X, (dapp s.d0 s.d1 i t).1 = X := ⟨_, rfl⟩
 obtain ⟨Y, hY⟩ : ∃ Y, (dapp s.d0 s.d1 i t).2.1 = Y := ⟨_, rfl⟩
 rw [hX, hY] at hc ⊢
 clear hX hY
 obtain ⟨x1, x2⟩ := X
 obtain ⟨y1, y2⟩ := Y
 unfold dres dvl at hc
 simp only at hc
 have Hc := Lib.hid hc
 clear hc
 have c0 := hk.cell 0
 have c1 := hk.cell 1
 have c2 := hk.cell 2
 have c3 := hk.cell 3
 rw [shc_0] at c0
 rw [shc_1] at c1
 rw [shc_2] at c2
 rw [shc_3] at c3
 have lk := hk.lt
 go_enter Try.func82, Try.ntmps82
 go_wp2_with fail
 refine Hc.out.mono ?_
 rintro e w1 ⟨rfl, hb⟩
 have k1 := hk.below hb lk
 have ho := Only.of_below (S := fun k => k = q) hb
 clear c0 c1 c2 c3 lk hb Hc
 have c0 := k1.cell 0
 have c1 := k1.cell 1
 have c2 := k1.cell 2
 have c3 := k1.cell 3
 rw [shc_0] at c0
 rw [shc_1] at c1
 rw [shc_2] at c2
 rw [shc_3] at c3
 have f0 := k1.frozen 0
 have f1 := k1.frozen 1
 have f2 := k1.frozen 2
 have f3 := k1.frozen 3
 have lk := k1.lt
 go_wp2_with fail
 go_end0
 have k2 := (((k1.set_ 0 (.string x1)).set_ 1 (.int .i64 x2)).set_ 2 (.string y1)).set_ 3 (.int .i64 y2)
 rw [show ((((shc s sl mp).setIfInBounds 0 (.string x1)).setIfInBounds 1 (.int .i64 x2)).setIfInBounds 2 (.string y1)).setIfInBounds 3 (.int .i64 y2) = shc { s with d0 := (x1, x2), d1 := (y1, y2) } sl mp from shc_disk (x1, x2) (y1, y2)] at k2
 exact ⟨rfl, k2, ho.trans ((((Only.setSelf _ q 0 _).trans (Only.setSelf _ q 1 _)).trans (Only.setSelf _ q 2 _)).trans (Only.setSelf _ q 3 _))⟩
theorem ssync_any (q : Nat) (s : Sh) (sl : Sl) (mp : Option Addr) (i : Int) (w : World) (hk : Blk w q 134 (shc s sl mp)) (hl : dlook s.d0 s.d1 i = 0) :
 Calls Try.prog 84 #[.pointer (some ⟨q, 0, none⟩), .int .i64 i] w fun e w' => e = .returned (.tuple #[]) ∧ Blk w' q 134 (shc { s with d0 := (dsyn s.d0 s.d1 i).1, d1 := (dsyn s.d0 s.d1 i).2 } sl mp) ∧ Only w w' (fun k => k = q) := by
 have hc := dsync_good s.d0 s.d1 i w hl
 obtain ⟨X, hX⟩ : ∃ X, (dsyn s.d0 s.d1 i).1 = X := ⟨_, rfl⟩
 obtain ⟨Y, hY⟩ : ∃ Y, (dsyn s.d0 s.d1 i).2 = Y := ⟨_, rfl⟩
 rw [hX, hY] at hc ⊢
 clear hX hY
 obtain ⟨x1, x2⟩ := X
 obtain ⟨y1, y2⟩ := Y
 unfold dres dvl at hc
 simp only at hc
 have Hc := Lib.hid hc
 clear hc
 have c0 := hk.cell 0
 have c1 := hk.cell 1
 have c2 := hk.cell 2
 have c3 := hk.cell 3
 rw [shc_0] at c0
 rw [shc_1] at c1
 rw [shc_2] at c2
 rw [shc_3] at c3
 have lk := hk.lt
 go_enter Try.func84, Try.ntmps84
 go_wp2_with fail
 refine Hc.out.mono ?_
 rintro e w1 ⟨rfl, hb⟩
 have k1 := hk.below hb lk
 have ho := Only.of_below (S := fun k => k = q) hb
 clear c0 c1 c2 c3 lk hb Hc
 have c0 := k1.cell 0
 have c1 := k1.cell 1
 have c2 := k1.cell 2
 have c3 := k1.cell 3
 rw [shc_0] at c0
 rw [shc_1] at c1
 rw [shc_2] at c2
 rw [shc_3] at c3
 have f0 := k1.frozen 0
 have f1 := k1.frozen 1
 have f2 := k1.frozen 2
 have f3 := k1.frozen 3
 have lk := k1.lt
 go_wp2_with fail
 go_end0
 have k2 := (((k1.set_ 0 (.string x1)).set_ 1 (.int .i64 x2)).set_ 2 (.string y1)).set_ 3 (.int .i64 y2)
 rw [show ((((shc s sl mp).setIfInBounds 0 (.string x1)).setIfInBounds 1 (.int .i64 x2)).setIfInBounds 2 (.string y1)).setIfInBounds 3 (.int .i64 y2) = shc { s with d0 := (x1, x2), d1 := (y1, y2) } sl mp from shc_disk (x1, x2) (y1, y2)] at k2
 exact ⟨rfl, k2, ho.trans ((((Only.setSelf _ q 0 _).trans (Only.setSelf _ q 1 _)).trans (Only.setSelf _ q 2 _)).trans (Only.setSelf _ q 3 _))⟩
theorem shead_any (q : Nat) (s : Sh) (sl : Sl) (mp : Option Addr) (w : World) (hk : Blk w q 134 (shc s sl mp)) (h8 : Lg8 s.log) (hsl : sl.2.1 = s.log.revs.length) (hb0 : 0 ≤ s.log.base) (hb1 : s.log.base ≤ 2147483647) (hr : s.log.revs.length ≤ 1000) :
 Calls Try.prog 40 #[.pointer (some ⟨q, 0, none⟩)] w fun e w' => e = .returned (.int .i64 (s.log.base + s.log.revs.length)) ∧ Below w.heap.size w w' := by
 have c6 := hk.cell 6
 rw [shc_base h8] at c6
 have c40 := hk.cell 40
 rw [shc_revs h8] at c40
 have lk := hk.lt
 obtain ⟨A, n, c⟩ := sl
 simp only at hsl c40
 rw [← hsl] at hr ⊢
 obtain ⟨Ba, hBa⟩ : ∃ Ba, s.log.base = Ba := ⟨_, rfl⟩
 rw [hBa] at c6 hb0 hb1 ⊢
 have hw : IntKind.i64.wrap (Ba + (n : Int)) = Ba + (n : Int) := IntWalk.i64_in _ (by omega)
 clear hBa hsl hk
 go_enter Try.func40, Try.ntmps40
 go_upto_region 1 with (fail)
 go_quiet (fail)
 go_wp2_with fail
 go_ret
 exact ⟨rfl, below_drewN_ (Below.refl _ _) _⟩
theorem there_any (q : Nat) (s : Sh) (sl : Sl) (mp : Option Addr) (r : Int) (w : World) (hk : Blk w q 134 (shc s sl mp)) (h8 : Lg8 s.log) (hsl : sl.2.1 = s.log.revs.length) (hb0 : 0 ≤ s.log.base) (hb1 : s.log.base ≤ 2147483647) (hr : s.log.revs.length ≤ 1000) :
 Calls Try.prog 88 #[.pointer (some ⟨q, 0, none⟩), .int .i64 r] w fun e w' => e = .returned (.int .i64 (if r < s.log.base then 9 else if s.log.base + s.log.revs.length < r then 8 else 0)) ∧ Below w.heap.size w w' := by
 have hh := fun w (hk : Blk w q 134 (shc s sl mp)) => shead_any q s sl mp w hk h8 hsl hb0 hb1 hr
 have Hh := Lib.hid (hh w hk)
 have c6 := hk.cell 6
 rw [shc_base h8] at c6
 have lk := hk.lt
 obtain ⟨Hd, hHd⟩ : ∃ Hd, s.log.base + s.log.revs.length = Hd := ⟨_, rfl⟩
 obtain ⟨Ba, hBa⟩ : ∃ Ba, s.log.base = Ba := ⟨_, rfl⟩
 rw [hHd] at Hh
 rw [hBa] at c6
 rw [hHd, hBa]
 clear hh hHd hBa hsl hb0 hb1 hr h8 hk
 by_cases h1 : r < Ba
 · rw [if_pos h1]
   go_enter Try.func88, Try.ntmps88
   go_wp2_with fail
   go_ret
   exact ⟨rfl, Below.refl _ _⟩
 · rw [if_neg h1]
   by_cases h2 : Hd < r
   · rw [if_pos h2]
     go_enter Try.func88, Try.ntmps88
     go_wp2_with fail
     refine Hh.out.mono ?_
     rintro e w1 ⟨rfl, hb⟩
     go_wp2_with fail
     go_ret
     exact ⟨rfl, hb⟩
   · rw [if_neg h2]
     go_enter Try.func88, Try.ntmps88
     go_wp2_with fail
     refine Hh.out.mono ?_
     rintro e w1 ⟨rfl, hb⟩
     go_wp2_with fail
     go_ret
     exact ⟨rfl, hb⟩
end Go.Proofs.Ytokngfinnieccaa
namespace Go.Proofs.Ytokngfinnieccaa
set_option linter.unusedVariables false
set_option linter.unusedSimpArgs false
set_option maxRecDepth 100000
set_option maxHeartbeats 4000000
def tz : List (Nat × Nat) := List.replicate 8 (0, 0)
theorem tz_le : ∀ p ∈ tz, p.1 ≤ 2147483647 ∧ p.2 ≤ 2147483647 := by
 intro p hp
 rw [tz, List.mem_replicate] at hp
 rw [hp.2]
 exact ⟨by decide, by decide⟩
def hf (g b : Nat) (t : List (Nat × Nat)) (text : ByteArray) : Fm := (1, ⟨(headB ((g, b) :: t) text).toArray⟩)
def doneF : Fm := (3, ⟨#[]⟩)
def L0 (g b : Nat) (t : List (Nat × Nat)) (text : ByteArray) : Lg := ⟨g, b, text, tbN t, tbN t, [], false, ((headB ((g, b) :: t) text).length + 7 : Nat)⟩
theorem hdB_tx (g b : Nat) (t : List (Nat × Nat)) (text : ByteArray) : (hdB g b t text).data.toList = txF (hf g b t text) := by simp [hdB, hf]
theorem frB_tx (r : Rv) : (frB r).data.toList = txF (frR r) := by simp [frB]
theorem headB_len (g b : Nat) (t : List (Nat × Nat)) (text : ByteArray) (ht : t.length = 8) (hg : g ≤ 2147483647) (hb : b ≤ 2147483647) (h : ∀ p ∈ t, p.1 ≤ 2147483647 ∧ p.2 ≤ 2147483647) : (headB ((g, b) :: t) text).length ≤ 90 + text.size := by
 have := tkB_len ((g, b) :: t) (by
  intro p hp
  rcases List.mem_cons.1 hp with rfl | hp
  · exact ⟨hg, hb⟩
  · exact h p hp)
 rw [List.length_cons, ht] at this
 have h2 : text.data.toList.length = text.size := rfl
 unfold headB
 rw [List.length_append, h2]
 omega
theorem okRs_snoc : ∀ (rs : List Rv) (l : Lg) (t : ByteArray) (r : Rv), okRs l t rs → oneE r = 0 → nextE (addLs l rs) (txt t rs rs.length).size r = 0 → okRs l t (rs ++ [r])
 | [], l, t, r, _, h1, h2 => ⟨h1, h2, trivial⟩
 | q :: rs, l, t, r, h, h1, h2 => ⟨h.1, h.2.1, okRs_snoc rs _ _ r h.2.2 h1 h2⟩
end Go.Proofs.Ytokngfinnieccaa
namespace Go.Proofs.Ytokngfinnieccaa
open Go.ChangeShapes Go.WideShapes Go.RowKit
set_option linter.unusedVariables false
set_option linter.unusedSimpArgs false
set_option maxRecDepth 100000
set_option maxHeartbeats 4000000
def sh0 : Sh := ⟨dzero, dzero, 0, lg0, ⟨#[]⟩, 0, false⟩
def lgN : Lg := ⟨1, 0, ⟨#[]⟩, tb0, tb0, [], true, 0⟩
theorem built_logN : Try.prog.built 131 [(0, .int .i64 1), (6, .bool true)] = some (lgc lgN (none, 0, 0)) := by kernel_rfl
def dN : ByteArray := hdB 1 0 tz ⟨#[]⟩ ++ doneT
def shN : Sh := ⟨(dN, (dN.size : Int)), dzero, 0, lgN, ⟨#[]⟩, 0, false⟩
theorem shop_table_range {w : World} {q : Nat} {s : Sh} {sl : Sl} {mp : Option Addr} (h : Blk w q 134 (shc s sl mp)) (h8 : Lg8 s.log) : w.rangeAt q 24 (tc s.log.table) := h.range fun j v hj => by
 have hjl : j < 16 := by have := (List.getElem?_eq_some_iff.1 hj).1; rw [tc_len, h8.2] at this; exact this
 rw [show 24 + j = 5 + (19 + j) by omega, shc_log _ (by omega) h8, lgc_at, lgl_table h8 j hjl]; exact hj
theorem shop_log_there {w : World} {q : Nat} {s : Sh} {sl : Sl} {mp : Option Addr} (h : Blk w q 134 (shc s sl mp)) (h8 : Lg8 s.log) : w.there q 5 38 := h.there (by rw [shc_size h8]; decide)
theorem shc_setlog (s : Sh) (sl sl' : Sl) (mp : Option Addr) (l : Lg) (h8 : Lg8 s.log) (h8' : Lg8 l) : setL (shc s sl mp) 5 (lgl l sl') = shc { s with log := l } sl' mp := by
 have e := setL_mid (lgl l sl') (lgl s.log sl) (shP s) (shR s mp) (by rw [lgl_len h8, lgl_len h8'])
 exact e
theorem dN_size : dN.size ≤ 700 := by
 have h1 : (hdB 1 0 tz ⟨#[]⟩).data.toList.length = (hdB 1 0 tz ⟨#[]⟩).size := rfl
 rw [hdB_tx, txF_len] at h1
 have h2 : (hf 1 0 tz ⟨#[]⟩).2.size ≤ 90 + (⟨#[]⟩ : ByteArray).size := by
  show (headB ((1, 0) :: tz) ⟨#[]⟩).toArray.size ≤ _
  rw [List.size_toArray]
  exact headB_len 1 0 tz ⟨#[]⟩ rfl (by decide) (by decide) tz_le
 have h3 : (⟨#[]⟩ : ByteArray).size = 0 := rfl
 have h4 : doneT.size = 7 := rfl
 unfold dN
 rw [ByteArray.size_append]
 omega
theorem snew_any (w : World) :
 Calls Try.prog 41 #[] w fun e w' => ∃ q, e = .returned (.pointer (some ⟨q, 0, none⟩)) ∧ w.heap.size ≤ q ∧ Blk w' q 134 (shc shN (none, 0, 0) none) ∧ Below w.heap.size w w' := by
 have hh : ∀ w, Calls Try.prog 81 #[.int .i64 1, .int .i64 0, .string ⟨#[]⟩, .agg (tc tb0).toArray] w fun e w' => e = .returned (.tuple #[.string (hdB 1 0 tz ⟨#[]⟩), .int .i64 0]) ∧ Below w.heap.size w w' := fun w => hhead_good 1 0 tz ⟨#[]⟩ rfl (by decide) (by decide) tz_le w (by decide)
 have hdn := fun w => hdone_any w
 have hdz := dN_size
 have hcat : hdB 1 0 tz ⟨#[]⟩ ++ doneT = dN := rfl
 have hl1 : dlook sh0.d0 sh0.d1 0 = 0 := by decide
 have hp : ∀ (q : Nat) (w : World), Blk w q 134 (shc sh0 (none, 0, 0) none) → Calls Try.prog 82 #[.pointer (some ⟨q, 0, none⟩), .int .i64 0, .string dN] w fun e w' => e = .returned (.tuple #[]) ∧ Blk w' q 134 (shc { sh0 with d0 := (dN, 0) } (none, 0, 0) none) ∧ Only w w' (fun k => k = q) := by
  intro q w hk
  have hc := sput_any q sh0 (none, 0, 0) none 0 dN w hk hl1 (by omega)
  have e : dapp sh0.d0 sh0.d1 0 dN = ((dN, 0), dzero, 0) := by
   unfold dapp
   rw [if_pos rfl, if_neg (by show ¬ 1048576 < (⟨#[]⟩ : ByteArray).size + dN.size; have : (⟨#[]⟩ : ByteArray).size = 0 := rfl; omega)]
   show ((⟨#[]⟩ ++ dN, (0 : Int)), dzero, (0 : Int)) = _
   rw [show (⟨#[]⟩ : ByteArray) ++ dN = dN from by apply ba_list; rw [bs_append]; rfl]
  rw [e] at hc
  exact hc
 have hsn : ∀ (q : Nat) (w : World), Blk w q 134 (shc { sh0 with d0 := (dN, 0) } (none, 0, 0) none) → Calls Try.prog 84 #[.pointer (some ⟨q, 0, none⟩), .int .i64 0] w fun e w' => e = .returned (.tuple #[]) ∧ Blk w' q 134 (shc { sh0 with d0 := (dN, (dN.size : Int)) } (none, 0, 0) none) ∧ Only w w' (fun k => k = q) := by
  intro q w hk
  have hl2 : dlook (dN, 0) dzero 0 = 0 := by
   have h1 : sbad (dN, 0) = 0 := by unfold sbad; rw [if_neg (by simp only; omega), if_neg (by simp only; omega)]
   have h2 : sbad dzero = 0 := by decide
   have h3 : dchk (dN, 0) dzero = 0 := by unfold dchk; rw [h1, if_neg (by decide), h2]
   unfold dlook
   rw [h3, if_neg (by decide), if_neg (by decide)]
  have hc := ssync_any q { sh0 with d0 := (dN, 0) } (none, 0, 0) none 0 w hk hl2
  exact hc
 have hcz : (9223372036854775807 < (hdB 1 0 tz ⟨#[]⟩).size + doneT.size) = False := by
  have : dN.size = (hdB 1 0 tz ⟨#[]⟩).size + doneT.size := by unfold dN; rw [ByteArray.size_append]
  simp; omega
 obtain ⟨HB, hHB⟩ : ∃ HB, hdB 1 0 tz ⟨#[]⟩ = HB := ⟨_, rfl⟩
 rw [hHB] at hh hcat hcz
 obtain ⟨D, hD⟩ : ∃ D, doneT = D := ⟨_, rfl⟩
 rw [hD] at hdn hcat hcz
 have Hh := Lib.hid hh
 have Hdn := Lib.hid hdn
 have Hcat := Lib.hid hcat
 have Hp := Lib.hid hp
 have Hsn := Lib.hid hsn
 clear hh hdn hcat hp hsn hHB hD hl1 hdz
 go_enter Try.func41, Try.ntmps41
 go_upto_region 2 with (fail)
 have hb := (Below.refl w.heap.size w).alloc (Nat.le_refl _) (.cells #[.string ⟨#[]⟩, .int .i64 0, .string ⟨#[]⟩, .int .i64 0, .int .i64 0, .int .i64 0, .int .i64 0, .string ⟨#[]⟩, .int .i64 0, .int .i64 0, .int .i64 0, .int .i64 0, .int .i64 0, .int .i64 0, .int .i64 0, .int .i64 0, .int .i64 0, .int .i64 0, .int .i64 0, .int .i64 0, .int .i64 0, .int .i64 0, .int .i64 0, .int .i64 0, .int .i64 0, .int .i64 0, .int .i64 0, .int .i64 0, .int .i64 0, .int .i64 0, .int .i64 0, .int .i64 0, .int .i64 0, .int .i64 0, .int .i64 0, .int .i64 0, .int .i64 0, .int .i64 0, .int .i64 0, .int .i64 0, .slice none 0 0, .bool false, .int .i64 0, .string ⟨#[]⟩, .int .i64 0, .pointer none, .bool false] 134)
 have kq0 := Blk.new w 134 #[.string ⟨#[]⟩, .int .i64 0, .string ⟨#[]⟩, .int .i64 0, .int .i64 0, .int .i64 0, .int .i64 0, .string ⟨#[]⟩, .int .i64 0, .int .i64 0, .int .i64 0, .int .i64 0, .int .i64 0, .int .i64 0, .int .i64 0, .int .i64 0, .int .i64 0, .int .i64 0, .int .i64 0, .int .i64 0, .int .i64 0, .int .i64 0, .int .i64 0, .int .i64 0, .int .i64 0, .int .i64 0, .int .i64 0, .int .i64 0, .int .i64 0, .int .i64 0, .int .i64 0, .int .i64 0, .int .i64 0, .int .i64 0, .int .i64 0, .int .i64 0, .int .i64 0, .int .i64 0, .int .i64 0, .int .i64 0, .slice none 0 0, .bool false, .int .i64 0, .string ⟨#[]⟩, .int .i64 0, .pointer none, .bool false]
 obtain ⟨W, hW⟩ : ∃ W, w.alloc (.cells #[.string ⟨#[]⟩, .int .i64 0, .string ⟨#[]⟩, .int .i64 0, .int .i64 0, .int .i64 0, .int .i64 0, .string ⟨#[]⟩, .int .i64 0, .int .i64 0, .int .i64 0, .int .i64 0, .int .i64 0, .int .i64 0, .int .i64 0, .int .i64 0, .int .i64 0, .int .i64 0, .int .i64 0, .int .i64 0, .int .i64 0, .int .i64 0, .int .i64 0, .int .i64 0, .int .i64 0, .int .i64 0, .int .i64 0, .int .i64 0, .int .i64 0, .int .i64 0, .int .i64 0, .int .i64 0, .int .i64 0, .int .i64 0, .int .i64 0, .int .i64 0, .int .i64 0, .int .i64 0, .int .i64 0, .int .i64 0, .slice none 0 0, .bool false, .int .i64 0, .string ⟨#[]⟩, .int .i64 0, .pointer none, .bool false] 134) = W := ⟨_, rfl⟩
 rw [hW] at hb kq0 ⊢
 have kq : Blk W w.heap.size 134 (shc sh0 (none, 0, 0) none) := kq0
 clear hW kq0
 obtain ⟨q, hq⟩ : ∃ q, w.heap.size = q := ⟨_, rfl⟩
 rw [hq] at kq hb ⊢
 have hr := shop_table_range kq (s := sh0) lg0_8
 have lq := kq.lt
 go_wp2_with (first | (refine wpList_load_mid rfl _ (.tmp 10) rfl q 24 rfl (tc tb0) _ hr Try.underlying79 rfl (by rw [tc_len]; exact tabS_info) ?_))
 refine (Hh.out W).mono ?_
 rintro e w1 ⟨rfl, hb1⟩
 replace kq := kq.below hb1 lq
 replace hb := hb.trans (hb1.mono (by omega))
 clear hr lq hb1
 have lq := kq.lt
 go_wp2_with fail
 refine (Hdn.out w1).mono ?_
 rintro e w2 ⟨rfl, hb1⟩
 replace kq := kq.below hb1 lq
 replace hb := hb.trans (hb1.mono (by omega))
 clear lq hb1
 have lq := kq.lt
 go_wp2_with fail
 rw [Hcat.out]
 refine (Hp.out q w2 kq).mono ?_
 rintro e w3 ⟨rfl, kq3, ho⟩
 replace hb := hb.trans (ho.below (by omega) (fun k hk => by have hk : k = q := hk; omega))
 clear kq lq ho
 go_wp2_with fail
 refine (Hsn.out q w3 kq3).mono ?_
 rintro e w4 ⟨rfl, kq4, ho⟩
 replace hb := hb.trans (ho.below (by have := kq3.lt; omega) (fun k hk => by have hk : k = q := hk; omega))
 clear kq3 ho
 have ht := shop_log_there (s := { sh0 with d0 := (dN, (dN.size : Int)) }) kq4 lg0_8
 have lq := kq4.lt
 have h8N : Lg8 lgN := ⟨rfl, rfl⟩
 go_wp2_with (first | (refine wpList_built rfl _ _ rfl (lgc lgN (none, 0, 0)) built_logN ?_) | (refine wpList_store_mid rfl _ (.tmp 25) (.tmp 23) rfl q 5 (lgc lgN (none, 0, 0)) rfl rfl (by rw [lgc_size h8N]; exact ht) (by rw [lgc_size h8N]; exact log_info) lgc_ones ?_))
 go_ret
 have T1 := Blk.setMany (w := w4) (lgl lgN (none, 0, 0)) 5 w4 _ kq4
 rw [shc_setlog _ _ _ _ _ lg0_8 h8N] at T1
 refine ⟨q, rfl, by omega, T1, hq ▸ hb.trans ((Only.setMany q (lgl lgN (none, 0, 0)) 5 w4).below (by omega) (fun k hk => by have hk : k = q := hk; omega))⟩
def thE (l : Lg) (r : Int) : Int := if r < l.base then 9 else if l.base + l.revs.length < r then 8 else 0
theorem shc_ltext {s : Sh} {sl : Sl} {mp : Option Addr} (h8 : Lg8 s.log) : (shc s sl mp)[7]? = some (.string s.log.text) := (shc_log 2 (by decide) h8).trans lgc_text
theorem thE_zero {l : Lg} {r : Int} (h : thE l r = 0) : ∃ k : Nat, r = l.base + k ∧ k ≤ l.revs.length := by
 unfold thE at h
 split at h
 · omega
 · split at h
   · omega
   · exact ⟨(r - l.base).toNat, by omega, by omega⟩
theorem stext_none (q : Nat) (s : Sh) (sl : Sl) (mp : Option Addr) (r : Int) (w : World) (hk : Blk w q 134 (shc s sl mp)) (h8 : Lg8 s.log) (hsl : sl.2.1 = s.log.revs.length) (hb0 : 0 ≤ s.log.base) (hb1 : s.log.base ≤ 2147483647) (hr : s.log.revs.length ≤ 1000) (he : thE s.log r ≠ 0) :
 Calls Try.prog 47 #[.pointer (some ⟨q, 0, none⟩), .int .i64 r] w fun e w' => e = .returned (.tuple #[.string ⟨#[]⟩, .int .i64 (thE s.log r)]) ∧ Below w.heap.size w w' := by
 have hc : Calls Try.prog 88 #[.pointer (some ⟨q, 0, none⟩), .int .i64 r] w fun e w' => e = .returned (.int .i64 (thE s.log r)) ∧ Below w.heap.size w w' := there_any q s sl mp r w hk h8 hsl hb0 hb1 hr
 obtain ⟨E, hE⟩ : ∃ E, thE s.log r = E := ⟨_, rfl⟩
 rw [hE] at hc he ⊢
 have hEn : (E != 0) = true := by simpa using he
 have Hc := Lib.hid hc
 clear hc hE he hk h8 hsl hb0 hb1 hr
 go_enter Try.func47, Try.ntmps47
 go_wp2_with fail
 refine Hc.out.mono ?_
 rintro e w1 ⟨rfl, hb⟩
 go_wp2_with fail
 go_ret2
 exact ⟨rfl, hb⟩
theorem stext_good (q : Nat) (s : Sh) (sl : Sl) (mp : Option Addr) (r : Int) (k : Nat) (w : World) (hk : Blk w q 134 (shc s sl mp)) (h8 : Lg8 s.log) (hsl : sl.2.1 = s.log.revs.length) (hb0 : 0 ≤ s.log.base) (hb1 : s.log.base ≤ 2147483647) (hr : s.log.revs.length ≤ 1000) (hrk : r = s.log.base + k) (hkl : k ≤ s.log.revs.length)
 (hv : RdR w w.heap.size sl.1 sl.2.1 sl.2.2 s.log.revs) (htx : txE s.log.text s.log.revs = 0) :
 Calls Try.prog 47 #[.pointer (some ⟨q, 0, none⟩), .int .i64 r] w fun e w' => e = .returned (.tuple #[.string (txt s.log.text s.log.revs k), .int .i64 0]) ∧ Below w.heap.size w w' := by
 have hc := there_any q s sl mp r w hk h8 hsl hb0 hb1 hr
 rw [if_neg (by omega), if_neg (by omega)] at hc
 have hrt := fun w' (h : RdR w' w.heap.size sl.1 sl.2.1 sl.2.2 s.log.revs) (hw : w.heap.size ≤ w'.heap.size) => rtext_good s.log.text s.log.revs sl.1 sl.2.1 sl.2.2 w.heap.size k w' h hw htx hkl
 obtain ⟨A, n, c⟩ := sl
 simp only at hsl hv hrt
 obtain ⟨Ba, hBa⟩ : ∃ Ba, s.log.base = Ba := ⟨_, rfl⟩
 have c6 : (shc s (A, n, c) mp)[6]? = some (.int .i64 Ba) := by rw [← hBa]; exact shc_base h8
 rw [hBa] at hrk hb0 hb1
 obtain ⟨tx, htxe⟩ : ∃ tx, s.log.text = tx := ⟨_, rfl⟩
 have c7 : (shc s (A, n, c) mp)[7]? = some (.string tx) := by rw [← htxe]; exact shc_ltext h8
 have c40 : (shc s (A, n, c) mp)[40]? = some (.slice A n c) := shc_revs h8
 obtain ⟨R, hR⟩ : ∃ R, txt s.log.text s.log.revs k = R := ⟨_, rfl⟩
 rw [hR] at hrt ⊢
 rw [htxe] at hrt
 have hw : IntKind.i64.wrap (r - Ba) = (k : Int) := by rw [hrk, show Ba + (k : Int) - Ba = k by omega]; exact IntWalk.i64_in _ (by omega)
 have Hc := Lib.hid hc
 have Hrt := Lib.hid hrt
 have Hv := Lib.hid hv
 have lq := hk.lt
 clear hc hrt hv htx hkl hR htxe hBa hrk hr hb0 hb1 hsl h8
 go_enter Try.func47, Try.ntmps47
 go_wp2_with fail
 refine Hc.out.mono ?_
 rintro e w1 ⟨rfl, hb⟩
 have k1 := hk.below hb lq
 have Hv1 := Lib.hid (Hv.out.below hb)
 have d6 := k1.cell 6
 have d7 := k1.cell 7
 have d40 := k1.cell 40
 rw [c6] at d6
 rw [c7] at d7
 rw [c40] at d40
 have l1 := k1.lt
 have hs1 := hb.size
 have Hb := Lib.hid hb
 clear k1 hb c6 c7 c40 hk lq Hc Hv
 go_upto_region 4 with (fail)
 have KeepS := Lib.hid (fun (w' : World) (h : Below w1.heap.size w1 w') => (⟨h, by rw [h.cell l1]; exact d7, by rw [h.cell l1]; exact d40, by rw [h.cell l1]; exact d6, Nat.lt_of_lt_of_le l1 h.size⟩ : Below w1.heap.size w1 w' ∧ w'.cell? ⟨q, 7, none⟩ = some (.string tx) ∧ w'.cell? ⟨q, 40, none⟩ = some (.slice A n c) ∧ w'.cell? ⟨q, 6, none⟩ = some (.int .i64 Ba) ∧ q < w'.heap.size))
 have G := Lib.hid (fun (w' : World) (h : Below w1.heap.size w1 w' ∧ w'.cell? ⟨q, 7, none⟩ = some (.string tx) ∧ w'.cell? ⟨q, 40, none⟩ = some (.slice A n c) ∧ w'.cell? ⟨q, 6, none⟩ = some (.int .i64 Ba) ∧ q < w'.heap.size) => (Hrt.out w' (Hv1.out.below (h.1.mono hs1)) (by have := h.1.size; omega)).mono (R' := fun e w'' => e = .returned (.tuple #[.string R, .int .i64 0]) ∧ (Below w1.heap.size w1 w'' ∧ w''.cell? ⟨q, 7, none⟩ = some (.string tx) ∧ w''.cell? ⟨q, 40, none⟩ = some (.slice A n c) ∧ w''.cell? ⟨q, 6, none⟩ = some (.int .i64 Ba) ∧ q < w''.heap.size)) (fun e w'' hh => ⟨hh.1, KeepS.out _ (h.1.trans (hh.2.mono h.1.size))⟩))
 have hS7 := KeepS.out w1 (Below.refl _ _)
 clear d6 d7 d40 l1
 go_region_held3 (fun w' => Below w1.heap.size w1 w' ∧ w'.cell? ⟨q, 7, none⟩ = some (.string tx) ∧ w'.cell? ⟨q, 40, none⟩ = some (.slice A n c) ∧ w'.cell? ⟨q, 6, none⟩ = some (.int .i64 Ba) ∧ q < w'.heap.size) (first | with_reducible assumption | exact KeepS.out _ (Below.drew (Below.refl _ _)) | exact KeepS.out _ (by assumption) | exact KeepS.out _ (Below.drew (by assumption)) | (go_split_ands; exact KeepS.out _ (by assumption)))
  ((go_at_call 17; with_reducible refine (G.out _ (by assumption)).mono ?_; rintro e w9 ⟨rfl, hS9⟩))
 go_wp2_with fail
 have hS9q : Below w1.heap.size w1 w9 ∧ w9.cell? ⟨q, 7, none⟩ = some (.string tx) ∧ w9.cell? ⟨q, 40, none⟩ = some (.slice A n c) ∧ w9.cell? ⟨q, 6, none⟩ = some (.int .i64 Ba) ∧ q < w9.heap.size := by assumption
 go_ret2
 exact ⟨rfl, Hb.out.trans (hS9q.1.mono hs1)⟩
end Go.Proofs.Ytokngfinnieccaa
