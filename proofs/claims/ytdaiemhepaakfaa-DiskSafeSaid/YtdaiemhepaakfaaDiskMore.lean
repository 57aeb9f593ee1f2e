/- Contracts of disk.Sync and disk.Trim. -/
import Derived.Test.YtdaiemhepaakfaaDisk
import Derived.Test.YtdaiemhepaakfaaMinMax
namespace Go.Proofs.Ytdaiemhepaakfaa
open Go.ChangeShapes Go.WideShapes Go.RowKit
set_option linter.unusedVariables false
set_option linter.unusedSimpArgs false
set_option maxRecDepth 100000
set_option maxHeartbeats 4000000

theorem dsync_look (x y : Slt) (i : Int) (w : World) (h : dlook x y i ≠ 0) :
    Calls Try.prog 27 #[dvl x y, .int .i64 i] w fun e w' => e = .returned (dres dzero dzero (dlook x y i)) ∧ Below w.heap.size w w' := by
  obtain ⟨a, sa⟩ := x
  obtain ⟨b, sb⟩ := y
  unfold dvl
  simp only
  go_enter Try.func27, Try.ntmps27
  go_wp2_with fail
  refine (dlook_any (a, sa) (b, sb) i _).mono ?_
  rintro e w1 ⟨rfl, hb1⟩
  have hD := ((Blk.new w 56 #[.string a, .int .i64 sa, .string b, .int .i64 sb]).alloc (.cells #[.string ⟨#[]⟩, .int .i64 0, .string ⟨#[]⟩, .int .i64 0] 56)).below hb1 (by simp; omega)
  have hR := (Blk.new (w.alloc (.cells #[.string a, .int .i64 sa, .string b, .int .i64 sb] 56)) 56 #[.string ⟨#[]⟩, .int .i64 0, .string ⟨#[]⟩, .int .i64 0]).below hb1 (by simp)
  simp only [World.size_alloc] at hR
  have hbw : Below w.heap.size w w1 := (((Below.refl w.heap.size w).alloc (Nat.le_refl _) _).alloc (by simp) _).trans (hb1.mono (by simp; omega))
  have hne : ((dlook (a, sa) (b, sb) i) != 0) = true := by simpa using h
  have c0 := hR.cell 0
  have f0 := hR.frozen 0
  have c1 := hR.cell 1
  have f1 := hR.frozen 1
  have c2 := hR.cell 2
  have f2 := hR.frozen 2
  have c3 := hR.cell 3
  have f3 := hR.frozen 3
  clear hb1 h
  have HR := Lib.hid hR
  have HD := Lib.hid hD
  clear hR hD
  go_wp2_with fail
  exact disk_end (g := w.heap.size + 1) (x := dzero) (y := dzero) (e := dlook (a, sa) (b, sb) i) rfl rfl rfl rfl ((((((((HR.out).set_ 0 _)).set_ 1 _)).set_ 2 _)).set_ 3 _) ⟨rfl, ((((((((hbw).setCell (p := ⟨w.heap.size + 1, 0, none⟩) (by simp) _)).setCell (p := ⟨w.heap.size + 1, 1, none⟩) (by simp) _)).setCell (p := ⟨w.heap.size + 1, 2, none⟩) (by simp) _)).setCell (p := ⟨w.heap.size + 1, 3, none⟩) (by simp) _)⟩

def dsyn (x y : Slt) (i : Int) : Slt × Slt := if i = 0 then ((x.1, (x.1.size : Int)), y) else (x, (y.1, (y.1.size : Int)))
theorem dsync_good (x y : Slt) (i : Int) (w : World) (h : dlook x y i = 0) :
    Calls Try.prog 27 #[dvl x y, .int .i64 i] w fun e w' => e = .returned (dres (dsyn x y i).1 (dsyn x y i).2 0) ∧ Below w.heap.size w w' := by
  obtain ⟨a, sa⟩ := x
  obtain ⟨b, sb⟩ := y
  unfold dvl
  simp only
  have hz := dlook_zero _ _ _ h
  simp only at hz
  obtain ⟨hi, ha, hb, ha0, ha1, hb0, hb1'⟩ := hz
  go_enter Try.func27, Try.ntmps27
  go_wp2_with fail
  refine (dlook_any (a, sa) (b, sb) i _).mono ?_
  rintro e w1 ⟨rfl, hb1⟩
  have hD := ((Blk.new w 56 #[.string a, .int .i64 sa, .string b, .int .i64 sb]).alloc (.cells #[.string ⟨#[]⟩, .int .i64 0, .string ⟨#[]⟩, .int .i64 0] 56)).below hb1 (by simp; omega)
  have hR := (Blk.new (w.alloc (.cells #[.string a, .int .i64 sa, .string b, .int .i64 sb] 56)) 56 #[.string ⟨#[]⟩, .int .i64 0, .string ⟨#[]⟩, .int .i64 0]).below hb1 (by simp)
  simp only [World.size_alloc] at hR
  have hbw : Below w.heap.size w w1 := (((Below.refl w.heap.size w).alloc (Nat.le_refl _) _).alloc (by simp) _).trans (hb1.mono (by simp; omega))
  rw [h]
  have c0 := hR.cell 0
  have f0 := hR.frozen 0
  have c1 := hR.cell 1
  have f1 := hR.frozen 1
  have c2 := hR.cell 2
  have f2 := hR.frozen 2
  have c3 := hR.cell 3
  have f3 := hR.frozen 3
  have d0 := hD.cell 0
  have g0 := hD.frozen 0
  have d1 := hD.cell 1
  have g1 := hD.frozen 1
  have d2 := hD.cell 2
  have g2 := hD.frozen 2
  have d3 := hD.cell 3
  have g3 := hD.frozen 3
  clear hb1 h
  have HR := Lib.hid hR
  have HD := Lib.hid hD
  clear hR hD
  rcases hi with rfl | rfl
  · go_wp2_with fail
    exact disk_end (g := w.heap.size + 1) (x := (a, (a.size : Int))) (y := (b, sb)) (e := 0) rfl rfl rfl rfl ((((((((((HR.out).far (p := ⟨w.heap.size, 1, none⟩) (by simp) _)).set_ 0 _)).set_ 1 _)).set_ 2 _)).set_ 3 _) ⟨rfl, ((((((((((hbw).setCell (p := ⟨w.heap.size, 1, none⟩) (by simp) _)).setCell (p := ⟨w.heap.size + 1, 0, none⟩) (by simp) _)).setCell (p := ⟨w.heap.size + 1, 1, none⟩) (by simp) _)).setCell (p := ⟨w.heap.size + 1, 2, none⟩) (by simp) _)).setCell (p := ⟨w.heap.size + 1, 3, none⟩) (by simp) _)⟩
  · go_wp2_with fail
    exact disk_end (g := w.heap.size + 1) (x := (a, sa)) (y := (b, (b.size : Int))) (e := 0) rfl rfl rfl rfl ((((((((((HR.out).far (p := ⟨w.heap.size, 3, none⟩) (by simp) _)).set_ 0 _)).set_ 1 _)).set_ 2 _)).set_ 3 _) ⟨rfl, ((((((((((hbw).setCell (p := ⟨w.heap.size, 3, none⟩) (by simp) _)).setCell (p := ⟨w.heap.size + 1, 0, none⟩) (by simp) _)).setCell (p := ⟨w.heap.size + 1, 1, none⟩) (by simp) _)).setCell (p := ⟨w.heap.size + 1, 2, none⟩) (by simp) _)).setCell (p := ⟨w.heap.size + 1, 3, none⟩) (by simp) _)⟩

theorem dtrim_look (x y : Slt) (i n : Int) (w : World) (h : dlook x y i ≠ 0) :
    Calls Try.prog 28 #[dvl x y, .int .i64 i, .int .i64 n] w fun e w' => e = .returned (dres dzero dzero (dlook x y i)) ∧ Below w.heap.size w w' := by
  obtain ⟨a, sa⟩ := x
  obtain ⟨b, sb⟩ := y
  unfold dvl
  simp only
  go_enter Try.func28, Try.ntmps28
  go_wp2_with fail
  refine (dlook_any (a, sa) (b, sb) i _).mono ?_
  rintro e w1 ⟨rfl, hb1⟩
  have hD := ((Blk.new w 56 #[.string a, .int .i64 sa, .string b, .int .i64 sb]).alloc (.cells #[.string ⟨#[]⟩, .int .i64 0, .string ⟨#[]⟩, .int .i64 0] 56)).below hb1 (by simp; omega)
  have hR := (Blk.new (w.alloc (.cells #[.string a, .int .i64 sa, .string b, .int .i64 sb] 56)) 56 #[.string ⟨#[]⟩, .int .i64 0, .string ⟨#[]⟩, .int .i64 0]).below hb1 (by simp)
  simp only [World.size_alloc] at hR
  have hbw : Below w.heap.size w w1 := (((Below.refl w.heap.size w).alloc (Nat.le_refl _) _).alloc (by simp) _).trans (hb1.mono (by simp; omega))
  have hne : ((dlook (a, sa) (b, sb) i) != 0) = true := by simpa using h
  have c0 := hR.cell 0
  have f0 := hR.frozen 0
  have c1 := hR.cell 1
  have f1 := hR.frozen 1
  have c2 := hR.cell 2
  have f2 := hR.frozen 2
  have c3 := hR.cell 3
  have f3 := hR.frozen 3
  clear hb1 h
  have HR := Lib.hid hR
  have HD := Lib.hid hD
  clear hR hD
  go_wp2_with fail
  exact disk_end (g := w.heap.size + 1) (x := dzero) (y := dzero) (e := dlook (a, sa) (b, sb) i) rfl rfl rfl rfl ((((((((HR.out).set_ 0 _)).set_ 1 _)).set_ 2 _)).set_ 3 _) ⟨rfl, ((((((((hbw).setCell (p := ⟨w.heap.size + 1, 0, none⟩) (by simp) _)).setCell (p := ⟨w.heap.size + 1, 1, none⟩) (by simp) _)).setCell (p := ⟨w.heap.size + 1, 2, none⟩) (by simp) _)).setCell (p := ⟨w.heap.size + 1, 3, none⟩) (by simp) _)⟩

def trimS (s : Slt) (n : Int) : Slt := (s.1.extract 0 n.toNat, min s.2 n)
def dtrm (x y : Slt) (i n : Int) : Slt × Slt := if i = 0 then (trimS x n, y) else (x, trimS y n)
theorem dtrim_bad (x y : Slt) (i n : Int) (w : World) (h : dlook x y i = 0) (hn : n < 0 ∨ ((if i = 0 then x.1.size else y.1.size : Nat) : Int) < n) :
    Calls Try.prog 28 #[dvl x y, .int .i64 i, .int .i64 n] w fun e w' => e = .returned (dres dzero dzero 1) ∧ Below w.heap.size w w' := by
  obtain ⟨a, sa⟩ := x
  obtain ⟨b, sb⟩ := y
  unfold dvl
  simp only
  have hz := dlook_zero _ _ _ h
  simp only at hz
  obtain ⟨hi, ha, hb, ha0, ha1, hb0, hb1'⟩ := hz
  go_enter Try.func28, Try.ntmps28
  go_wp2_with fail
  refine (dlook_any (a, sa) (b, sb) i _).mono ?_
  rintro e w1 ⟨rfl, hb1⟩
  have hD := ((Blk.new w 56 #[.string a, .int .i64 sa, .string b, .int .i64 sb]).alloc (.cells #[.string ⟨#[]⟩, .int .i64 0, .string ⟨#[]⟩, .int .i64 0] 56)).below hb1 (by simp; omega)
  have hR := (Blk.new (w.alloc (.cells #[.string a, .int .i64 sa, .string b, .int .i64 sb] 56)) 56 #[.string ⟨#[]⟩, .int .i64 0, .string ⟨#[]⟩, .int .i64 0]).below hb1 (by simp)
  simp only [World.size_alloc] at hR
  have hbw : Below w.heap.size w w1 := (((Below.refl w.heap.size w).alloc (Nat.le_refl _) _).alloc (by simp) _).trans (hb1.mono (by simp; omega))
  rw [h]
  have c0 := hR.cell 0
  have f0 := hR.frozen 0
  have c1 := hR.cell 1
  have f1 := hR.frozen 1
  have c2 := hR.cell 2
  have f2 := hR.frozen 2
  have c3 := hR.cell 3
  have f3 := hR.frozen 3
  have d0 := hD.cell 0
  have g0 := hD.frozen 0
  have d1 := hD.cell 1
  have g1 := hD.frozen 1
  have d2 := hD.cell 2
  have g2 := hD.frozen 2
  have d3 := hD.cell 3
  have g3 := hD.frozen 3
  clear hb1 h
  have HR := Lib.hid hR
  have HD := Lib.hid hD
  clear hR hD
  rcases hi with rfl | rfl
  · simp only [if_pos, reduceIte, Int.one_ne_zero] at hn
    by_cases hn1 : n < 0
    · clear hn
      go_wp2_with fail
      exact disk_end (g := w.heap.size + 1) (x := dzero) (y := dzero) (e := 1) rfl rfl rfl rfl ((((((((HR.out).set_ 0 _)).set_ 1 _)).set_ 2 _)).set_ 3 _) ⟨rfl, ((((((((hbw).setCell (p := ⟨w.heap.size + 1, 0, none⟩) (by simp) _)).setCell (p := ⟨w.heap.size + 1, 1, none⟩) (by simp) _)).setCell (p := ⟨w.heap.size + 1, 2, none⟩) (by simp) _)).setCell (p := ⟨w.heap.size + 1, 3, none⟩) (by simp) _)⟩
    · have hn2 : (a.size : Int) < n := by omega
      clear hn
      go_wp2_with fail
      exact disk_end (g := w.heap.size + 1) (x := dzero) (y := dzero) (e := 1) rfl rfl rfl rfl ((((((((HR.out).set_ 0 _)).set_ 1 _)).set_ 2 _)).set_ 3 _) ⟨rfl, ((((((((hbw).setCell (p := ⟨w.heap.size + 1, 0, none⟩) (by simp) _)).setCell (p := ⟨w.heap.size + 1, 1, none⟩) (by simp) _)).setCell (p := ⟨w.heap.size + 1, 2, none⟩) (by simp) _)).setCell (p := ⟨w.heap.size + 1, 3, none⟩) (by simp) _)⟩
  · simp only [if_pos, reduceIte, Int.one_ne_zero] at hn
    by_cases hn1 : n < 0
    · clear hn
      go_wp2_with fail
      exact disk_end (g := w.heap.size + 1) (x := dzero) (y := dzero) (e := 1) rfl rfl rfl rfl ((((((((HR.out).set_ 0 _)).set_ 1 _)).set_ 2 _)).set_ 3 _) ⟨rfl, ((((((((hbw).setCell (p := ⟨w.heap.size + 1, 0, none⟩) (by simp) _)).setCell (p := ⟨w.heap.size + 1, 1, none⟩) (by simp) _)).setCell (p := ⟨w.heap.size + 1, 2, none⟩) (by simp) _)).setCell (p := ⟨w.heap.size + 1, 3, none⟩) (by simp) _)⟩
    · have hn2 : (b.size : Int) < n := by omega
      clear hn
      go_wp2_with fail
      exact disk_end (g := w.heap.size + 1) (x := dzero) (y := dzero) (e := 1) rfl rfl rfl rfl ((((((((HR.out).set_ 0 _)).set_ 1 _)).set_ 2 _)).set_ 3 _) ⟨rfl, ((((((((hbw).setCell (p := ⟨w.heap.size + 1, 0, none⟩) (by simp) _)).setCell (p := ⟨w.heap.size + 1, 1, none⟩) (by simp) _)).setCell (p := ⟨w.heap.size + 1, 2, none⟩) (by simp) _)).setCell (p := ⟨w.heap.size + 1, 3, none⟩) (by simp) _)⟩

theorem dtrim_good (x y : Slt) (i : Int) (n : Nat) (w : World) (h : dlook x y i = 0) (hn : (n : Int) ≤ ((if i = 0 then x.1.size else y.1.size : Nat) : Int)) :
    Calls Try.prog 28 #[dvl x y, .int .i64 i, .int .i64 n] w fun e w' => e = .returned (dres (dtrm x y i n).1 (dtrm x y i n).2 0) ∧ Below w.heap.size w w' := by
  obtain ⟨a, sa⟩ := x
  obtain ⟨b, sb⟩ := y
  unfold dvl
  simp only
  have hz := dlook_zero _ _ _ h
  simp only at hz
  obtain ⟨hi, ha, hb, ha0, ha1, hb0, hb1'⟩ := hz
  go_enter Try.func28, Try.ntmps28
  go_wp2_with fail
  refine (dlook_any (a, sa) (b, sb) i _).mono ?_
  rintro e w1 ⟨rfl, hb1⟩
  have hD := ((Blk.new w 56 #[.string a, .int .i64 sa, .string b, .int .i64 sb]).alloc (.cells #[.string ⟨#[]⟩, .int .i64 0, .string ⟨#[]⟩, .int .i64 0] 56)).below hb1 (by simp; omega)
  have hR := (Blk.new (w.alloc (.cells #[.string a, .int .i64 sa, .string b, .int .i64 sb] 56)) 56 #[.string ⟨#[]⟩, .int .i64 0, .string ⟨#[]⟩, .int .i64 0]).below hb1 (by simp)
  simp only [World.size_alloc] at hR
  have hbw : Below w.heap.size w w1 := (((Below.refl w.heap.size w).alloc (Nat.le_refl _) _).alloc (by simp) _).trans (hb1.mono (by simp; omega))
  rw [h]
  have c0 := hR.cell 0
  have f0 := hR.frozen 0
  have c1 := hR.cell 1
  have f1 := hR.frozen 1
  have c2 := hR.cell 2
  have f2 := hR.frozen 2
  have c3 := hR.cell 3
  have f3 := hR.frozen 3
  have d0 := hD.cell 0
  have g0 := hD.frozen 0
  have d1 := hD.cell 1
  have g1 := hD.frozen 1
  have d2 := hD.cell 2
  have g2 := hD.frozen 2
  have d3 := hD.cell 3
  have g3 := hD.frozen 3
  clear hb1 h
  have HR := Lib.hid hR
  have HD := Lib.hid hD
  clear hR hD
  rcases hi with rfl | rfl
  · simp only [if_pos, reduceIte, Int.one_ne_zero] at hn
    go_wp2_with (first | (refine wpList_min2 rfl (.tmp 45) (.tmp 46) _ rfl _ _ _ rfl rfl rfl ?_))
    exact disk_end (g := w.heap.size + 1) (x := trimS (a, sa) n) (y := (b, sb)) (e := 0) rfl rfl rfl rfl ((((((((((((HR.out).far (p := ⟨w.heap.size, 0, none⟩) (by simp) _)).far (p := ⟨w.heap.size, 1, none⟩) (by simp) _)).set_ 0 _)).set_ 1 _)).set_ 2 _)).set_ 3 _) ⟨rfl, ((((((((((((hbw).setCell (p := ⟨w.heap.size, 0, none⟩) (by simp) _)).setCell (p := ⟨w.heap.size, 1, none⟩) (by simp) _)).setCell (p := ⟨w.heap.size + 1, 0, none⟩) (by simp) _)).setCell (p := ⟨w.heap.size + 1, 1, none⟩) (by simp) _)).setCell (p := ⟨w.heap.size + 1, 2, none⟩) (by simp) _)).setCell (p := ⟨w.heap.size + 1, 3, none⟩) (by simp) _)⟩
  · simp only [if_pos, reduceIte, Int.one_ne_zero] at hn
    go_wp2_with (first | (refine wpList_min2 rfl (.tmp 45) (.tmp 46) _ rfl _ _ _ rfl rfl rfl ?_))
    exact disk_end (g := w.heap.size + 1) (x := (a, sa)) (y := trimS (b, sb) n) (e := 0) rfl rfl rfl rfl ((((((((((((HR.out).far (p := ⟨w.heap.size, 2, none⟩) (by simp) _)).far (p := ⟨w.heap.size, 3, none⟩) (by simp) _)).set_ 0 _)).set_ 1 _)).set_ 2 _)).set_ 3 _) ⟨rfl, ((((((((((((hbw).setCell (p := ⟨w.heap.size, 2, none⟩) (by simp) _)).setCell (p := ⟨w.heap.size, 3, none⟩) (by simp) _)).setCell (p := ⟨w.heap.size + 1, 0, none⟩) (by simp) _)).setCell (p := ⟨w.heap.size + 1, 1, none⟩) (by simp) _)).setCell (p := ⟨w.heap.size + 1, 2, none⟩) (by simp) _)).setCell (p := ⟨w.heap.size + 1, 3, none⟩) (by simp) _)⟩
end Go.Proofs.Ytdaiemhepaakfaa
