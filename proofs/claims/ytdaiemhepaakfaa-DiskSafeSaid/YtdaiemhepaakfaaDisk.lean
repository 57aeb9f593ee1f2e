/- Contracts of package disk. -/
import Derived.Test.YtdaiemhepaakfaaBase
namespace Go.Proofs.Ytdaiemhepaakfaa
open Go.ChangeShapes Go.WideShapes Go.RowKit
set_option linter.unusedVariables false
set_option linter.unusedSimpArgs false
set_option maxRecDepth 100000
set_option maxHeartbeats 4000000

/-- a slot: its bytes, and how many of them are safe -/
abbrev Slt := ByteArray × Int
def scells (s : Slt) : List Value := [.string s.1, .int .i64 s.2]
def dvl (x y : Slt) : Value := .agg #[.string x.1, .int .i64 x.2, .string y.1, .int .i64 y.2]
def sbad (s : Slt) : Int := if 1048576 < (s.1.size : Int) then 2 else if s.2 < 0 ∨ (s.1.size : Int) < s.2 then 3 else 0
def dchk (x y : Slt) : Int := if sbad x ≠ 0 then sbad x else sbad y
theorem sbad_cases (s : Slt) : (1048576 < (s.1.size : Int) ∧ sbad s = 2) ∨ ((s.1.size : Int) ≤ 1048576 ∧ (s.2 < 0 ∨ (s.1.size : Int) < s.2) ∧ sbad s = 3) ∨ ((s.1.size : Int) ≤ 1048576 ∧ 0 ≤ s.2 ∧ s.2 ≤ (s.1.size : Int) ∧ sbad s = 0) := by
  unfold sbad
  split
  · exact .inl ⟨by omega, rfl⟩
  · split
    · exact .inr (.inl ⟨by omega, by assumption, rfl⟩)
    · exact .inr (.inr ⟨by omega, by omega, by omega, rfl⟩)

theorem slot_at0 (a b : ByteArray) (sa sb : Int) (w : World) : (Instr.index 54 (.agg #[.string a, .int .i64 sa, .string b, .int .i64 sb]) (.int .i64 0)).run Try.prog w = .ok (.agg #[.string a, .int .i64 sa]) w := by kernel_rfl
theorem slot_at1 (a b : ByteArray) (sa sb : Int) (w : World) : (Instr.index 54 (.agg #[.string a, .int .i64 sa, .string b, .int .i64 sb]) (.int .i64 1)).run Try.prog w = .ok (.agg #[.string b, .int .i64 sb]) w := by kernel_rfl
theorem dcheck_any (x y : Slt) (w : World) :
    Calls Try.prog 36 #[dvl x y] w fun e w' => e = .returned (.int .i64 (dchk x y)) ∧ Below w.heap.size w w' := by
  obtain ⟨a, sa⟩ := x
  obtain ⟨b, sb⟩ := y
  unfold dvl
  simp only
  have i0 := slot_at0 a b sa sb
  have i1 := slot_at1 a b sa sb
  go_enter Try.func36, Try.ntmps36
  go_wp2_with fail
  refine wp_loop_rounds 3 ?_
  rw [rounds_succ]
  have bl : ∀ o o' : Obj, Below w.heap.size w ((w.alloc o).alloc o') := fun o o' => ((Below.refl _ _).alloc (Nat.le_refl _) _).alloc (by simp) _
  have bl3 : ∀ o o' o2 : Obj, Below w.heap.size w (((w.alloc o).alloc o').alloc o2) := fun o o' o2 => (((Below.refl _ _).alloc (Nat.le_refl _) _).alloc (by simp) _).alloc (by simp; omega) _
  have Bl := Lib.hid bl
  have Bl3 := Lib.hid bl3
  clear bl bl3
  rcases sbad_cases (a, sa) with h | h | h
  · simp only at h
    obtain ⟨h1, h2⟩ := h
    have hd : dchk (a, sa) (b, sb) = 2 := by unfold dchk; rw [h2]; rfl
    have Hd := Lib.hid hd
    clear h2 hd
    go_wp2_with fail
    go_ret
    exact ⟨by rw [Hd.out]; rfl, Bl.out _ _⟩
  · simp only at h
    obtain ⟨h1, h3, h2⟩ := h
    have hd : dchk (a, sa) (b, sb) = 3 := by unfold dchk; rw [h2]; rfl
    have Hd := Lib.hid hd
    clear h2 hd
    by_cases h4 : sa < 0
    all_goals go_wp2_with fail
    all_goals (first | omega | (go_ret; exact ⟨by rw [Hd.out]; rfl, Bl.out _ _⟩))
  · simp only at h
    obtain ⟨h1, h3, h4, h2⟩ := h
    have hd0 : dchk (a, sa) (b, sb) = sbad (b, sb) := by unfold dchk; rw [h2]; rfl
    rcases sbad_cases (b, sb) with k | k | k
    · simp only at k
      obtain ⟨k1, k2⟩ := k
      rw [k2] at hd0
      have Hd := Lib.hid hd0
      clear h2 hd0 k2
      go_wp2_with fail
      rw [rounds_succ]
      go_wp2_with fail
      go_ret
      exact ⟨by rw [Hd.out]; rfl, Bl3.out _ _ _⟩
    · simp only at k
      obtain ⟨k1, k3, k2⟩ := k
      rw [k2] at hd0
      have Hd := Lib.hid hd0
      clear h2 hd0 k2
      by_cases h5 : sb < 0
      all_goals go_wp2_with fail
      all_goals rw [rounds_succ]
      all_goals go_wp2_with fail
      all_goals (first | omega | (go_ret; exact ⟨by rw [Hd.out]; rfl, Bl3.out _ _ _⟩))
    · simp only at k
      obtain ⟨k1, k3, k4, k2⟩ := k
      rw [k2] at hd0
      have Hd := Lib.hid hd0
      clear h2 hd0 k2
      go_wp2_with fail
      rw [rounds_succ]
      go_wp2_with fail
      rw [rounds_succ]
      go_wp2_with fail
      go_ret
      exact ⟨by rw [Hd.out]; rfl, Bl3.out _ _ _⟩
def dlook (x y : Slt) (i : Int) : Int := if dchk x y ≠ 0 then dchk x y else if i < 0 ∨ 2 ≤ i then 1 else 0
theorem dlook_any (x y : Slt) (i : Int) (w : World) :
    Calls Try.prog 35 #[dvl x y, .int .i64 i] w fun e w' => e = .returned (.int .i64 (dlook x y i)) ∧ Below w.heap.size w w' := by
  obtain ⟨a, sa⟩ := x
  obtain ⟨b, sb⟩ := y
  unfold dvl
  simp only
  go_enter Try.func35, Try.ntmps35
  go_wp2_with fail
  refine (dcheck_any (a, sa) (b, sb) _).mono ?_
  rintro e w1 ⟨rfl, hb1⟩
  have hbw : Below w.heap.size w w1 := ((Below.refl w.heap.size w).alloc (Nat.le_refl _) _).trans (hb1.mono (by simp))
  clear hb1
  by_cases hc : dchk (a, sa) (b, sb) = 0
  · rw [hc]
    by_cases h1 : i < 0
    · have hd : dlook (a, sa) (b, sb) i = 1 := by unfold dlook; rw [hc]; simp [h1]
      have Hd := Lib.hid hd
      clear hd hc
      go_wp2_with fail
      go_ret
      exact ⟨by rw [Hd.out]; rfl, hbw⟩
    by_cases h2 : 2 ≤ i
    · have hd : dlook (a, sa) (b, sb) i = 1 := by unfold dlook; rw [hc]; simp [h2]
      have Hd := Lib.hid hd
      clear hd hc
      go_wp2_with fail
      go_ret
      exact ⟨by rw [Hd.out]; rfl, hbw⟩
    · have hd : dlook (a, sa) (b, sb) i = 0 := by unfold dlook; rw [hc]; simp; omega
      have Hd := Lib.hid hd
      clear hd hc
      go_wp2_with fail
      go_ret
      exact ⟨by rw [Hd.out]; rfl, hbw⟩
  · have hd : dlook (a, sa) (b, sb) i = dchk (a, sa) (b, sb) := by unfold dlook; simp [hc]
    have hne : ((dchk (a, sa) (b, sb)) != 0) = true := by simpa using hc
    have Hd := Lib.hid hd
    clear hd hc
    go_wp2_with fail
    go_ret
    exact ⟨by rw [Hd.out]; rfl, hbw⟩

/-- what a disk function answers: a disk, and what went wrong -/
def dres (x y : Slt) (e : Int) : Value := .tuple #[dvl x y, .int .i64 e]
def dzero : Slt := (⟨#[]⟩, 0)
/-- a disk function's end: the result lies in block g, the errno in a slot -/
theorem disk_end {fn : Func} {R : Ending → World → Prop} {a : Act} {W : World} {g : Nat} {x y : Slt} {e : Int} {p q : Tmp} (hres : fn.results = #[.cell p 56, .tmp q])
    (hp : a.tmps.getD p undef = .pointer (some ⟨g, 0, none⟩)) (hq : a.tmps.getD q undef = .int .i64 e) (hd : a.defers = [])
    (hB : Blk W g 56 #[.string x.1, .int .i64 x.2, .string y.1, .int .i64 y.2]) (hR : R (.returned (dres x y e)) W) : bodyPost Try.prog fn R .ret a W := by
  refine bodyPost_ret (v := dres x y e) ?_ hd hR
  have hl := run_loadVar_row (P := Try.prog) W g 56 56 _ _ _ hB Try.underlying56 rfl (by kernel_rfl)
  have hp' : a.tmps[p]?.getD undef = .pointer (some ⟨g, 0, none⟩) := by simpa using hp
  have hq' : a.tmps[q]?.getD undef = .int .i64 e := by simpa using hq
  simp [results, hres, hp', hq', asAddr, hl, dres, dvl]
theorem dappend_look (x y : Slt) (i : Int) (s : ByteArray) (w : World) (h : dlook x y i ≠ 0) :
    Calls Try.prog 25 #[dvl x y, .int .i64 i, .string s] w fun e w' => e = .returned (dres dzero dzero (dlook x y i)) ∧ Below w.heap.size w w' := by
  obtain ⟨a, sa⟩ := x
  obtain ⟨b, sb⟩ := y
  unfold dvl
  simp only
  go_enter Try.func25, Try.ntmps25
  go_wp2_with fail
  refine (dlook_any (a, sa) (b, sb) i _).mono ?_
  rintro e w1 ⟨rfl, hb1⟩
  have hD := (Blk.new w 56 #[.string a, .int .i64 sa, .string b, .int .i64 sb])
  have hR := (Blk.new (w.alloc (.cells #[.string a, .int .i64 sa, .string b, .int .i64 sb] 56)) 56 #[.string ⟨#[]⟩, .int .i64 0, .string ⟨#[]⟩, .int .i64 0]).below hb1 (by simp)
  simp only [World.size_alloc] at hR
  have hbw : Below w.heap.size w w1 := (((Below.refl w.heap.size w).alloc (Nat.le_refl _) _).alloc (by simp) _).trans (hb1.mono (by simp; omega))
  have hne : ((dlook (a, sa) (b, sb) i) != 0) = true := by simpa using h
  have c0 := hR.cell 0
  have c1 := hR.cell 1
  have c2 := hR.cell 2
  have c3 := hR.cell 3
  have f0 := hR.frozen 0
  have f1 := hR.frozen 1
  have f2 := hR.frozen 2
  have f3 := hR.frozen 3
  clear hb1 hD h
  have HR := Lib.hid hR
  clear hR
  go_wp2_with fail
  exact disk_end (g := w.heap.size + 1) (x := dzero) (y := dzero) rfl rfl rfl rfl ((((HR.out.set_ 0 _).set_ 1 _).set_ 2 _).set_ 3 _)
    ⟨rfl, (((hbw.setCell (p := ⟨w.heap.size + 1, 0, none⟩) (by simp) _).setCell (p := ⟨w.heap.size + 1, 1, none⟩) (by simp) _).setCell (p := ⟨w.heap.size + 1, 2, none⟩) (by simp) _).setCell (p := ⟨w.heap.size + 1, 3, none⟩) (by simp) _⟩
theorem dlook_zero (x y : Slt) (i : Int) (h : dlook x y i = 0) : (i = 0 ∨ i = 1) ∧ (x.1.size : Int) ≤ 1048576 ∧ (y.1.size : Int) ≤ 1048576 ∧ 0 ≤ x.2 ∧ x.2 ≤ (x.1.size : Int) ∧ 0 ≤ y.2 ∧ y.2 ≤ (y.1.size : Int) := by
  unfold dlook dchk at h
  rcases sbad_cases x with hx | hx | hx <;> rcases sbad_cases y with hy | hy | hy <;> simp [hx, hy] at h <;> omega
/-- Append, where the slot is there -/
def dapp (x y : Slt) (i : Int) (s : ByteArray) : Slt × Slt × Int :=
  if i = 0 then (if 1048576 < x.1.size + s.size then (dzero, dzero, 2) else ((x.1 ++ s, x.2), y, 0))
  else (if 1048576 < y.1.size + s.size then (dzero, dzero, 2) else (x, (y.1 ++ s, y.2), 0))
theorem dappend_good (x y : Slt) (i : Int) (s : ByteArray) (hs : s.size ≤ 140737488351232) (w : World) (h : dlook x y i = 0) :
    Calls Try.prog 25 #[dvl x y, .int .i64 i, .string s] w fun e w' => e = .returned (dres (dapp x y i s).1 (dapp x y i s).2.1 (dapp x y i s).2.2) ∧ Below w.heap.size w w' := by
  obtain ⟨a, sa⟩ := x
  obtain ⟨b, sb⟩ := y
  unfold dvl
  simp only
  have hz := dlook_zero _ _ _ h
  simp only at hz
  obtain ⟨hi, ha, hb, ha0, ha1, hb0, hb1'⟩ := hz
  go_enter Try.func25, Try.ntmps25
  go_wp2_with fail
  refine (dlook_any (a, sa) (b, sb) i _).mono ?_
  rintro e w1 ⟨rfl, hb1⟩
  have hD := ((Blk.new w 56 #[.string a, .int .i64 sa, .string b, .int .i64 sb]).alloc (.cells #[.string ⟨#[]⟩, .int .i64 0, .string ⟨#[]⟩, .int .i64 0] 56)).below hb1 (by simp; omega)
  have hR := (Blk.new (w.alloc (.cells #[.string a, .int .i64 sa, .string b, .int .i64 sb] 56)) 56 #[.string ⟨#[]⟩, .int .i64 0, .string ⟨#[]⟩, .int .i64 0]).below hb1 (by simp)
  simp only [World.size_alloc] at hR
  have hbw : Below w.heap.size w w1 := (((Below.refl w.heap.size w).alloc (Nat.le_refl _) _).alloc (by simp) _).trans (hb1.mono (by simp; omega))
  rw [h]
  have c0 := hR.cell 0
  have c1 := hR.cell 1
  have c2 := hR.cell 2
  have c3 := hR.cell 3
  have f0 := hR.frozen 0
  have f1 := hR.frozen 1
  have f2 := hR.frozen 2
  have f3 := hR.frozen 3
  have d0 := hD.cell 0
  have d1 := hD.cell 1
  have d2 := hD.cell 2
  have d3 := hD.cell 3
  have g0 := hD.frozen 0
  have g1 := hD.frozen 1
  have g2 := hD.frozen 2
  have g3 := hD.frozen 3
  clear hb1 h
  have HR := Lib.hid hR
  have HD := Lib.hid hD
  clear hR hD
  rcases hi with rfl | rfl
  · by_cases hl : 1048576 < (a.size : Int) + s.size
    · have he : dapp (a, sa) (b, sb) 0 s = (dzero, dzero, 2) := by unfold dapp; rw [if_pos rfl, if_pos (by simp only; omega)]
      have he' := Lib.hid he
      clear he
      go_wp2_with fail
      exact disk_end (g := w.heap.size + 1) (x := dzero) (y := dzero) (e := 2) rfl rfl rfl rfl ((((HR.out.set_ 0 _).set_ 1 _).set_ 2 _).set_ 3 _)
        ⟨by rw [he'.out], (((hbw.setCell (p := ⟨w.heap.size + 1, 0, none⟩) (by simp) _).setCell (p := ⟨w.heap.size + 1, 1, none⟩) (by simp) _).setCell (p := ⟨w.heap.size + 1, 2, none⟩) (by simp) _).setCell (p := ⟨w.heap.size + 1, 3, none⟩) (by simp) _⟩
    · have he : dapp (a, sa) (b, sb) 0 s = ((a ++ s, sa), (b, sb), 0) := by unfold dapp; rw [if_pos rfl, if_neg (by simp only; omega)]
      have he' := Lib.hid he
      clear he
      go_wp2_with fail
      refine disk_end (g := w.heap.size + 1) (x := (a ++ s, sa)) (y := (b, sb)) (e := 0) rfl rfl rfl rfl ((((((HR.out.far (p := ⟨w.heap.size, 0, none⟩) (by simp) _)).set_ 0 _).set_ 1 _).set_ 2 _).set_ 3 _)
        ⟨by rw [he'.out], ((((hbw.setCell (p := ⟨w.heap.size, 0, none⟩) (by simp) _).setCell (p := ⟨w.heap.size + 1, 0, none⟩) (by simp) _).setCell (p := ⟨w.heap.size + 1, 1, none⟩) (by simp) _).setCell (p := ⟨w.heap.size + 1, 2, none⟩) (by simp) _).setCell (p := ⟨w.heap.size + 1, 3, none⟩) (by simp) _⟩
  · by_cases hl : 1048576 < (b.size : Int) + s.size
    · have he : dapp (a, sa) (b, sb) 1 s = (dzero, dzero, 2) := by unfold dapp; rw [if_neg (by decide), if_pos (by simp only; omega)]
      have he' := Lib.hid he
      clear he
      go_wp2_with fail
      exact disk_end (g := w.heap.size + 1) (x := dzero) (y := dzero) (e := 2) rfl rfl rfl rfl ((((HR.out.set_ 0 _).set_ 1 _).set_ 2 _).set_ 3 _)
        ⟨by rw [he'.out], (((hbw.setCell (p := ⟨w.heap.size + 1, 0, none⟩) (by simp) _).setCell (p := ⟨w.heap.size + 1, 1, none⟩) (by simp) _).setCell (p := ⟨w.heap.size + 1, 2, none⟩) (by simp) _).setCell (p := ⟨w.heap.size + 1, 3, none⟩) (by simp) _⟩
    · have he : dapp (a, sa) (b, sb) 1 s = ((a, sa), (b ++ s, sb), 0) := by unfold dapp; rw [if_neg (by decide), if_neg (by simp only; omega)]
      have he' := Lib.hid he
      clear he
      go_wp2_with fail
      refine disk_end (g := w.heap.size + 1) (x := (a, sa)) (y := (b ++ s, sb)) (e := 0) rfl rfl rfl rfl ((((((HR.out.far (p := ⟨w.heap.size, 2, none⟩) (by simp) _)).set_ 0 _).set_ 1 _).set_ 2 _).set_ 3 _)
        ⟨by rw [he'.out], ((((hbw.setCell (p := ⟨w.heap.size, 2, none⟩) (by simp) _).setCell (p := ⟨w.heap.size + 1, 0, none⟩) (by simp) _).setCell (p := ⟨w.heap.size + 1, 1, none⟩) (by simp) _).setCell (p := ⟨w.heap.size + 1, 2, none⟩) (by simp) _).setCell (p := ⟨w.heap.size + 1, 3, none⟩) (by simp) _⟩
end Go.Proofs.Ytdaiemhepaakfaa
